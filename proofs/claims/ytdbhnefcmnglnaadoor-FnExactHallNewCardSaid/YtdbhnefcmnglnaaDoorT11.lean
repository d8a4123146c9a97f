/- Functions known by the program's own code and few hints: how each operation uses what it is given, the shapes at loops and joins, the types of new slices. -/
import Derived.Test.YtdbhnefcmnglnaaDoorT7
namespace Go.Proofs.YtdbhnefcmnglnaaDoor.Vm
open Go
set_option linter.unusedVariables false
set_option linter.unusedSimpArgs false

inductive HT where
  | e (e : ET)
  | j (s : Shs)
  | l (s o : Shs)
  | w (s : Shs)
abbrev Hts := List (Nat × HT)

section
variable {R : Type}
def htE (n : Nat) (hs : Hts) (k : ET → Hts → R) : R :=
  match hs with
  | (m, .e e) :: r => bif Nat.beq m n then k e r else k .unit hs
  | hs => k .unit hs
def htJ (n : Nat) (hs : Hts) (k : Option Shs → Hts → R) : R :=
  match hs with
  | (m, .j s) :: r => bif Nat.beq m n then k (some s) r else k none hs
  | hs => k none hs
def htL (n : Nat) (hs : Hts) (k : Option (Shs × Shs) → Hts → R) : R :=
  match hs with
  | (m, .l s o) :: r => bif Nat.beq m n then k (some (s, o)) r else k none hs
  | hs => k none hs
def htW (n : Nat) (hs : Hts) (k : Shs → Hts → R) : R :=
  match hs with
  | (m, .w s) :: r => bif Nat.beq m n then k s r else k ⟨[], []⟩ hs
  | hs => k ⟨[], []⟩ hs
def joinO : Option Shs → TC → TC
  | some s, t => .join s t
  | none, t => t
def btR : List XG → Nat → Hts → (List TG → Nat → Hts → R) → R
  | [], n, hs, k => k [] n hs
  | .p x :: l, n, hs, k => htE n hs fun e hs => btR l (n + 1) hs fun tl n hs => k (.p x e :: tl) n hs
  | .g t w d x :: l, n, hs, k => htE n hs fun e hs => btR l (n + 1) hs fun tl n hs => k (.g t w d x e :: tl) n hs
end
def spl : List XG → Option (List XG × Nat × Bool × XO)
  | [] => none
  | x :: l => match spl l with
    | some (l', r) => some (x :: l', r)
    | none => match x, l with
      | .p (.nilq d neg y), [] => some ([], d, neg, y)
      | _, _ => none
section
variable {R : Type}
def bt : XD → Nat → Hts → (TC → Nat → Hts → R) → R
  | .skip, n, hs, k => k .skip n hs
  | .reg es ops, n, hs, k => match es, spl ops with
    | none, some (l, d, neg, y) => btR l n hs fun l n hs => k (.nq l d neg y) n hs
    | es, _ => btR ops n hs fun l n hs => k (.reg es l) n hs
  | .seq a b, n, hs, k => htJ n hs fun j hs => bt a (n + 1) hs fun ta n hs => bt b n hs fun tb n hs => k (.seq (joinO j ta) tb) n hs
  | .cond c a b, n, hs, k => bt a n hs fun ta n hs => bt b n hs fun tb n hs => k (.cond c ta tb) n hs
  | .block id b, n, hs, k => match b with
    | .loop b => htL n hs fun j hs => match j with
      | some (s, o) => bt b (n + 1) hs fun tb n hs => k (.jl id s o tb) n hs
      | none => htW n hs fun s hs => bt b (n + 1) hs fun tb n hs => k (.block id (.loop s tb)) n hs
    | b => bt b n hs fun tb n hs => k (.block id tb) n hs
  | .loop b, n, hs, k => htW n hs fun s hs => bt b (n + 1) hs fun tb n hs => k (.loop s tb) n hs
  | .exit id, n, hs, k => k (.exit id) n hs
  | .ret, n, hs, k => k .ret n hs

theorem htE_v (n : Nat) (hs : Hts) (k : ET → Hts → R) : ∃ e hs', htE n hs k = k e hs' := by
  unfold htE; split
  · cases Nat.beq _ n <;> exact ⟨_, _, rfl⟩
  · exact ⟨_, _, rfl⟩
theorem htJ_v (n : Nat) (hs : Hts) (k : Option Shs → Hts → R) : ∃ e hs', htJ n hs k = k e hs' := by
  unfold htJ; split
  · cases Nat.beq _ n <;> exact ⟨_, _, rfl⟩
  · exact ⟨_, _, rfl⟩
theorem htL_v (n : Nat) (hs : Hts) (k : Option (Shs × Shs) → Hts → R) : ∃ e hs', htL n hs k = k e hs' := by
  unfold htL; split
  · cases Nat.beq _ n <;> exact ⟨_, _, rfl⟩
  · exact ⟨_, _, rfl⟩
theorem htW_v (n : Nat) (hs : Hts) (k : Shs → Hts → R) : ∃ e hs', htW n hs k = k e hs' := by
  unfold htW; split
  · cases Nat.beq _ n <;> exact ⟨_, _, rfl⟩
  · exact ⟨_, _, rfl⟩
theorem btR_v : ∀ (l : List XG) (n : Nat) (hs : Hts) (k : List TG → Nat → Hts → R), ∃ t n' hs', btR l n hs k = k t n' hs' ∧ t.map TG.x = l
  | [], n, hs, k => ⟨[], n, hs, rfl, rfl⟩
  | .p x :: l, n, hs, k => by
    obtain ⟨e, hs1, h1⟩ := htE_v n hs (fun e hs => btR l (n + 1) hs fun tl n hs => k (.p x e :: tl) n hs)
    obtain ⟨t, n', hs', h2, h3⟩ := btR_v l (n + 1) hs1 (fun tl n hs => k (.p x e :: tl) n hs)
    exact ⟨.p x e :: t, n', hs', by simp only [btR]; rw [h1, h2], by simp [TG.x, h3]⟩
  | .g tt w d x :: l, n, hs, k => by
    obtain ⟨e, hs1, h1⟩ := htE_v n hs (fun e hs => btR l (n + 1) hs fun tl n hs => k (.g tt w d x e :: tl) n hs)
    obtain ⟨t, n', hs', h2, h3⟩ := btR_v l (n + 1) hs1 (fun tl n hs => k (.g tt w d x e :: tl) n hs)
    exact ⟨.g tt w d x e :: t, n', hs', by simp only [btR]; rw [h1, h2], by simp [TG.x, h3]⟩
theorem spl_v : ∀ {l l' : List XG} {d : Nat} {neg : Bool} {y : XO}, spl l = some (l', d, neg, y) → l = l' ++ [.p (.nilq d neg y)]
  | [], _, _, _, _, h => by simp [spl] at h
  | x :: l, l', d, neg, y, h => by
    simp only [spl] at h
    split at h
    · rename_i l2 r hl
      simp only [Option.some.injEq, Prod.mk.injEq] at h
      obtain ⟨rfl, rfl⟩ := h
      rw [spl_v hl]; rfl
    · split at h
      · simp only [Option.some.injEq, Prod.mk.injEq] at h
        obtain ⟨rfl, rfl, rfl, rfl⟩ := h
        rfl
      · cases h
theorem joinO_x (j : Option Shs) (t : TC) : (joinO j t).x = t.x := by cases j <;> rfl
theorem bt_v : ∀ (x : XD) (n : Nat) (hs : Hts) (k : TC → Nat → Hts → R), ∃ t n' hs', bt x n hs k = k t n' hs' ∧ t.x = x
  | .skip, n, hs, k => ⟨_, _, _, rfl, rfl⟩
  | .exit id, n, hs, k => ⟨_, _, _, rfl, rfl⟩
  | .ret, n, hs, k => ⟨_, _, _, rfl, rfl⟩
  | .reg es ops, n, hs, k => by
    rw [bt.eq_def]
    show ∃ t n' hs', (match es, spl ops with
      | none, some (l, d, neg, y) => btR l n hs fun l n hs => k (.nq l d neg y) n hs
      | es, _ => btR ops n hs fun l n hs => k (.reg es l) n hs) = k t n' hs' ∧ t.x = XD.reg es ops
    obtain ⟨t, n', hs', h2, h3⟩ := btR_v ops n hs (fun l n hs => k (.reg es l) n hs)
    cases es with
    | some es => exact ⟨_, _, _, h2, by simp only [TC.x, h3]⟩
    | none =>
      cases hsp : spl ops with
      | none => exact ⟨_, _, _, h2, by simp only [TC.x, h3]⟩
      | some q =>
        obtain ⟨l, d, neg, y⟩ := q
        obtain ⟨t, n', hs', h2, h3⟩ := btR_v l n hs (fun l n hs => k (.nq l d neg y) n hs)
        exact ⟨_, _, _, h2, by simp only [TC.x, h3]; rw [spl_v hsp]⟩
  | .seq a b, n, hs, k => by
    obtain ⟨j, hs1, h1⟩ := htJ_v n hs (fun j hs => bt a (n + 1) hs fun ta n hs => bt b n hs fun tb n hs => k (.seq (joinO j ta) tb) n hs)
    obtain ⟨ta, n2, hs2, h2, h3⟩ := bt_v a (n + 1) hs1 (fun ta n hs => bt b n hs fun tb n hs => k (.seq (joinO j ta) tb) n hs)
    obtain ⟨tb, n3, hs3, h4, h5⟩ := bt_v b n2 hs2 (fun tb n hs => k (.seq (joinO j ta) tb) n hs)
    exact ⟨_, _, _, by simp only [bt]; rw [h1, h2, h4], by simp only [TC.x, joinO_x, h3, h5]⟩
  | .cond c a b, n, hs, k => by
    obtain ⟨ta, n2, hs2, h2, h3⟩ := bt_v a n hs (fun ta n hs => bt b n hs fun tb n hs => k (.cond c ta tb) n hs)
    obtain ⟨tb, n3, hs3, h4, h5⟩ := bt_v b n2 hs2 (fun tb n hs => k (.cond c ta tb) n hs)
    exact ⟨_, _, _, by simp only [bt]; rw [h2, h4], by simp only [TC.x, h3, h5]⟩
  | .block id b, n, hs, k => by
    cases b with
    | loop b =>
      obtain ⟨j, hs1, h1⟩ := htL_v n hs (fun j hs => match j with
        | some (s, o) => bt b (n + 1) hs fun tb n hs => k (.jl id s o tb) n hs
        | none => htW n hs fun s hs => bt b (n + 1) hs fun tb n hs => k (.block id (.loop s tb)) n hs)
      have h0 : bt (.block id (.loop b)) n hs k = htL n hs (fun j hs => match j with
        | some (s, o) => bt b (n + 1) hs fun tb n hs => k (.jl id s o tb) n hs
        | none => htW n hs fun s hs => bt b (n + 1) hs fun tb n hs => k (.block id (.loop s tb)) n hs) := by rw [bt]
      rw [h0, h1]
      cases j with
      | some p =>
        obtain ⟨s, o⟩ := p
        obtain ⟨tb, n3, hs3, h4, h5⟩ := bt_v b (n + 1) hs1 (fun tb n hs => k (.jl id s o tb) n hs)
        exact ⟨_, _, _, h4, by simp only [TC.x, h5]⟩
      | none =>
        obtain ⟨s, hs2, h2⟩ := htW_v n hs1 (fun s hs => bt b (n + 1) hs fun tb n hs => k (.block id (.loop s tb)) n hs)
        obtain ⟨tb, n3, hs3, h4, h5⟩ := bt_v b (n + 1) hs2 (fun tb n hs => k (.block id (.loop s tb)) n hs)
        exact ⟨_, _, _, by show htW n hs1 _ = _; rw [h2, h4], by simp only [TC.x, h5]⟩
    | _ =>
      all_goals
        obtain ⟨tb, n3, hs3, h4, h5⟩ := bt_v _ n hs (fun tb n hs => k (.block id tb) n hs)
        exact ⟨_, _, _, h4, by simp only [TC.x, h5]⟩
  | .loop b, n, hs, k => by
    obtain ⟨s, hs2, h2⟩ := htW_v n hs (fun s hs => bt b (n + 1) hs fun tb n hs => k (.loop s tb) n hs)
    obtain ⟨tb, n3, hs3, h4, h5⟩ := bt_v b (n + 1) hs2 (fun tb n hs => k (.loop s tb) n hs)
    exact ⟨_, _, _, by simp only [bt]; rw [h2, h4], by simp only [TC.x, h5]⟩
end
/-- A function's typed code, out of the program and the hints. -/
def cF (P : Program) (f : Nat) (an : Ann) (hs : Hts) : TF := match mH P f an with
  | some (x, N, np, rs) => bt x 0 hs fun t _ _ => ⟨t, N, np, rs⟩
  | none => ⟨.skip, 0, 0, []⟩
def lps : TC → List TC
  | .seq a b => lps a ++ lps b
  | .cond _ a b => lps a ++ lps b
  | .block _ b | .loop _ b | .join _ b => lps b
  | .jl _ _ _ b => lps b ++ [b]
  | _ => []
def lpB (F : TF) (k : Nat) : TC := (lps F.code).getD (k - 1) .skip
def chk (P : Program) (f : Nat) (an : Ann) (a r : Nat) (outs : List Nat) : Bool := match mH P f an with
  | some (_, _, np, rs) => Nat.beq a np && (Nat.beq rs.length r && outs.all fun i => Nat.blt i np)
  | none => false
theorem evF_okc {P : Program} {H : List TFn} {f : Nat} {an : Ann} {hs : Hts} {args : List Sh} {outs : List Nat} {res os : List Sh} (hm : P.follows .mixedOrders = true) (hH : ∀ F ∈ H, FnOk P F)
    (hc : chk P f an args.length res.length outs = true) : FnOk P ⟨f, args, outs, res, os, evF H (cF P f an hs) args outs res os⟩ := by
  unfold chk at hc
  split at hc
  · rename_i x N np rs hx
    simp only [Bool.and_eq_true] at hc
    obtain ⟨h1, h2, h3⟩ := hc
    have e : ∃ t, cF P f an hs = ⟨t, N, np, rs⟩ ∧ t.x = x := by
      unfold cF; rw [hx]
      obtain ⟨t, n', hs', h4, h5⟩ := bt_v x 0 hs (fun t _ _ => (⟨t, N, np, rs⟩ : TF))
      exact ⟨t, h4, h5⟩
    obtain ⟨t, e1, e2⟩ := e
    rw [e1]
    refine evF_ok hm hH (F := ⟨t, N, np, rs⟩) (by rw [hx, e2]) ⟨Nat.eq_of_beq_eq_true h1, Nat.eq_of_beq_eq_true h2, ?_⟩
    rw [List.all_eq_true] at h3 ⊢
    intro i hi
    have := h3 i hi
    rw [Nat.blt_eq] at this
    exact decide_eq_true this
  · cases hc
/-- A function, and a loop of it, short. -/
noncomputable def fnC (H : List TFn) (F : TF) (f : Nat) (args : List Sh) (outs : List Nat) (res os : List Sh) : TFn := ⟨f, args, outs, res, os, evF H F args outs res os⟩
noncomputable def lC (G : TFn) (H : List TFn) (F : TF) (id : Nat) (s o : Shs) (k : Nat) : Nat → Den s.sh → Option (Den o.sh ⊕ Den (G.res ++ G.os)) := evL H (finT F.res G.outs (G.res ++ G.os)) id s o (lpB F k)
theorem okC {P : Program} {H : List TFn} {f : Nat} {an : Ann} {hs : Hts} {args : List Sh} {outs : List Nat} {res os : List Sh} (hm : P.follows .mixedOrders = true) (hH : ∀ F ∈ H, FnOk P F)
    (hc : chk P f an args.length res.length outs = true) : FnOk P (fnC H (cF P f an hs) f args outs res os) := evF_okc hm hH hc
end Go.Proofs.YtdbhnefcmnglnaaDoor.Vm
