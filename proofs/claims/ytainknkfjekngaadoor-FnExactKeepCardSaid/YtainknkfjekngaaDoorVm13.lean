/- What a row hands a law, as the machine reads it; and what the machine's word is worth to the row. -/
import Derived.Test.YtainknkfjekngaaDoorVm12
import Derived.ProofKit
namespace Go.Proofs.YtainknkfjekngaaDoor.Vm
open Go Go.ChangeShapes Go.WideShapes Go.ChangeAt Go.RowKit
set_option linter.unusedVariables false
set_option linter.unusedSimpArgs false

inductive Ty where
  | int (k : IntKind)
  | str
  | bool
  | st (l : List Ty)
  | sl (n : Nat) (e : Ty)

mutual
def Ty.Has : Ty → List V → Prop
  | .int k, v => ∃ n, v = [.lit (.int k n)] ∧ (Lit.int k n).wf = true
  | .str, v => ∃ s : Str, v = [vs s] ∧ s.length ≤ maxLen
  | .bool, v => ∃ b, v = [vb b]
  | .st l, v => HasL l v
  | .sl n e, v => ∃ es, v = [.sl false n es] ∧ es.length ≤ maxLen ∧ ∀ x ∈ es, e.Has x
def HasL : List Ty → List V → Prop
  | [], v => v = []
  | t :: l, v => ∃ a b, v = a ++ b ∧ t.Has a ∧ HasL l b
end

def tyF (P : Program) (rec : TypeId → Option Ty) (total : Nat) : Nat → List Field → Option (List Ty)
  | off, [] => if off = total then some [] else none
  | off, f :: fs => if f.offset = off then match rec f.type, tyF P rec total (off + P.cellsOf f.type) fs with
      | some t, some l => some (t :: l)
      | _, _ => none
    else none
def tyOf (P : Program) : Nat → TypeId → Option Ty
  | 0, _ => none
  | n + 1, t => match P.underlying t with
    | some .bool => some .bool
    | some .string => some .str
    | some (.int k) => some (.int k)
    | some (.slice e) => if 0 < P.cellsOf e then (tyOf P n e).map (.sl (P.cellsOf e)) else none
    | some (.struct fs) => (tyF P (tyOf P n) (P.cellsOf t) 0 fs.toList).map .st
    | _ => none

section
variable {H : Type} {enc : TypeId × Value → H} {P : Program} {w : World} {base : Nat} {spare : Nat → Bool} {held : Bool} {S : CS} {A : AlSem}

theorem pick_list {α : Type} {n : Nat} {Q : Nat → α → Prop} (h : ∀ i, i < n → ∃ a, Q i a) (a0 : α) : ∃ l : List α, l.length = n ∧ ∀ i a, l[i]? = some a → Q i a := by
  induction n with
  | zero => exact ⟨[], rfl, by simp⟩
  | succ n ih =>
    obtain ⟨l, hl, hq⟩ := ih (fun i hi => h i (by omega))
    obtain ⟨a, ha⟩ := h n (by omega)
    refine ⟨l ++ [a], by simp [hl], fun i b hb => ?_⟩
    by_cases hi : i < n
    · rw [List.getElem?_append_left (by omega)] at hb; exact hq i b hb
    · have hlt := (List.getElem?_eq_some_iff.1 hb).1
      simp [hl] at hlt
      have : i = n := by omega
      subst this
      rw [List.getElem?_append_right (by omega)] at hb
      simp [hl] at hb
      subst hb; exact ha

theorem rll_none : ∀ {es : List (List V)} {uss : List (List Value)}, es.length = uss.length → (∀ (i : Nat) (e : List V) (us : List Value), es[i]? = some e → uss[i]? = some us → RL w S A e us CS.none) → RLL w S A es uss CS.none
  | [], [], _, _ => rfl
  | e :: es, us :: uss, hl, h => ⟨us, uss, CS.none, CS.none, rfl, CS.none_le _, CS.none_le _, CS.none_dj _, h 0 e us rfl rfl, rll_none (by simpa using hl) (fun i e us h1 h2 => h (i + 1) e us (by simpa using h1) (by simpa using h2))⟩
  | [], _ :: _, hl, _ => by simp at hl
  | _ :: _, [], hl, _ => by simp at hl

theorem cells_get {a : Addr} {n : Nat} {cs : List Value} (h : w.cells? base a n = some cs) : cs.length = n ∧ ∀ k, k < n → w.cell? (a.add k) = cs[k]? := (World.cells?_some h).2

theorem tyF_tree {rec : TypeId → Option Ty} {cs : List Value} {fuel : Nat}
    (hrec : ∀ t ty, rec t = some ty → ∀ cs x, DataW.trod enc P w base spare held fuel t cs = some x → ∃ v, ty.Has v ∧ RL w S A v cs CS.none) :
    ∀ (fs : List Field) (off : Nat) (l : List Ty), tyF P rec cs.length off fs = some l →
      (∀ f ∈ fs, ∃ x, DataW.trod enc P w base spare held fuel f.type ((cs.drop f.offset).take (P.cellsOf f.type)) = some x) →
      ∃ v, HasL l v ∧ RL w S A v (cs.drop off) CS.none
  | [], off, l, h, _ => by
    simp only [tyF] at h
    split at h
    · rename_i hoff
      simp only [Option.some.injEq] at h; subst h
      exact ⟨[], rfl, by rw [hoff]; simp [RL]⟩
    · cases h
  | f :: fs, off, l, h, hx => by
    simp only [tyF] at h
    split at h
    · rename_i hoff
      split at h
      · rename_i t l' ht hl'
        simp only [Option.some.injEq] at h; subst h
        obtain ⟨x, hx0⟩ := hx f (by simp)
        obtain ⟨v1, h1, r1⟩ := hrec _ _ ht _ _ hx0
        obtain ⟨v2, h2, r2⟩ := tyF_tree hrec fs _ l' hl' (fun g hg => hx g (by simp [hg]))
        refine ⟨v1 ++ v2, ⟨v1, v2, rfl, h1, h2⟩, ?_⟩
        have := RL.append (CS.le.refl _) (CS.le.refl _) (CS.none_dj _) r1 r2
        rw [hoff] at this
        rwa [← List.drop_drop, List.take_append_drop] at this
      · cases h
    · cases h

theorem trod_tree (hS : ∀ b x v, w.cell? ⟨b, x, none⟩ = some v → S b x) : ∀ (n : Nat) (t : TypeId) (ty : Ty), tyOf P n t = some ty → ∀ (fuel : Nat) (cs : List Value) (x : DataW H × List MemPlace),
    DataW.trod enc P w base spare held fuel t cs = some x → ∃ v, ty.Has v ∧ RL w S A v cs CS.none := by
  intro n
  induction n with
  | zero => intro t ty h; simp [tyOf] at h
  | succ n ih =>
    intro t ty hty fuel cs x hx
    have one : ∀ (v : V) (u : Value), RV w S A v u CS.none → RL w S A [v] [u] CS.none := fun v u h => ⟨u, [], CS.none, CS.none, rfl, CS.none_le _, CS.none_le _, CS.none_dj _, h, rfl⟩
    simp only [tyOf] at hty
    split at hty
    · rename_i ht
      cases hty
      obtain ⟨b, rfl, _⟩ := DataW.trod_bool ht hx
      exact ⟨_, ⟨b, rfl⟩, one _ _ rfl⟩
    · rename_i ht
      cases hty
      obtain ⟨s, rfl, _, hs⟩ := DataW.trod_string ht hx
      refine ⟨[vs s.data.toList], ⟨s.data.toList, rfl, by rw [Array.length_toList]; exact hs⟩, one _ _ ?_⟩
      show Value.string s = .string (ba s.data.toList)
      simp [ba]
    · rename_i k ht
      cases hty
      obtain ⟨m, rfl, _, hm⟩ := DataW.trod_int ht hx
      exact ⟨_, ⟨m, rfl, hm⟩, one _ _ rfl⟩
    · rename_i e ht
      split at hty
      · rename_i hn0
        obtain ⟨te, hte, rfl⟩ := Option.map_eq_some_iff.1 hty
        rcases DataW.trod_slice ht hx with ⟨rfl, _⟩ | ⟨a, len, cap, elems, rest, m, _, rfl, _, _, hlc, hcm, hel, hall, _, _⟩
        · exact ⟨_, ⟨[], rfl, by simp, by simp⟩, one _ _ ⟨none, 0, rfl, ⟨Nat.le_refl _, by decide⟩, .inl ⟨rfl, rfl⟩⟩⟩
        · have hstep : ∀ i, i < len → ∃ p : List V × List Value, te.Has p.1 ∧ RL w S A p.1 p.2 CS.none ∧ p.2.length = P.cellsOf e ∧ ∀ k, k < P.cellsOf e → w.cell? ((a.add (i * P.cellsOf e)).add k) = p.2[k]? := by
            intro i hi
            have h1 := hall i hi
            rw [List.getElem?_eq_getElem (by omega)] at h1
            obtain ⟨us, h2, h3⟩ := Option.bind_eq_some_iff.1 h1
            obtain ⟨v, h4, h5⟩ := ih e te hte _ _ _ h3
            obtain ⟨h6, h7⟩ := cells_get h2
            exact ⟨(v, us), h4, h5, h6, h7⟩
          by_cases h0 : len = 0
          · subst h0
            exact ⟨_, ⟨[], rfl, by simp, by simp⟩, one _ _ ⟨some a, cap, rfl, ⟨Nat.zero_le _, Nat.le_trans hcm (by decide)⟩, .inl ⟨rfl, rfl⟩⟩⟩
          · obtain ⟨l, hll, hq⟩ := pick_list hstep ([], [])
            have hsp : a.spot = none := by
              obtain ⟨p, _, _, hpl, hpc⟩ := hstep 0 (by omega)
              have := hpc 0 hn0
              rw [List.getElem?_eq_getElem (by omega)] at this
              simp only [Nat.zero_mul, Addr.add, if_true] at this
              unfold World.cell? at this
              split at this
              · split at this
                · cases this
                · rename_i h; simpa using h
              · cases this
            obtain ⟨b, o, sp⟩ := a
            simp only at hsp; subst hsp
            have hcell : ∀ i k, i < len → k < P.cellsOf e → w.cell? ⟨b, o + (i * P.cellsOf e + k), none⟩ = ((l.map (·.2))[i]?.bind (·[k]?)) := by
              intro i k hi hk
              have h1 := (hq i l[i] (List.getElem?_eq_getElem (by omega))).2.2.2 k hk
              rw [addr_add, addr_add] at h1
              rw [show o + (i * P.cellsOf e + k) = o + i * P.cellsOf e + k by omega, h1]
              simp [List.getElem?_eq_getElem (show i < l.length by omega)]
            refine ⟨[.sl false (P.cellsOf e) (l.map (·.1))], ⟨l.map (·.1), rfl, by simp; omega, ?_⟩, one _ _ ⟨some ⟨b, o, none⟩, cap, by simp [hll], ⟨by simp; omega, Nat.le_trans hcm (by decide)⟩, .inr (.inr ⟨b, o, l.map (·.2), rfl, ?_, ?_, ?_, ?_, ?_⟩)⟩⟩
            · intro v hv
              obtain ⟨p, hp, rfl⟩ := List.mem_map.1 hv
              obtain ⟨i, hi⟩ := List.getElem?_of_mem hp
              exact (hq i p hi).1
            · intro v hv
              obtain ⟨p, hp, rfl⟩ := List.mem_map.1 hv
              obtain ⟨i, hi⟩ := List.getElem?_of_mem hp
              obtain ⟨_, h2, h3, _⟩ := hq i p hi
              rw [← RL.length h2, h3]
            · intro i k hi hk
              simp at hi
              exact hcell i k (by omega) hk
            · intro h; cases h
            · intro _ y hy
              simp at hy
              have h1 : y / P.cellsOf e < len := Nat.div_lt_of_lt_mul (by rw [Nat.mul_comm, ← hll]; exact hy)
              have h2 : y % P.cellsOf e < P.cellsOf e := Nat.mod_lt _ hn0
              have h3 := hcell _ _ h1 h2
              rw [Nat.mul_comm (y / _), Nat.div_add_mod] at h3
              have h4 := (hq _ l[y / P.cellsOf e] (List.getElem?_eq_getElem (by omega))).2.2.1
              have : ∃ v, w.cell? ⟨b, o + y, none⟩ = some v := by
                rw [h3]
                simp [List.getElem?_eq_getElem (show y / P.cellsOf e < l.length by omega)]
                exact ⟨_, List.getElem?_eq_getElem (by omega)⟩
              obtain ⟨v, hv⟩ := this
              exact hS b _ v hv
            · simp only [Bool.false_eq_true, if_false]
              refine rll_none (by simp) (fun i e us h1 h2 => ?_)
              simp only [List.getElem?_map, Option.map_eq_some_iff] at h1 h2
              obtain ⟨p, hp, rfl⟩ := h1
              obtain ⟨p', hp', rfl⟩ := h2
              rw [hp] at hp'; cases hp'
              exact (hq i p hp).2.1
      · cases hty
    · rename_i fs ht
      obtain ⟨l, hl, rfl⟩ := Option.map_eq_some_iff.1 hty
      obtain ⟨xs, m, _, _, hlen, hxl, hall⟩ := DataW.trod_struct ht hx
      rw [← hlen] at hl
      obtain ⟨v, h1, h2⟩ := tyF_tree (fun t ty ht cs x hx => ih t ty ht m cs x hx) fs.toList 0 l hl (fun f hf => by
        obtain ⟨i, hi⟩ := List.getElem?_of_mem hf
        have h3 := hall i f (by simpa using hi)
        have hlt := (List.getElem?_eq_some_iff.1 hi).1
        rw [List.getElem?_eq_getElem (by simp at hlt; omega)] at h3
        exact ⟨_, h3⟩)
      exact ⟨v, h1, by simpa using h2⟩
    · cases hty

/-- An argument: a struct whole, else one cell. -/
def Ty.Arg : Ty → V → Prop
  | .st l, v => ∃ vs, v = .agg vs ∧ HasL l vs
  | t, v => t.Has [v]
def ArgsL : List Ty → List V → Prop
  | [], vs => vs = []
  | t :: ts, vs => ∃ v r, vs = v :: r ∧ t.Arg v ∧ ArgsL ts r

theorem leaf_has {ty : Ty} (h : ∀ l, ty ≠ .st l) {vs : List V} (hv : ty.Has vs) : ∃ v, vs = [v] := by
  cases ty with
  | int k => obtain ⟨n, rfl, _⟩ := hv; exact ⟨_, rfl⟩
  | str => obtain ⟨n, rfl, _⟩ := hv; exact ⟨_, rfl⟩
  | bool => obtain ⟨n, rfl⟩ := hv; exact ⟨_, rfl⟩
  | sl n e => obtain ⟨es, rfl, _⟩ := hv; exact ⟨_, rfl⟩
  | st l => exact absurd rfl (h l)

theorem arg_tree (hS : ∀ b x v, w.cell? ⟨b, x, none⟩ = some v → S b x) {n : Nat} {t : TypeId} {ty : Ty} (hty : tyOf P n t = some ty) {r : Reach} {b0 : Nat} {v : Value} (hok : Value.okWide P w r b0 t v)
    {d : DataW H} {ps : List MemPlace} (ht : DataW.Trod enc P w base spare held t v d ps) : ∃ x, ty.Arg x ∧ RV w S A x v CS.none := by
  obtain ⟨fuel, ht⟩ := ht
  obtain ⟨vs, h1, h2⟩ := trod_tree hS n t ty hty fuel _ _ ht
  cases n with
  | zero => simp [tyOf] at hty
  | succ n =>
    have single : (∀ l, ty ≠ .st l) → v.cells = #[v] → ∃ x, ty.Arg x ∧ RV w S A x v CS.none := by
      intro hns hc
      obtain ⟨x, rfl⟩ := leaf_has hns h1
      rw [hc] at h2
      obtain ⟨u, ur, F1, F2, he, l1, l2, _, hv, hr⟩ := h2
      simp at he
      obtain ⟨rfl, rfl⟩ := he
      refine ⟨x, ?_, hv.mono l1⟩
      cases ty with
      | st l => exact absurd rfl (hns l)
      | _ => exact h1
    simp only [tyOf] at hty
    unfold Value.okWide at hok
    split at hty
    · rename_i hu
      cases hty
      simp only [hu, Cell.okWide, Cell.ok] at hok
      refine single (by simp) ?_
      cases v <;> first | rfl | exact hok.elim
    · rename_i hu
      cases hty
      simp only [hu, Cell.okWide, Cell.ok] at hok
      refine single (by simp) ?_
      cases v <;> first | rfl | exact hok.elim
    · rename_i hu
      cases hty
      simp only [hu, Cell.okWide, Cell.ok] at hok
      refine single (by simp) ?_
      cases v <;> first | rfl | exact hok.elim
    · rename_i e hu
      split at hty
      · obtain ⟨te, _, rfl⟩ := Option.map_eq_some_iff.1 hty
        simp only [hu, Cell.okWide, Cell.ok] at hok
        refine single (by simp) ?_
        cases v <;> first | rfl | exact hok.elim
      · cases hty
    · rename_i fs hu
      obtain ⟨l, _, rfl⟩ := Option.map_eq_some_iff.1 hty
      simp only [hu] at hok
      obtain ⟨cs, rfl, _⟩ := hok
      exact ⟨.agg vs, ⟨vs, rfl, h1⟩, ⟨cs.toList, by simp, by simpa [Value.cells] using h2⟩⟩
    · cases hty

def tysOf (P : Program) : List TypeId → Option (List Ty)
  | [] => some []
  | t :: ts => match tyOf P 20 t, tysOf P ts with
    | some a, some b => some (a :: b)
    | _, _ => none

theorem args_tree {b0 : Nat} (hS : ∀ b x v, w.cell? ⟨b, x, none⟩ = some v → S b x) : ∀ (ts : List TypeId) (tys : List Ty) (vals : List Value) (ds : List (DataW H)) (ps : List MemPlace), tysOf P ts = some tys →
    (∀ (j : Nat) t v, ts[j]? = some t → vals[j]? = some v → Value.okWide P w .any b0 t v) → DataW.TrodAll enc P w base spare held ts vals ds ps → ∃ vs, ArgsL tys vs ∧ RL w S A vs vals CS.none
  | [], tys, vals, ds, ps, ht, _, h => by
    simp only [tysOf, Option.some.injEq] at ht; subst ht
    cases vals with
    | nil => exact ⟨[], rfl, rfl⟩
    | cons v vs => cases ds <;> simp [DataW.TrodAll] at h
  | t :: ts, tys, vals, ds, ps, ht, hok, h => by
    simp only [tysOf] at ht
    split at ht
    · rename_i a b h1 h2
      simp only [Option.some.injEq] at ht; subst ht
      match vals, ds, h with
      | v :: vs, d :: ds, h =>
        obtain ⟨p, q, h3, h4, _⟩ := h
        obtain ⟨x, hx, hr⟩ := arg_tree (A := A) hS h1 (hok 0 t v rfl rfl) h3
        obtain ⟨xs, hxs, hrs⟩ := args_tree hS ts b vs ds q h2 (fun j t v h5 h6 => hok (j + 1) t v (by simpa using h5) (by simpa using h6)) h4
        exact ⟨x :: xs, ⟨x, xs, rfl, hx, hxs⟩, v, vs, CS.none, CS.none, rfl, CS.none_le _, CS.none_le _, CS.none_dj _, hr, hrs⟩
      | [], _, h => simp [DataW.TrodAll] at h
      | _ :: _, [], h => simp [DataW.TrodAll] at h
    · cases ht

theorem pres_obj {w w' : World} (h : Pres CS.none w w') {i : Nat} (hi : i < w.heap.size) : w'.heap[i]? = w.heap[i]? := h.block hi (fun _ h => h)

theorem Pres.kept {w w' : World} (h : Pres CS.none w w') (may : MemPlace → Prop) : w.keptBut w' may := by
  refine ⟨h.os, h.output, fun i hi => ?_⟩
  rw [pres_obj h hi]
  cases ho : w.heap[i]? with
  | none => simp
  | some o => cases o <;> simp

theorem Pres.same {w w' : World} (h : Pres CS.none w w') {p : MemPlace} (hp : p.block < w.heap.size) : w.sameAt w' p := by
  cases p with
  | cell b o =>
    have := pres_obj h (i := b) hp
    simp only [World.sameAt, World.cell?, this]
  | map b => exact pres_obj h hp

theorem trodAll_stays {base : Nat} (hl : laidOutB P = true) {w w' : World} {sp : Nat → Bool} : ∀ (ts : List TypeId) (vs : List Value) (ds : List (DataW H)) (ps : List MemPlace), (∀ t ∈ ts, P.readableRec t = true ∧ t < P.types.size) →
    DataW.TrodAll enc P w base (fun _ => true) true ts vs ds ps → (∀ p ∈ ps, w.sameAt w' p) → (∀ p ∈ ps, sp p.block = true) → DataW.TrodAll enc P w' base sp true ts vs ds ps
  | [], vs, ds, ps, _, h, _, _ => by
    cases vs <;> cases ds <;> first | exact h | exact h.elim
  | t :: ts, vs, ds, ps, hr, h, h1, h2 => by
    match vs, ds, h with
    | v :: vs, d :: ds, h =>
      obtain ⟨p, q, h3, h4, rfl⟩ := h
      obtain ⟨r1, r2⟩ := hr t (by simp)
      exact ⟨p, q, WideElems.Trod_stays hl r1 r2 h3 (fun x hx => h1 x (by simp [hx])) (fun x hx => h2 x (by simp [hx])), trodAll_stays hl ts vs ds q (fun t ht => hr t (by simp [ht])) h4 (fun x hx => h1 x (by simp [hx])) (fun x hx => h2 x (by simp [hx])), rfl⟩
    | [], _, h => exact h.elim
    | _ :: _, [], h => exact h.elim

theorem trodAll_len {base : Nat} {w : World} : ∀ (ts : List TypeId) (vs : List Value) (ds : List (DataW H)) (ps : List MemPlace), DataW.TrodAll enc P w base spare held ts vs ds ps → ds.length = ts.length
  | [], vs, ds, ps, h => by cases vs <;> cases ds <;> first | rfl | exact h.elim
  | t :: ts, vs, ds, ps, h => by
    match vs, ds, h with
    | v :: vs, d :: ds, h =>
      obtain ⟨p, q, h3, h4, rfl⟩ := h
      simp [trodAll_len ts vs ds q h4]
    | [], _, h => exact h.elim
    | _ :: _, [], h => exact h.elim

/-- THE MACHINE's WORD IS WORTH THE ROW's: a law that returns true of whatever fits its types. -/
theorem law_step {f : Nat} {fn : Func} {s : ChangeSpec} {tb : TypeId} {tys : List Ty} (enc : TypeId × Value → H) (hv : s.vars = []) (hfn : ∀ ds : List (DataW H), ds.length = fn.params.size → s.fn H ds = { results := [.lit (.bool true)], args := ds })
    (hres : fn.resultTypes = #[tb]) (htb : P.underlying tb = some .bool) (hl : laidOutB P = true) (hread : ∀ t ∈ fn.params.toList, P.readableRec t = true ∧ t < P.types.size) (htys : tysOf P fn.params.toList = some tys)
    (hlaw : ∀ vs, ArgsL tys vs → Ok P f vs (fun r _ => r = vb true)) {fresh handsOn : Bool} (W : World) (hT : doorB P = true → TabW P W) (b0 : Nat) (args : Array Value) (ds gs : List (DataW H)) (before : List MemPlace)
    (hval : ∀ (j : Nat) t v, fn.params[j]? = some t → args[j]? = some v → Value.okWide P W .any b0 t v) (hW : DataW.Whole enc P fn.params.toList s.vars false W args.toList ds gs before) :
    Calls P f args W fun e W' => ∃ v, e = .returned v ∧ s.post enc P fn false fresh handsOn false W args v W' := by
  have hW' := hW
  obtain ⟨p, q, hA, hV, rfl, hfz, _⟩ := hW
  rw [hv] at hV
  obtain ⟨rfl, rfl⟩ := trodVars_none hV
  have hdl := trodAll_len _ _ _ _ hA
  obtain ⟨vs, hvs, hrl⟩ := args_tree (S := fun b _ => b < W.heap.size) (A := A0) (b0 := b0) (fun b x v hc => (by
    unfold World.cell? at hc
    split at hc
    · rename_i h; exact heap_lt h
    · cases hc)) _ tys _ _ _ htys (fun j t v h1 h2 => hval j t v (by simpa using h1) (by simpa using h2)) hA
  have hc := hlaw vs hvs W (fun b _ => b < W.heap.size) CS.none args.toList (fun hd name ok hm g hg => by obtain ⟨h1, h2⟩ := hT hd name ok hm g hg; exact ⟨fun _ => h1, h1, h2⟩) (CS.none_dj _) (fun _ _ h => h.elim) (fun _ _ h => h) hrl
  simp only [Array.toArray_toList] at hc
  refine hc.mono fun e W' hL => ?_
  obtain ⟨v, res, outs, S', Fr, Fo, rfl, hR, _, _, _, _, hrv, _, hp, _, _⟩ := hL
  subst hR
  have hvv : v = .bool true := hrv
  subst hvv
  have hlt : ∀ x ∈ p, x.block < W.heap.size := fun x hx => hW'.lt x (by simp [hx])
  refine ⟨_, rfl, ds, [], p ++ [], [], p, [], hW', ?_, ?_, ?_, hp.kept _, fun h => by cases h⟩
  · rw [List.append_nil, hfn ds (by simpa using hdl), hres]
    exact trodAll_mk1 (shut_bool htb true)
  · rw [List.append_nil, hfn ds (by simpa using hdl)]
    exact trodAll_stays hl _ _ _ _ hread hA (fun x hx => hp.same (hlt x hx)) (fun x hx => by simpa using hlt x hx)
  · rw [List.append_nil, hfn ds (by simpa using hdl), hv]
    rfl
end
end Go.Proofs.YtainknkfjekngaaDoor.Vm
