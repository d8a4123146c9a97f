/- Calls: what a function owes, and how a call is met. -/
import Derived.Test.YtainknkfjekngaaDoorVm8
namespace Go.Proofs.YtainknkfjekngaaDoor.Vm
open Go
set_option linter.unusedVariables false
set_option linter.unusedSimpArgs false

/-- No name of a place in it. -/
def V.na : V → Bool
  | .lit _ | .hole | .bld _ _ _ => true
  | .agg cs | .tup cs | .box cs | .rp cs | .fn _ cs => go cs
  | .sl _ _ es => goo es
  | .al _ | .tl _ _ => false
where
  go : List V → Bool
    | [] => true
    | v :: vs => v.na && go vs
  goo : List (List V) → Bool
    | [] => true
    | e :: es => go e && goo es

mutual
theorem RV.na {w : World} {S : CS} {A A' : AlSem} : ∀ (v : V) (u : Value) (F : CS), v.na = true → RV w S A v u F → RV w S A' v u F
  | .lit _, _, _, _, h => h
  | .hole, _, _, _, _ => trivial
  | .agg cs, _, F, hc, h => by obtain ⟨us, rfl, h⟩ := h; exact ⟨us, rfl, RL.na cs us F hc h⟩
  | .tup cs, _, F, hc, h => by obtain ⟨us, rfl, h⟩ := h; exact ⟨us, rfl, RL.na cs us F hc h⟩
  | .box cs, _, F, hc, h => by
    obtain ⟨b, o, us, rfl, h1, h⟩ := h
    exact ⟨b, o, us, rfl, h1, RL.na cs us _ hc h⟩
  | .rp cs, _, F, hc, h => by
    obtain ⟨b, o, us, rfl, h1, h⟩ := h
    exact ⟨b, o, us, rfl, h1, RL.na cs us _ hc h⟩
  | .sl own n es, _, F, hc, h => by
    obtain ⟨a, cap, rfl, hcap, h⟩ := h
    refine ⟨a, cap, rfl, hcap, ?_⟩
    rcases h with h | h | ⟨b, o, uss, rfl, hl, hx, hO, hN, h⟩
    · exact .inl h
    · exact .inr (.inl h)
    · exact .inr (.inr ⟨b, o, uss, rfl, hl, hx, hO, hN, RLL.na es uss _ hc h⟩)
  | .al x, _, _, hc, h => by simp [V.na] at hc
  | .tl _ _, _, _, hc, h => by simp [V.na] at hc
  | .bld _ _ _, _, _, _, h => h
  | .fn g cs, _, F, hc, h => by obtain ⟨us, rfl, h⟩ := h; exact ⟨us, rfl, RL.na cs us F hc h⟩
theorem RL.na {w : World} {S : CS} {A A' : AlSem} : ∀ (vs : List V) (us : List Value) (F : CS), V.na.go vs = true → RL w S A vs us F → RL w S A' vs us F
  | [], _, _, _, h => h
  | v :: vs, _, F, hc, h => by
    obtain ⟨u, ur, F1, F2, rfl, l1, l2, d, hv, hr⟩ := h
    simp only [V.na.go, Bool.and_eq_true] at hc
    exact ⟨u, ur, F1, F2, rfl, l1, l2, d, RV.na v u F1 hc.1 hv, RL.na vs ur F2 hc.2 hr⟩
theorem RLL.na {w : World} {S : CS} {A A' : AlSem} : ∀ (es : List (List V)) (uss : List (List Value)) (F : CS), V.na.goo es = true → RLL w S A es uss F → RLL w S A' es uss F
  | [], _, _, _, h => h
  | e :: es, _, F, hc, h => by
    obtain ⟨us, ur, F1, F2, rfl, l1, l2, d, hv, hr⟩ := h
    simp only [V.na.goo, Bool.and_eq_true] at hc
    exact ⟨us, ur, F1, F2, rfl, l1, l2, d, RL.na e us F1 hc.1 hv, RLL.na es ur F2 hc.2 hr⟩
end

def A0 : AlSem := fun _ _ => False

/-- What a call leaves: its result, and what became of what was handed to it. -/
structure Left (w : World) (S O : CS) (vals : List Value) (R : V → List V → Prop) (e : Ending) (w' : World) : Prop where
  ok : ∃ (v : Value) (res : V) (outs : List V) (S' Fr Fo : CS), e = .returned v ∧ R res outs ∧ S.le S' ∧ Fr.dj Fo ∧ Fr.dj S' ∧ Fo.dj S' ∧ RV w' S' A0 res v Fr ∧ RL w' S' A0 outs vals Fo ∧ Pres O w w' ∧
    (∀ b x, (Fr b x ∨ Fo b x) → (O b x ∨ fresh w b x) ∧ b < w'.heap.size) ∧ (∀ b x, S' b x → (S b x ∨ O b x ∨ fresh w b x) ∧ b < w'.heap.size)

/-- THE CONTRACT OF A FUNCTION: called with these, in whatever memory, it returns, and R holds of its result and of what it leaves in its arguments. -/
def Ok (P : Program) (f : FuncId) (args : List V) (R : V → List V → Prop) : Prop :=
  ∀ (w : World) (S O : CS) (vals : List Value), TabInv P w S → O.dj S → (∀ b x, O b x → b < w.heap.size) → (∀ b x, S b x → b < w.heap.size) → RL w S A0 args vals O →
    Calls P f vals.toArray w (Left w S O vals R)

theorem Ok.mono {P : Program} {f : FuncId} {args : List V} {R R' : V → List V → Prop} (h : Ok P f args R) (hr : ∀ v o, R v o → R' v o) : Ok P f args R' :=
  fun w S O vals h0 h1 h2 h3 h4 => (h w S O vals h0 h1 h2 h3 h4).mono fun e w' ⟨v, res, outs, S', Fr, Fo, he, hR, rest⟩ => ⟨v, res, outs, S', Fr, Fo, he, hr _ _ hR, rest⟩

section
variable {P : Program} {B : Base P} {N : Nat} {st : St} {a : Act} {w : World} {S : CS} {fp : Nat → CS}

/-- All that is owned. -/
def allFp (fp : Nat → CS) : CS := fun b x => ∃ i, fp i b x

theorem Rl.loc_hdr (h : Rl B N st a w S fp) {r : Nat} {p : List (Nat × Nat)} {c : V} {u : Value} (hloc : Loc w (st r).v (tm a r) false p u) (hs : st.slAt r p = some c) :
    ∃ F, F.le (fp r) ∧ RV w S (AlOk w a st) c u F := by
  cases p with
  | nil =>
    simp only [St.slAt, Option.some.injEq] at hs
    subst hs
    have he : u = tm a r := hloc
    rw [he]
    exact ⟨fp r, CS.le.refl _, h.rv r⟩
  | cons q0 p =>
    obtain ⟨b, x', ha, hcell, cs, hg⟩ := hloc
    simp only [St.slAt] at hs
    rw [hg] at hs
    have hcs : cs = [c] := by
      match cs, hs with
      | [v], hs => simpa using hs
      | [], hs => simp at hs
      | _ :: _ :: _, hs => simp at hs
    subst hcs
    obtain ⟨b', x'', us, F1, put, ha', hf, _, _⟩ := h.getR hg
    rw [ha] at ha'
    obtain ⟨rfl, rfl⟩ : b = b' ∧ x' = x'' := by simpa using ha'
    obtain ⟨u', ur, Fa, Fb, rfl, la, lb, _, hv, hr'⟩ := hf.rl
    have h0 := (hf.cells 0 (by simp)).2.1
    simp at h0
    rw [h0] at hcell
    obtain rfl := Option.some.inj hcell
    exact ⟨Fa, la.trans hf.le, hv⟩

/-- A value as a callee may read it. -/
def St.bvL (st : St) : V → V
  | .al y => if st.good y then
      if y.ptr then (match (st y.root).v with | .box cs => if y.pth = [(0, 0)] then .rp (V.frz.go cs) else .hole | _ => .hole)
      else (match st.slAt y.root y.path with | some c => c.frz | none => .hole)
    else .hole
  | v => v.frz
def St.bv0 (st : St) (n : Nat) (x : XO) : V :=
  match st.val x with
  | .al y =>
    if st.good y then
      if y.ptr then (match (st y.root).v.getR n y.pth with | some cs => .rp (V.frz.go cs) | none => .hole)
      else (match st.slAt y.root y.path with | some c => c.frz | none => .hole)
    else .hole
  | .agg cs => .agg (cs.map st.bvL)
  | .fn g cs => .fn g (cs.map st.bvL)
  | .rp cs => .rp (if n = 0 then cs else cs.take n)
  | v => v.frz
/-- No slice, given to keep. -/
def nil1 : XO → Nat → Option Nat
  | .nil k, 1 => some k
  | _, _ => none
def St.bv (st : St) (n : Nat) (x : XO) : V :=
  match nil1 x n with
  | some k => .sl true k []
  | none => st.bv0 n x

theorem Rl.frzd {v : V} {u : Value} {F : CS} {A : AlSem} {G : CS} (hv : RV w S A v u F) (hF : F.le G) : RV w (S.un G) A v.frz u CS.none :=
  RV.frame (S := S.un F) (fun b x h => h.imp id (hF b x)) (fun _ _ h => h) (Agree.refl _ _) _ _ _ _ (CS.le.refl _) (Agree.refl _ _) (RV.frz v u F hv)

theorem fp_all (i : Nat) : (fp i).le (allFp fp) := fun _ _ h => ⟨i, h⟩

theorem Rl.bvL (h : Rl B N st a w S fp) {v : V} {u : Value} {F : CS} (hF : F.le (allFp fp)) (hv : RV w S (AlOk w a st) v u F) : RV w (S.un (allFp fp)) (AlOk w a st) (st.bvL v) u CS.none := by
  unfold St.bvL
  split
  · rename_i y
    split
    · rename_i hg
      simp only [St.good, Bool.and_eq_true, decide_eq_true_eq, Bool.or_eq_true, Bool.not_eq_true'] at hg
      have h4 := hv.2.2 hg.1 hg.2.1 (good_bx hg.2.2)
      split
      · rename_i hp
        split
        · rename_i cs hbox
          split
          · rename_i hpth
            rw [hp, hpth, hbox] at h4
            obtain ⟨b, x', ha, hu⟩ := h4
            have hrv := h.rv y.root
            rw [hbox] at hrv
            obtain ⟨b2, o2, us, hu2, hc, hr⟩ := hrv
            rw [hu2] at ha
            simp only [addr, V.place, ptrOf, Option.map_some, Nat.add_zero, Option.some.injEq, Prod.mk.injEq] at ha
            obtain ⟨rfl, rfl⟩ := ha
            have hrl := RL.frz cs us _ hr
            refine ⟨b2, o2, us, hu, fun k hk => ?_, RL.frame (S := S.un ((fp y.root).minus (CS.row b2 o2 cs.length))) (fun b x h => h.imp id (fun h => ⟨_, h.1⟩)) (fun _ _ h => h) (Agree.refl _ _) _ _ _ _ (CS.le.refl _) (Agree.refl _ _) hrl⟩
            rw [frz_go_length] at hk
            obtain ⟨h1, h2, _⟩ := hc k hk
            exact ⟨.inr ⟨_, h1⟩, h2⟩
          · trivial
        · trivial
      · rename_i hp
        have hp' : y.ptr = false := by simpa using hp
        split
        · rename_i c hs
          rw [Al.pth_f hp', hp'] at h4
          obtain ⟨F', hF', hv'⟩ := h.loc_hdr h4 hs
          exact Rl.frzd hv' (hF'.trans (fp_all _))
        · trivial
    · trivial
  · exact Rl.frzd hv hF

theorem Rl.bvLs (h : Rl B N st a w S fp) : ∀ {vs : List V} {us : List Value} {F : CS}, F.le (allFp fp) → RL w S (AlOk w a st) vs us F → RL w (S.un (allFp fp)) (AlOk w a st) (vs.map st.bvL) us CS.none
  | [], _, _, _, hr => hr
  | v :: vs, _, F, hF, hr => by
    obtain ⟨u, ur, F1, F2, rfl, l1, l2, d, hv, hr⟩ := hr
    exact ⟨u, ur, CS.none, CS.none, rfl, CS.none_le _, CS.none_le _, CS.none_dj _, h.bvL (l1.trans hF) hv, h.bvLs (l2.trans hF) hr⟩

theorem fpx_all (y : XO) : (fpx fp y).le (allFp fp) := by
  cases y <;> first | exact fp_all _ | exact fun _ _ h => h.elim

theorem Rl.bv0 (h : Rl B N st a w S fp) {m n : Nat} {x : Operand} {y : XO} (hx : cO m x = some y) : RV w (S.un (allFp fp)) (AlOk w a st) (st.bv0 n y) (a.eval x) CS.none := by
  have hv := h.val hx
  unfold St.bv0
  split
  · rename_i al hb
    rw [hb] at hv
    split
    · rename_i hg
      simp only [St.good, Bool.and_eq_true, decide_eq_true_eq, Bool.or_eq_true, Bool.not_eq_true'] at hg
      have h4 := hv.2.2 hg.1 hg.2.1 (good_bx hg.2.2)
      split
      · rename_i hp
        split
        · rename_i cs hget
          rw [hp] at h4
          obtain ⟨b, x', ha, hu⟩ := h4
          obtain ⟨b', x'', us, F1, put, ha', hf, _, hlen⟩ := h.getR hget
          rw [ha] at ha'
          obtain ⟨rfl, rfl⟩ : b = b' ∧ x' = x'' := by simpa using ha'
          have hrl := RL.frz cs us F1 hf.rl
          refine ⟨b, x', us, hu, fun k hk => ?_, RL.frame (S := S.un F1) (fun b x h => h.imp id (fun h => ⟨_, hf.le _ _ h⟩)) (fun _ _ h => h) (Agree.refl _ _) _ _ _ _ (CS.le.refl _) (Agree.refl _ _) hrl⟩
          rw [frz_go_length] at hk
          obtain ⟨h1, h2, _⟩ := hf.cells k hk
          exact ⟨.inr ⟨_, h1⟩, h2⟩
        · trivial
      · rename_i hp
        have hp' : al.ptr = false := by simpa using hp
        split
        · rename_i c hs
          rw [Al.pth_f hp', hp'] at h4
          obtain ⟨F', hF', hv'⟩ := h.loc_hdr h4 hs
          exact Rl.frzd hv' (hF'.trans (fp_all _))
        · trivial
    · trivial
  · rename_i cs hb
    rw [hb] at hv
    obtain ⟨us, hu, hr⟩ := hv
    exact ⟨us, hu, h.bvLs (fpx_all y) hr⟩
  · rename_i g cs hb
    rw [hb] at hv
    obtain ⟨us, hu, hr⟩ := hv
    exact ⟨us, hu, h.bvLs (fpx_all y) hr⟩
  · rename_i cs hb
    rw [hb] at hv
    obtain ⟨b, o, us, hu, hc, hr⟩ := hv
    by_cases h0 : n = 0
    · rw [if_pos h0]
      exact ⟨b, o, us, hu, fun k hk => ⟨.inl (hc k hk).1, (hc k hk).2⟩, RL.frame (CS.le_un_l _ _) (fun _ _ h => h) (Agree.refl _ _) _ _ _ _ (CS.le.refl _) (Agree.refl _ _) hr⟩
    · rw [if_neg h0]
      rw [← List.take_append_drop n cs] at hr
      obtain ⟨ua, ub, Fa, Fb, hu2, la, lb, dab, ha, hb2⟩ := RL.split hr
      have hla := RL.length ha
      refine ⟨b, o, ua, hu, fun k hk => ?_, RL.frame (CS.le_un_l _ _) (fun _ _ h => h) (Agree.refl _ _) _ _ _ _ la (Agree.refl _ _) ha⟩
      obtain ⟨h1, h2⟩ := hc k (by rw [List.length_take] at hk; omega)
      refine ⟨.inl h1, ?_⟩
      rw [h2, hu2, List.getElem?_append_left (by omega)]
  · exact Rl.frzd hv (fpx_all y)
theorem nil1_some {x : XO} {n k : Nat} (h : nil1 x n = some k) : x = .nil k := by
  unfold nil1 at h
  split at h
  · cases h; rfl
  · cases h
theorem Rl.bv (h : Rl B N st a w S fp) {m n : Nat} {x : Operand} {y : XO} (hx : cO m x = some y) : RV w (S.un (allFp fp)) (AlOk w a st) (st.bv n y) (a.eval x) CS.none := by
  unfold St.bv
  split
  · rename_i k hk
    obtain rfl := nil1_some hk
    have : a.eval x = .slice none 0 0 := by
      unfold cO at hx
      split at hx <;> first | (cases hx; done) | (cases hx; rfl)
    rw [this]
    exact ⟨none, 0, rfl, ⟨Nat.le_refl _, by decide⟩, .inr (.inl ⟨rfl, rfl, rfl⟩)⟩
  · exact h.bv0 hx

/-- The operands of a call, one by one. -/
def CoL : List Operand → List XO → Prop
  | [], [] => True
  | x :: xs, y :: ys => (∃ m, cO m x = some y) ∧ CoL xs ys
  | _, _ => False

theorem Rl.bvs (h : Rl B N st a w S fp) : ∀ {xs : List Operand} {ys : List (XO × Nat)}, CoL xs (ys.map (·.1)) →
    RL w (S.un (allFp fp)) (AlOk w a st) (ys.map fun y => st.bv y.2 y.1) (xs.map a.eval) CS.none
  | [], [], _ => rfl
  | [], _ :: _, hf => hf.elim
  | _ :: _, [], hf => hf.elim
  | x :: xs, y :: ys, hf => by
    obtain ⟨⟨m, h1⟩, h2⟩ := hf
    exact ⟨_, _, CS.none, CS.none, rfl, CS.none_le _, CS.none_le _, CS.none_dj _, h.bv h1, h.bvs h2⟩

theorem execOp_call {o : Oper} {c : Call} {f : Nat} {fn : Func} {body : Code} (ho : o.op = .call c) (hc : c.callee = .value (.func f)) (hf : P.funcs[f]? = some fn) (hb : fn.body = some body) (hnm : fn.name ≠ "runtime.NumGoroutine") (a : Act) (w : World) :
    (execOp a.eval o).run P w = .ok (.enter f (c.args.map a.eval)) w := by
  simp [execOp, ho, resolve, hc, Deferred.ofValue, Act.eval, invoke, callFunc, hf, hb, hnm]

/-- A call whose arguments are only read: nothing that was there turns. The result lies in new memory alone, or all that was handed over is nobody's already. -/
theorem ot_call_b {o : Oper} {d f : Nat} {c : Call} {fn : Func} {body : Code} {ys : List (XO × Nat)} {K : St → Prop} {R : V → List V → Prop} (ho : o.op = .call c) (hc : c.callee = .value (.func f)) (hf : P.funcs[f]? = some fn) (hb : fn.body = some body) (hnm : fn.name ≠ "runtime.NumGoroutine")
    (hd : o.dst = some d) (hdN : d < N) (hys : CoL c.args.toList (ys.map (·.1))) (hna : V.na.go (ys.map fun y => st.bv y.2 y.1) = true)
    (hok : Ok P f (ys.map fun y => st.bv y.2 y.1) R) (hk : ∀ res outs, R res outs → res.noShr = true ∧ K (st.put d res)) : OT P N o st K := by
  intro B a w S fp next Q h hnx
  unfold Oper.wp
  rw [execOp_call ho hc hf hb hnm]
  show Calls P f (c.args.map a.eval) w _
  have hrl := RL.na (A' := A0) _ _ _ hna (h.bvs hys)
  have hS : ∀ b x, (S.un (allFp fp)) b x → b < w.heap.size := fun b x hx => hx.elim (h.ltS b x) (fun ⟨i, hi⟩ => h.lt i b x hi)
  have hcall := hok w (S.un (allFp fp)) CS.none (c.args.toList.map a.eval) (h.tab.mono (CS.le_un_l _ _)) (CS.none_dj _) (fun _ _ h => h.elim) hS hrl
  rw [show (c.args.toList.map a.eval).toArray = c.args.map a.eval from by apply Array.ext'; simp] at hcall
  refine hcall.mono fun e w' hl => ?_
  obtain ⟨v, res, outs, S', Fr, Fo, rfl, hR, hSS, d1, d2, d3, hres, houts, hp, hfo, hs'⟩ := hl
  obtain ⟨hns, hkk⟩ := hk res outs hR
  show next (a.put o.dst v) w'
  rw [hd]
  have h1 : Rl B N st a w' S fp := h.world hp (fun _ _ h => h.elim) (CS.le.refl _) (fun b x hs => ⟨Nat.lt_of_lt_of_le (h.ltS b x hs) hp.size, h.shr b x hs⟩) h.djS
  have hfr : ∀ b x, Fr b x → fresh w b x ∧ b < w'.heap.size := fun b x hx => by
    obtain ⟨h1, h2⟩ := hfo b x (.inl hx)
    exact ⟨h1.elim (fun h => h.elim) id, h2⟩
  refine hnx _ _ _ _ _ hkk (h1.put d res v Fr hdN (RV.noShr res v Fr hns hres) (fun i hi b x h2 h3 => ?_) (fun b x h2 h3 => ?_) (fun b x hx => (hfr b x hx).2) (fun b x hx => .inr ?_))
  · exact absurd (h.lt i b x h3) (Nat.not_lt.2 (hfr b x h2).1)
  · exact absurd (h.ltS b x h3) (Nat.not_lt.2 (hfr b x h2).1)
  · exact Nat.le_trans h.pres.size (hfr b x hx).1

theorem Rl.vals (h : Rl B N st a w S fp) : ∀ {xs : List Operand} {ys : List XO}, CoL xs ys → V.cp.go (ys.map st.val) = true →
    RL w S (AlOk w a st) (ys.map st.val) (xs.map a.eval) CS.none
  | [], [], _, _ => rfl
  | [], _ :: _, hf, _ => hf.elim
  | _ :: _, [], hf, _ => hf.elim
  | x :: xs, y :: ys, hf, hcp => by
      obtain ⟨⟨m, h1⟩, h2⟩ := hf
      simp only [List.map_cons, V.cp.go, Bool.and_eq_true] at hcp
      exact ⟨_, _, CS.none, CS.none, rfl, CS.none_le _, CS.none_le _, CS.none_dj _, RV.cp_none _ _ _ hcp.1 (h.val h1), h.vals h2 hcp.2⟩

/-- A call whose arguments are nobody's: the result may share with them. -/
theorem ot_call_s {o : Oper} {d f : Nat} {c : Call} {fn : Func} {body : Code} {ys : List XO} {K : St → Prop} {R : V → List V → Prop} (ho : o.op = .call c) (hc : c.callee = .value (.func f)) (hf : P.funcs[f]? = some fn) (hb : fn.body = some body) (hnm : fn.name ≠ "runtime.NumGoroutine")
    (hd : o.dst = some d) (hdN : d < N) (hys : CoL c.args.toList ys) (hcp : V.cp.go (ys.map st.val) = true) (hna : V.na.go (ys.map st.val) = true)
    (hok : Ok P f (ys.map st.val) R) (hk : ∀ res outs, R res outs → K (st.put d res)) : OT P N o st K := by
  intro B a w S fp next Q h hnx
  unfold Oper.wp
  rw [execOp_call ho hc hf hb hnm]
  show Calls P f (c.args.map a.eval) w _
  have hrl := RL.na (A' := A0) _ _ _ hna (h.vals hys hcp)
  have hcall := hok w S CS.none (c.args.toList.map a.eval) h.tab (CS.none_dj _) (fun _ _ h => h.elim) h.ltS hrl
  rw [show (c.args.toList.map a.eval).toArray = c.args.map a.eval from by apply Array.ext'; simp] at hcall
  refine hcall.mono fun e w' hl => ?_
  obtain ⟨v, res, outs, S', Fr, Fo, rfl, hR, hSS, d1, d2, d3, hres, houts, hp, hfo, hs'⟩ := hl
  show next (a.put o.dst v) w'
  rw [hd]
  have hs2 : ∀ b x, S' b x → S b x ∨ fresh w b x := fun b x hx => (hs' b x hx).1.imp id (fun h => h.elim (fun h => h.elim) id)
  have h1 : Rl B N st a w' S' fp := h.world hp (fun _ _ h => h.elim) hSS (fun b x hs => ⟨(hs' b x hs).2, (hs2 b x hs).elim (h.shr b x) (fun h' => .inr (.inr (Nat.le_trans h.pres.size h')))⟩)
    (fun i b x hf hs => (hs2 b x hs).elim (h.djS i b x hf) (fun h' => absurd (h.lt i b x hf) (Nat.not_lt.2 h')))
  have hfr : ∀ b x, Fr b x → fresh w b x ∧ b < w'.heap.size := fun b x hx => by
    obtain ⟨h1, h2⟩ := hfo b x (.inl hx)
    exact ⟨h1.elim (fun h => h.elim) id, h2⟩
  refine hnx _ _ _ _ _ (hk res outs hR) (h1.put d res v Fr hdN (RV.frame (CS.le.refl _) (fun _ _ h => h.elim) (Agree.refl _ _) _ _ _ _ (CS.le.refl _) (Agree.refl _ _) hres) (fun i hi b x h2 h3 => ?_) d2 (fun b x hx => (hfr b x hx).2) (fun b x hx => .inr ?_))
  · exact absurd (h.lt i b x h3) (Nat.not_lt.2 (hfr b x h2).1)
  · exact Nat.le_trans h.pres.size (hfr b x hx).1

/-- A function that can be entered. -/
def entB (P : Program) (f : Nat) : Bool :=
  match P.funcs[f]? with
  | some fn => fn.body.isSome && fn.name != "runtime.NumGoroutine"
  | none => false
theorem execOp_callF {o : Oper} {c : Call} {g : Nat} {x : Operand} {us : List Value} {a : Act} (ho : o.op = .call c) (hc : c.callee = .value x) (hx : a.eval x = .func (.func g) #[] us.toArray) (he : entB P g = true) (w : World) :
    (execOp a.eval o).run P w = .ok (.enter g (c.args.map a.eval ++ us.toArray)) w := by
  unfold entB at he
  split at he <;> try (cases he; done)
  rename_i fn hf
  simp only [Bool.and_eq_true, bne_iff_ne, ne_eq] at he
  obtain ⟨hb, hnm⟩ := he
  obtain ⟨body, hbody⟩ := Option.isSome_iff_exists.1 hb
  simp [execOp, ho, resolve, hc, Deferred.ofValue, hx, invoke, callFunc, hf, hbody, hnm]
/-- A call of a function that is a value. -/
theorem ot_call_f {o : Oper} {d g m : Nat} {c : Call} {x : Operand} {y : XO} {cs : List V} {ys : List XO} {K : St → Prop} {R : V → List V → Prop} (ho : o.op = .call c) (hc : c.callee = .value x) (hx : cO m x = some y) (hv : st.val y = .fn g cs) (he : entB P g = true)
    (hd : o.dst = some d) (hdN : d < N) (hys : CoL c.args.toList ys) (hcp : V.cp.go (ys.map st.val) = true) (hcp2 : V.cp.go cs = true) (hna : V.na.go (ys.map st.val ++ cs) = true)
    (hok : Ok P g (ys.map st.val ++ cs) R) (hk : ∀ res outs, R res outs → K (st.put d res)) : OT P N o st K := by
  intro B a w S fp next Q h hnx
  unfold Oper.wp
  have hfv := h.val hx
  rw [hv] at hfv
  obtain ⟨us, hev, hus⟩ := hfv
  rw [execOp_callF ho hc hev he]
  show Calls P g (c.args.map a.eval ++ us.toArray) w _
  have hrl := RL.na (A' := A0) _ _ _ hna (RL.append (CS.none_le CS.none) (CS.none_le _) (CS.none_dj _) (h.vals hys hcp) (RL.cp_none _ _ _ hcp2 hus))
  have hcall := hok w S CS.none (c.args.toList.map a.eval ++ us) h.tab (CS.none_dj _) (fun _ _ h => h.elim) h.ltS hrl
  rw [show (c.args.toList.map a.eval ++ us).toArray = c.args.map a.eval ++ us.toArray from by apply Array.ext'; simp] at hcall
  refine hcall.mono fun e w' hl => ?_
  obtain ⟨v, res, outs, S', Fr, Fo, rfl, hR, hSS, d1, d2, d3, hres, houts, hp, hfo, hs'⟩ := hl
  show next (a.put o.dst v) w'
  rw [hd]
  have hs2 : ∀ b x, S' b x → S b x ∨ fresh w b x := fun b x hx => (hs' b x hx).1.imp id (fun h => h.elim (fun h => h.elim) id)
  have h1 : Rl B N st a w' S' fp := h.world hp (fun _ _ h => h.elim) hSS (fun b x hs => ⟨(hs' b x hs).2, (hs2 b x hs).elim (h.shr b x) (fun h' => .inr (.inr (Nat.le_trans h.pres.size h')))⟩)
    (fun i b x hf hs => (hs2 b x hs).elim (h.djS i b x hf) (fun h' => absurd (h.lt i b x hf) (Nat.not_lt.2 h')))
  have hfr : ∀ b x, Fr b x → fresh w b x ∧ b < w'.heap.size := fun b x hx => by
    obtain ⟨h1, h2⟩ := hfo b x (.inl hx)
    exact ⟨h1.elim (fun h => h.elim) id, h2⟩
  refine hnx _ _ _ _ _ (hk res outs hR) (h1.put d res v Fr hdN (RV.frame (CS.le.refl _) (fun _ _ h => h.elim) (Agree.refl _ _) _ _ _ _ (CS.le.refl _) (Agree.refl _ _) hres) (fun i hi b x h2 h3 => ?_) d2 (fun b x hx => (hfr b x hx).2) (fun b x hx => .inr ?_))
  · exact absurd (h.lt i b x h3) (Nat.not_lt.2 (hfr b x h2).1)
  · exact Nat.le_trans h.pres.size (hfr b x hx).1
/-- A value as a closure keeps it: a variable of one's own by its name. -/
def St.nmv (st : St) : XO → V
  | .t r => match st.name r with
    | some V0 => V0
    | none => (st r).v
  | x => st.val x
theorem Rl.nmvs (h : Rl B N st a w S fp) : ∀ {xs : List Operand} {ys : List XO}, CoL xs ys → V.cp.go (ys.map st.nmv) = true →
    RL w S (AlOk w a st) (ys.map st.nmv) (xs.map a.eval) CS.none
  | [], [], _, _ => rfl
  | [], _ :: _, hf, _ => hf.elim
  | _ :: _, [], hf, _ => hf.elim
  | x :: xs, y :: ys, hf, hcp => by
      obtain ⟨⟨m, h1⟩, h2⟩ := hf
      simp only [List.map_cons, V.cp.go, Bool.and_eq_true] at hcp
      refine ⟨_, _, CS.none, CS.none, rfl, CS.none_le _, CS.none_le _, CS.none_dj _, ?_, h.nmvs h2 hcp.2⟩
      have hv := h.val h1
      have hc := hcp.1
      cases y with
      | t r =>
        simp only [St.nmv] at hc ⊢
        cases hn : st.name r with
        | some V0 =>
          have := h.name hn CS.none
          rwa [← cO_tmp h1 a] at this
        | none =>
          rw [hn] at hc
          exact RV.cp_none _ _ _ hc hv
      | c v => exact RV.cp_none _ _ _ hc hv
      | nil n => exact RV.cp_none _ _ _ hc hv
/-- A function value is made: what it captures is nobody's already. -/
theorem ot_mkF {o : Oper} {d g : Nat} {caps : Array Operand} {ys : List XO} {K : St → Prop} (ho : o.op = .makeFunc (.func g) #[] caps) (hd : o.dst = some d) (hdN : d < N) (hys : CoL caps.toList ys) (hcp : V.cp.go (ys.map st.nmv) = true)
    (hk : K (st.put d (.fn g (ys.map st.nmv)))) : OT P N o st K := by
  intro B a w S fp next Q h hnx
  unfold Oper.wp
  have hrun : (execOp a.eval o).run P w = .ok (.value (.func (.func g) #[] (caps.map a.eval))) w := by
    simp [execOp, ho, Instr.makeFunc]
  rw [hrun]
  show next (a.put o.dst _) w
  rw [hd]
  have hr := h.nmvs hys hcp
  refine hnx _ _ _ _ _ hk (h.put_cp d _ _ CS.none hdN ⟨caps.toList.map a.eval, ?_, hr⟩ (by simpa [V.cp] using hcp))
  congr 1; apply Array.ext'; simp
/-- A function value is no nil. -/
theorem ot_nilck_fn {o : Oper} {d m g : Nat} {x : Operand} {y : XO} {cs : List V} {K : St → Prop} (ho : o.op = .nilCheck x) (hd : o.dst = some d) (hdN : d < N) (hx : cO m x = some y) (hv : st.val y = .fn g cs) (hcp : V.cp.go cs = true)
    (hk : K (st.put d (.fn g cs))) : OT P N o st K := by
  intro B a w S fp next Q h hnx
  unfold Oper.wp
  have hfv := h.val hx
  rw [hv] at hfv
  have hfv' := hfv
  obtain ⟨us, hev, hus⟩ := hfv
  have hrun : (execOp a.eval o).run P w = .ok (.value (a.eval x)) w := by
    simp [execOp, ho, hev]
  rw [hrun]
  show next (a.put o.dst _) w
  rw [hd]
  exact hnx _ _ _ _ _ hk (h.put_cp d _ _ _ hdN (RV.cp_none _ _ _ (by simpa [V.cp] using hcp) hfv') (by simpa [V.cp] using hcp))
end
end Go.Proofs.YtainknkfjekngaaDoor.Vm
