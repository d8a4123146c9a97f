/- Calls to which something is lent that the callee may write. -/
import Derived.Test.YtainknkfjekngaaDoorVm9e
namespace Go.Proofs.YtainknkfjekngaaDoor.Vm
open Go
set_option linter.unusedVariables false
set_option linter.unusedSimpArgs false

/-- What is lent for writing: all that a temporary holds; or a struct's slices, by their names, out of the variable where they lie. -/
inductive MK where
  | tmp (q : Nat)
  | ptr (x : XO) (r : Nat)
  | agg (x : XO) (r : Nat)
  | aggS (x : XO) (r s : Nat)
  | tmpS (q : Nat)
  | ptrS (x : XO) (r : Nat)
  | tmp2 (q q2 : Nat)

def V.plc : V → Nat
  | .box _ => 0
  | .sl _ n _ => n + 2
  | _ => 1
theorem plc_place {v v' : V} (h : v'.plc = v.plc) (u : Value) (i : Nat) : v'.place u i = v.place u i := by
  cases v <;> cases v' <;> simp only [V.plc] at h <;> first
    | rfl
    | (exfalso; omega)
    | (have : _ = _ := Nat.add_right_cancel h; subst this; rfl)

/-- What is handed over of a variable: its own slices; the rest as it was loaded. -/
def innV (r : Nat) (p : List (Nat × Nat)) (ver hv : Nat) : Nat → List V → List V → Option (List V)
  | _, [], [] => some []
  | k, c :: cs, v :: vs => match innV r p ver hv (k + 1) cs vs with
    | some l => if c.cp = true then if v.cp = true then if v.na = true then some (v :: l) else none else none
      else match v with
        | .al y => if y.ptr = false then if y.root = r then if y.path = padd p k then if y.ver = ver then if y.hv = hv then some (c :: l) else none else none else none else none else none
        | _ => none
    | none => none
  | _, _, _ => none
def bakV : List V → List V → List V
  | c :: cs, o :: os => (if c.cp = true then c else o) :: bakV cs os
  | _, _ => []

section
variable {P : Program} {B : Base P} {N : Nat} {st : St} {a : Act} {w : World} {S : CS} {fp : Nat → CS}

theorem RL.nth {A : AlSem} : ∀ {vs : List V} {us : List Value} {F : CS} {j : Nat} {v : V}, RL w S A vs us F → vs[j]? = some v → ∃ u, us[j]? = some u ∧ RV w S A v u F
  | [], _, _, _, _, _, h => by simp at h
  | v0 :: vs, _, F, 0, v, hr, h => by
    obtain ⟨u, ur, F1, F2, rfl, l1, l2, d, hv, hr⟩ := hr
    simp at h; subst h
    exact ⟨u, rfl, hv.mono l1⟩
  | v0 :: vs, _, F, j + 1, v, hr, h => by
    obtain ⟨u, ur, F1, F2, rfl, l1, l2, d, hv, hr⟩ := hr
    obtain ⟨u', h1, h2⟩ := RL.nth hr (by simpa using h)
    exact ⟨u', by simpa using h1, h2.mono l2⟩

theorem coL_app : ∀ {l1 : List Operand} {y1 : List XO} {l2 : List Operand} {y2 : List XO}, CoL l1 y1 → CoL l2 y2 → CoL (l1 ++ l2) (y1 ++ y2)
  | [], [], _, _, _, h => h
  | [], _ :: _, _, _, h, _ => h.elim
  | _ :: _, [], _, _, h, _ => h.elim
  | x :: l1, y :: y1, _, _, h, h' => ⟨h.1, coL_app h.2 h'⟩
theorem coL_len : ∀ {l1 : List Operand} {y1 : List XO}, CoL l1 y1 → l1.length = y1.length
  | [], [], _ => rfl
  | [], _ :: _, h => h.elim
  | _ :: _, [], h => h.elim
  | x :: l1, y :: y1, h => by simp [coL_len h.2]

/-- The call itself: G the cells that are lent for reading, O those lent for writing. -/
theorem call_core {f : Nat} {args : List V} {vals : List Value} {G O : CS} {R : V → List V → Prop} (hok : Ok P f args R) (htab : TabInv P w S) (hGO : O.dj G) (hOS : O.dj S) (hOlt : ∀ b x, O b x → b < w.heap.size) (hSlt : ∀ b x, S b x → b < w.heap.size) (hGlt : ∀ b x, G b x → b < w.heap.size)
    (hrl : RL w (S.un G) A0 args vals O) :
    Calls P f vals.toArray w fun e w' => ∃ (v : Value) (res : V) (outs : List V) (Fr Fo : CS), e = .returned v ∧ R res outs ∧ Pres O w w' ∧ Fr.dj Fo ∧ Fr.dj S ∧ Fo.dj S ∧ (∀ b x, Fr b x → (O b x ∨ fresh w b x) ∧ b < w'.heap.size) ∧ (∀ b x, Fo b x → (O b x ∨ fresh w b x) ∧ b < w'.heap.size) ∧
      (res.noShr = true → ∀ A, RV w' S A res v Fr) ∧ ∀ (j : Nat) (o : V), outs[j]? = some o → o.noShr = true → ∃ u, vals[j]? = some u ∧ ∀ A, RV w' S A o u Fo := by
  refine (hok w (S.un G) O vals (htab.mono (CS.le_un_l _ _)) (fun b x h1 h2 => h2.elim (hOS b x h1) (hGO b x h1)) hOlt (fun b x h => h.elim (hSlt b x) (hGlt b x)) hrl).mono fun e w' hl => ?_
  obtain ⟨v, res, outs, S', Fr, Fo, rfl, hR, hSS, d1, d2, d3, hres, houts, hp, hfo, hs'⟩ := hl
  refine ⟨v, res, outs, Fr, Fo, rfl, hR, hp, d1, d2.mono (CS.le.refl _) ((CS.le_un_l _ _).trans hSS), d3.mono (CS.le.refl _) ((CS.le_un_l _ _).trans hSS), fun b x h => hfo b x (.inl h), fun b x h => hfo b x (.inr h), fun hn A => RV.noShr res v Fr hn hres, fun j o hj hn => ?_⟩
  obtain ⟨u, h1, h2⟩ := RL.nth houts hj
  exact ⟨u, h1, fun A => RV.noShr o u Fo hn h2⟩

/-- The arguments, one of them lent for writing. -/
theorem args_rl {A : AlSem} {v1 v2 : List V} {m : V} {u1 u2 : List Value} {um : Value} {O : CS} (h1 : RL w S A v1 u1 CS.none) (hm : RV w S A m um O) (h2 : RL w S A v2 u2 CS.none) : RL w S A (v1 ++ m :: v2) (u1 ++ um :: u2) O :=
  RL.append (CS.none_le _) (CS.le.refl _) (CS.none_dj _) h1 ⟨um, u2, O, CS.none, rfl, CS.le.refl _, CS.none_le _, (CS.none_dj _).symm, hm, h2⟩

theorem ot_call_mt {o : Oper} {d f q : Nat} {c : Call} {fn : Func} {body : Code} {xl1 xl2 : List Operand} {l1 l2 : List (XO × Nat)} {K : St → Prop} {R : V → List V → Prop} (ho : o.op = .call c) (hc : c.callee = .value (.func f)) (hf : P.funcs[f]? = some fn) (hb : fn.body = some body) (hnm : fn.name ≠ "runtime.NumGoroutine")
    (hd : o.dst = some d) (hdN : d < N) (hdq : d ≠ q) {x : Operand} (hxq : ∀ (B : Base P) (a : Act) (w : World) (S : CS) (fp : Nat → CS), Rl B N st a w S fp → a.eval x = tm a q) (ha : c.args.toList = xl1 ++ x :: xl2) (hy1 : CoL xl1 (l1.map (·.1))) (hy2 : CoL xl2 (l2.map (·.1)))
    (hn1 : V.na.go (l1.map fun y => (st.put q .hole).bv y.2 y.1) = true) (hn2 : V.na.go (l2.map fun y => (st.put q .hole).bv y.2 y.1) = true) (hnq : (st q).v.na = true)
    (hok : Ok P f (l1.map (fun y => (st.put q .hole).bv y.2 y.1) ++ (st q).v :: l2.map (fun y => (st.put q .hole).bv y.2 y.1)) R)
    (hk : ∀ res outs, R res outs → res.noShr = true ∧ (K ((st.put q .hole).put d res) ∨ ∃ ov, outs[l1.length]? = some ov ∧ ov.noShr = true ∧ ov.plc = (st q).v.plc ∧ K ((st.mod q ov).put d res))) : OT P N o st K := by
  intro B a w S fp next Q h hnx
  have h1 := h.drop q
  have hG : ∀ b x, (allFp fun i => if i = q then CS.none else fp i) b x → ∃ i, i ≠ q ∧ fp i b x := by
    rintro b x ⟨i, hi⟩
    by_cases e : i = q
    · simp [e, CS.none] at hi
    · simp only [e, if_false] at hi; exact ⟨i, e, hi⟩
  have hrl1 := RL.na (A' := A0) _ _ _ hn1 (h1.bvs hy1)
  have hrl2 := RL.na (A' := A0) _ _ _ hn2 (h1.bvs hy2)
  have hq : RV w (S.un (allFp fun i => if i = q then CS.none else fp i)) A0 (st q).v (tm a q) (fp q) :=
    RV.frame (CS.le_un_l _ _) (fun _ _ h => h) (Agree.refl _ _) _ _ _ _ (CS.le.refl _) (Agree.refl _ _) (RV.na (A' := A0) _ _ _ hnq (h.rv q))
  have hcall := call_core (S := S) (G := allFp fun i => if i = q then CS.none else fp i) hok h.tab (fun b x h1 h2 => by obtain ⟨i, hi, h3⟩ := hG b x h2; exact h.dj q i (Ne.symm hi) b x h1 h3) (h.djS q) (h.lt q) h.ltS (fun b x hx => by obtain ⟨i, hi, h3⟩ := hG b x hx; exact h.lt i b x h3) (args_rl hrl1 hq hrl2)
  unfold Oper.wp
  rw [execOp_call ho hc hf hb hnm]
  show Calls P f (c.args.map a.eval) w _
  have hargs : (xl1.map a.eval ++ tm a q :: xl2.map a.eval).toArray = c.args.map a.eval := by
    apply Array.ext'
    rw [Array.toList_map, ha]
    simp [hxq B a w S fp h]
  rw [hargs] at hcall
  refine hcall.mono fun e w' hl => ?_
  obtain ⟨v, res, outs, Fr, Fo, rfl, hR, hp, d1, d2, d3, hfr, hfo, hres, hout⟩ := hl
  obtain ⟨hns, hkk⟩ := hk res outs hR
  show next (a.put o.dst v) w'
  rw [hd]
  have hfw : ∀ i b x, i ≠ q → ∀ F : CS, (∀ b x, F b x → (fp q b x ∨ fresh w b x) ∧ b < w'.heap.size) → F b x → ¬ fp i b x := fun i b x hi F hF h1 h2 => by
    rcases (hF b x h1).1 with h3 | h3
    · exact h.dj q i (Ne.symm hi) b x h3 h2
    · exact absurd (h.lt i b x h2) (Nat.not_lt.2 h3)
  have hown : ∀ b x, (fp q b x ∨ fresh w b x) → B.O0 b x ∨ fresh B.w0 b x := fun b x h1 => by
    rcases h1 with h1 | h1
    · exact h.own q b x h1
    · exact .inr (Nat.le_trans h.pres.size h1)
  rcases hkk with hkk | ⟨ov, hov, hovn, hpl, hkk⟩
  · have h2 : Rl B N (st.put q .hole) a w' S (fun i => if i = q then CS.none else fp i) := h1.world hp (fun b x hx => ⟨h.own q b x hx, fun i hi => by
      by_cases e : i = q
      · simp [e, CS.none] at hi
      · simp only [e, if_false] at hi; exact h.dj q i (Ne.symm e) b x hx hi, fun hs => h.djS q b x hx hs⟩) (CS.le.refl _) (fun b x hs => ⟨Nat.lt_of_lt_of_le (h.ltS b x hs) hp.size, h.shr b x hs⟩) h1.djS
    refine hnx _ _ _ _ _ hkk (h2.put d res v Fr hdN (hres hns _) (fun i hi b x h3 h4 => ?_) d2 (fun b x hx => (hfr b x hx).2) (fun b x hx => hown b x (hfr b x hx).1))
    by_cases e : i = q
    · simp [e, CS.none] at h4
    · simp only [e, if_false] at h4
      exact hfw i b x e Fr hfr h3 h4
  · obtain ⟨u, hu, hov2⟩ := hout _ _ hov hovn
    have hu2 : u = tm a q := by
      have hl1 : (xl1.map a.eval).length = l1.length := by rw [List.length_map, coL_len hy1, List.length_map]
      rw [← hl1, List.getElem?_append_right (Nat.le_refl _)] at hu
      simpa using hu.symm
    subst hu2
    have h2 := h.mod q ov (w' := w') (S' := S) Fo hp (fun b x hx => ⟨h.own q b x hx, fun i hi hh => h.dj q i (Ne.symm hi) b x hx hh, fun hs => h.djS q b x hx hs⟩) (CS.le.refl _) (fun b x hs => ⟨Nat.lt_of_lt_of_le (h.ltS b x hs) hp.size, h.shr b x hs⟩) (fun i hi => h.djS i)
      (fun u i => plc_place hpl u i) (fun _ => hov2 _) (fun i hi b x h3 h4 => hfw i b x hi Fo hfo h3 h4) d3 (fun b x hx => (hfo b x hx).2) (fun b x hx => hown b x (hfo b x hx).1)
    refine hnx _ _ _ _ _ hkk (h2.put d res v Fr hdN (hres hns _) (fun i hi b x h3 h4 => ?_) d2 (fun b x hx => (hfr b x hx).2) (fun b x hx => hown b x (hfr b x hx).1))
    by_cases e : i = q
    · simp only [e, if_true] at h4; exact d1 b x h3 h4
    · simp only [e, if_false] at h4; exact hfw i b x e Fr hfr h3 h4

/-- Two are handed over, the second as the last argument: both are given away. -/
theorem ot_call_m2 {o : Oper} {d f q q2 : Nat} {c : Call} {fn : Func} {body : Code} {xl1 xl2 : List Operand} {l1 l2 : List (XO × Nat)} {K : St → Prop} {R : V → List V → Prop} (ho : o.op = .call c) (hc : c.callee = .value (.func f)) (hf : P.funcs[f]? = some fn) (hb : fn.body = some body) (hnm : fn.name ≠ "runtime.NumGoroutine")
    (hd : o.dst = some d) (hdN : d < N) (hdq : d ≠ q) (hdq2 : d ≠ q2) (hqq : q ≠ q2) {x x2 : Operand} (hxq : ∀ (a : Act), a.eval x = tm a q) (hxq2 : ∀ (a : Act), a.eval x2 = tm a q2) (ha : c.args.toList = xl1 ++ x :: (xl2 ++ [x2])) (hy1 : CoL xl1 (l1.map (·.1))) (hy2 : CoL xl2 (l2.map (·.1)))
    (hn1 : V.na.go (l1.map fun y => ((st.put q .hole).put q2 .hole).bv y.2 y.1) = true) (hn2 : V.na.go (l2.map fun y => ((st.put q .hole).put q2 .hole).bv y.2 y.1) = true) (hnq : (st q).v.na = true) (hnq2 : (st q2).v.na = true)
    (hok : Ok P f (l1.map (fun y => ((st.put q .hole).put q2 .hole).bv y.2 y.1) ++ (st q).v :: (l2.map (fun y => ((st.put q .hole).put q2 .hole).bv y.2 y.1) ++ [(st q2).v])) R)
    (hk : ∀ res outs, R res outs → res.noShr = true ∧ (K (((st.put q .hole).put q2 .hole).put d res) ∨ ∃ ov, outs[l1.length]? = some ov ∧ ov.noShr = true ∧ ov.plc = (st q).v.plc ∧ K (((st.put q2 .hole).mod q ov).put d res))) : OT P N o st K := by
  intro B a w S fp next Q h hnx
  have h1 := (h.drop q).drop q2
  let fp' : Nat → CS := fun i => if i = q2 then CS.none else (fun i => if i = q then CS.none else fp i) i
  have hG : ∀ b x, allFp fp' b x → ∃ i, i ≠ q ∧ i ≠ q2 ∧ fp i b x := by
    rintro b x ⟨i, hi⟩
    by_cases e : i = q2
    · simp [fp', e, CS.none] at hi
    · by_cases e1 : i = q
      · simp [fp', e1, CS.none] at hi
      · simp only [fp', e, e1, if_false] at hi; exact ⟨i, e1, e, hi⟩
  have hrl1 := RL.na (A' := A0) _ _ _ hn1 (h1.bvs hy1)
  have hrl2 := RL.na (A' := A0) _ _ _ hn2 (h1.bvs hy2)
  have hq : RV w (S.un (allFp fp')) A0 (st q).v (tm a q) (fp q) :=
    RV.frame (CS.le_un_l _ _) (fun _ _ h => h) (Agree.refl _ _) _ _ _ _ (CS.le.refl _) (Agree.refl _ _) (RV.na (A' := A0) _ _ _ hnq (h.rv q))
  have hq2 : RV w (S.un (allFp fp')) A0 (st q2).v (tm a q2) (fp q2) :=
    RV.frame (CS.le_un_l _ _) (fun _ _ h => h) (Agree.refl _ _) _ _ _ _ (CS.le.refl _) (Agree.refl _ _) (RV.na (A' := A0) _ _ _ hnq2 (h.rv q2))
  have hr2 : RL w (S.un (allFp fp')) A0 (l2.map (fun y => ((st.put q .hole).put q2 .hole).bv y.2 y.1) ++ [(st q2).v]) (xl2.map a.eval ++ [tm a q2]) (fp q2) := args_rl hrl2 hq2 rfl
  have hrl : RL w (S.un (allFp fp')) A0 (l1.map (fun y => ((st.put q .hole).put q2 .hole).bv y.2 y.1) ++ (st q).v :: (l2.map (fun y => ((st.put q .hole).put q2 .hole).bv y.2 y.1) ++ [(st q2).v])) (xl1.map a.eval ++ tm a q :: (xl2.map a.eval ++ [tm a q2])) ((fp q).un (fp q2)) :=
    RL.append (CS.none_le _) (CS.le.refl _) (CS.none_dj _) hrl1 ⟨_, _, fp q, fp q2, rfl, CS.le_un_l _ _, CS.le_un_r _ _, h.dj q q2 hqq, hq, hr2⟩
  have hOdj : ((fp q).un (fp q2)).dj (allFp fp') := fun b x h1 h2 => by
    obtain ⟨i, i1, i2, h3⟩ := hG b x h2
    rcases h1 with h1 | h1
    · exact h.dj q i (Ne.symm i1) b x h1 h3
    · exact h.dj q2 i (Ne.symm i2) b x h1 h3
  have hcall := call_core (S := S) (G := allFp fp') (O := (fp q).un (fp q2)) hok h.tab hOdj (fun b x h1 h2 => h1.elim (fun h1 => h.djS q b x h1 h2) (fun h1 => h.djS q2 b x h1 h2))
    (fun b x h1 => h1.elim (h.lt q b x) (h.lt q2 b x)) h.ltS (fun b x hx => by obtain ⟨i, _, _, h3⟩ := hG b x hx; exact h.lt i b x h3) hrl
  unfold Oper.wp
  rw [execOp_call ho hc hf hb hnm]
  show Calls P f (c.args.map a.eval) w _
  have hargs : (xl1.map a.eval ++ tm a q :: (xl2.map a.eval ++ [tm a q2])).toArray = c.args.map a.eval := by
    apply Array.ext'
    rw [Array.toList_map, ha]
    simp [hxq, hxq2]
  rw [hargs] at hcall
  refine hcall.mono fun e w' hl => ?_
  obtain ⟨v, res, outs, Fr, Fo, rfl, hR, hp, d1, d2, d3, hfr, hfo, hres, hout⟩ := hl
  obtain ⟨hns, hkk⟩ := hk res outs hR
  show next (a.put o.dst v) w'
  rw [hd]
  have hsome : ∀ b x, ((fp q).un (fp q2)) b x → ∃ i, (i = q ∨ i = q2) ∧ fp i b x := fun b x hx => hx.elim (fun h => ⟨q, .inl rfl, h⟩) (fun h => ⟨q2, .inr rfl, h⟩)
  have hno : ∀ i b x, fp' i b x → ((fp q).un (fp q2)) b x → False := fun i b x hi hx => hOdj b x hx ⟨i, hi⟩
  have hlt' : ∀ i b x, fp' i b x → b < w.heap.size := fun i b x hi => by
    obtain ⟨j, _, _, h3⟩ := hG b x ⟨i, hi⟩; exact h.lt j b x h3
  rcases hkk with hkk | ⟨ov, hov, hovn, hpl, hkk⟩
  · have h2 : Rl B N ((st.put q .hole).put q2 .hole) a w' S fp' := h1.world hp (fun b x hx => by
        obtain ⟨i, hi, h3⟩ := hsome b x hx
        exact ⟨h.own i b x h3, fun j hj => hno j b x hj hx, fun hs => h.djS i b x h3 hs⟩) (CS.le.refl _) (fun b x hs => ⟨Nat.lt_of_lt_of_le (h.ltS b x hs) hp.size, h.shr b x hs⟩) h1.djS
    refine hnx _ _ _ _ _ hkk (h2.put d res v Fr hdN (hres hns _) (fun i hi b x h3 h4 => ?_) d2 (fun b x hx => (hfr b x hx).2) (fun b x hx => ?_))
    · rcases (hfr b x h3).1 with h5 | h5
      · exact hno i b x h4 h5
      · exact absurd (hlt' i b x h4) (Nat.not_lt.2 h5)
    · rcases (hfr b x hx).1 with h5 | h5
      · obtain ⟨i, _, h6⟩ := hsome b x h5
        exact h.own i b x h6
      · exact .inr (Nat.le_trans h.pres.size h5)
  · obtain ⟨u, hu, hov2⟩ := hout _ _ hov hovn
    have hu2 : u = tm a q := by
      have hl1 : (xl1.map a.eval).length = l1.length := by rw [List.length_map, coL_len hy1, List.length_map]
      rw [← hl1, List.getElem?_append_right (Nat.le_refl _)] at hu
      simpa using hu.symm
    subst hu2
    have h0 := h.drop q2
    have hv0 : ((st.put q2 .hole) q).v = (st q).v := by simp only [St.put, if_neg hqq]
    have hfw : ∀ i b x, i ≠ q → ∀ F : CS, (∀ b x, F b x → (((fp q).un (fp q2)) b x ∨ fresh w b x) ∧ b < w'.heap.size) → F b x → ¬ (if i = q2 then CS.none else fp i) b x := fun i b x hi F hF g1 g2 => by
      by_cases e : i = q2
      · simp [e, CS.none] at g2
      · simp only [e, if_false] at g2
        rcases (hF b x g1).1 with h3 | h3
        · exact hOdj b x h3 ⟨i, by simp only [fp', e, hi, if_false]; exact g2⟩
        · exact absurd (h.lt i b x g2) (Nat.not_lt.2 h3)
    have hown : ∀ b x, (((fp q).un (fp q2)) b x ∨ fresh w b x) → B.O0 b x ∨ fresh B.w0 b x := fun b x h1 => by
      rcases h1 with h1 | h1
      · obtain ⟨i, _, h6⟩ := hsome b x h1
        exact h.own i b x h6
      · exact .inr (Nat.le_trans h.pres.size h1)
    have h2 := h0.mod q ov (w' := w') (S' := S) Fo hp (fun b x hx => by
        obtain ⟨j, hj, h3⟩ := hsome b x hx
        refine ⟨h.own j b x h3, fun i hi hh => ?_, fun hs => h.djS j b x h3 hs⟩
        by_cases e : i = q2
        · simp [e, CS.none] at hh
        · simp only [e, if_false] at hh
          exact hOdj b x hx ⟨i, by simp only [fp', e, hi, if_false]; exact hh⟩) (CS.le.refl _) (fun b x hs => ⟨Nat.lt_of_lt_of_le (h.ltS b x hs) hp.size, h.shr b x hs⟩) (fun i hi => h0.djS i)
      (fun u i => by rw [hv0]; exact plc_place hpl u i) (fun _ => hov2 _) (fun i hi b x h3 h4 => hfw i b x hi Fo hfo h3 h4) d3 (fun b x hx => (hfo b x hx).2) (fun b x hx => hown b x (hfo b x hx).1)
    refine hnx _ _ _ _ _ hkk (h2.put d res v Fr hdN (hres hns _) (fun i hi b x h3 h4 => ?_) d2 (fun b x hx => (hfr b x hx).2) (fun b x hx => hown b x (hfr b x hx).1))
    by_cases e : i = q
    · simp only [e, if_true] at h4; exact d1 b x h3 h4
    · simp only [e, if_false] at h4; exact hfw i b x e Fr hfr h3 h4

theorem inn_len {r ver hv : Nat} {p : List (Nat × Nat)} : ∀ {cs vs as : List V} {k : Nat}, innV r p ver hv k cs vs = some as → as.length = cs.length ∧ vs.length = cs.length
  | [], [], as, k, h => by simp [innV] at h; subst h; exact ⟨rfl, rfl⟩
  | [], _ :: _, as, k, h => by simp [innV] at h
  | _ :: _, [], as, k, h => by simp [innV] at h
  | c :: cs, v :: vs, as, k, h => by
    simp only [innV] at h
    split at h <;> try (cases h; done)
    rename_i l hl
    have ih := inn_len hl
    split at h
    · split at h <;> try (cases h; done)
      split at h <;> try (cases h; done)
      cases h; simp [ih]
    · split at h <;> try (cases h; done)
      repeat' (split at h <;> try (cases h; done))
      cases h; simp [ih]

theorem loc_cell {k b x : Nat} {p : List (Nat × Nat)} {v : V} {u0 u2 : Value} (hpn : p ≠ []) (hp : addr w v u0 p = some (b, x)) (h : Loc w v u0 false (padd p k) u2) : w.cell? ⟨b, x + k, none⟩ = some u2 := by
  have ha := addr_padd w p v u0 k b x hp
  cases hpp : padd p k with
  | nil => exact absurd hpp (padd_ne k hpn)
  | cons q p' =>
    rw [hpp] at h ha
    obtain ⟨b', x', h1, h2, _⟩ := h
    rw [ha] at h1
    simp only [Option.some.injEq, Prod.mk.injEq] at h1
    obtain ⟨rfl, rfl⟩ := h1
    exact h2
/-- What is handed over lies as the variable's parts lie. -/
theorem inn_rl {r ver hv : Nat} {p : List (Nat × Nat)} (h : Rl B N st a w S fp) {b x : Nat} (hver : (st r).ver = ver) (hhv : (st r).hv = hv) (hp : addr w (st r).v (tm a r) p = some (b, x)) (hpn : p ≠ []) :
    ∀ {cs vs as : List V} {us us2 : List Value} {k : Nat} {F F2 : CS}, innV r p ver hv k cs vs = some as → RL w S (AlOk w a st) cs us F → RL w S (AlOk w a st) vs us2 F2 → (∀ j, j < cs.length → w.cell? ⟨b, x + (k + j), none⟩ = us[j]?) → V.na.go cs = true → RL w S A0 as us2 F
  | [], [], as, us, us2, k, F, F2, hi, h1, h2, _, _ => by simp [innV] at hi; subst hi; exact h2
  | [], _ :: _, as, _, _, k, _, _, hi, _, _, _, _ => by simp [innV] at hi
  | _ :: _, [], as, _, _, k, _, _, hi, _, _, _, _ => by simp [innV] at hi
  | c :: cs, v :: vs, as, us, us2, k, F, F2, hi, h1, h2, hc, hna => by
    simp only [innV] at hi
    split at hi <;> try (cases hi; done)
    rename_i l hl
    obtain ⟨u, ur, Fa, Fb, rfl, la, lb, dab, hcv, hcr⟩ := h1
    obtain ⟨u2, ur2, Fc, Fd, rfl, lc, ld, dcd, hvv, hvr⟩ := h2
    simp only [V.na.go, Bool.and_eq_true] at hna
    have ih := inn_rl h hver hhv hp hpn (us := ur) (us2 := ur2) (k := k + 1) hl hcr hvr (fun j hj => by
      have := hc (j + 1) (by simp; omega)
      rw [show k + 1 + j = k + (j + 1) by omega, this]; simp) hna.2
    split at hi
    · split at hi <;> try (cases hi; done)
      rename_i hcp
      split at hi <;> try (cases hi; done)
      rename_i hvn
      cases hi
      exact ⟨u2, ur2, CS.none, Fb, rfl, CS.none_le _, lb, CS.none_dj _, RV.na _ _ _ hvn (RV.cp_none _ _ _ hcp hvv), ih⟩
    · split at hi <;> try (cases hi; done)
      rename_i y
      split at hi <;> try (cases hi; done)
      rename_i e1
      split at hi <;> try (cases hi; done)
      rename_i e2
      split at hi <;> try (cases hi; done)
      rename_i e3
      split at hi <;> try (cases hi; done)
      rename_i e4
      split at hi <;> try (cases hi; done)
      rename_i e5
      cases hi
      obtain ⟨g1, g2, g3⟩ := hvv
      have hloc := g3 (by rw [e2, hver, e4]) (.inr (by rw [e2, hhv, e5])) ⟨fun hb => by simp [Al.bx, e1] at hb, by rw [Al.pth_f e1, e3, e2]; exact pok_addr (addr_padd w p _ _ k b x hp)⟩
      rw [Al.pth_f e1, e1, e2, e3] at hloc
      have hcell := loc_cell hpn hp hloc
      have h0 := hc 0 (by simp)
      simp only [Nat.add_zero, List.getElem?_cons_zero] at h0
      rw [hcell] at h0
      obtain rfl := Option.some.inj h0
      exact ⟨u2, ur2, Fa, Fb, rfl, la, lb, dab, RV.na _ _ _ hna.1 hcv, ih⟩

theorem bak_len : ∀ {cs os : List V}, os.length = cs.length → (bakV cs os).length = cs.length
  | [], [], _ => rfl
  | [], _ :: _, h => by simp at h
  | _ :: _, [], h => by simp at h
  | c :: cs, o :: os, h => by simp [bakV, bak_len (show os.length = cs.length by simpa using h)]

/-- What comes back lies where the variable's parts lie. -/
theorem bak_rl {r ver hv : Nat} {p : List (Nat × Nat)} {w' : World} (hag : ∀ u (v : V), v.cp = true → RV w S (AlOk w a st) v u CS.none → v.na = true → RV w' S A0 v u CS.none) :
    ∀ {cs vs as os : List V} {us us2 : List Value} {k : Nat} {F F2 Fo : CS} {A : AlSem}, innV r p ver hv k cs vs = some as → RL w S (AlOk w a st) cs us F → RL w S A0 as us2 F2 → RL w S (AlOk w a st) vs us2 CS.none → (∀ (j : Nat) (c : V) (u u2 : Value), cs[j]? = some c → c.cp = false → us[j]? = some u → us2[j]? = some u2 → u = u2) → V.na.go cs = true → RL w' S A os us2 Fo → RL w' S A (bakV cs os) us Fo
  | [], [], as, os, us, us2, k, F, F2, Fo, A, hi, h1, h2, _, _, _, ho => by
    simp only [RL] at h1; subst h1
    have : os = [] := by
      simp [innV] at hi; subst hi
      simp only [RL] at h2; subst h2
      cases os with
      | nil => rfl
      | cons o os => obtain ⟨u, ur, _, _, h, _⟩ := ho; cases h
    subst this; rfl
  | [], _ :: _, as, os, _, _, k, _, _, _, _, hi, _, _, _, _, _, _ => by simp [innV] at hi
  | _ :: _, [], as, os, _, _, k, _, _, _, _, hi, _, _, _, _, _, _ => by simp [innV] at hi
  | c :: cs, v :: vs, as, os, us, us2, k, F, F2, Fo, A, hi, h1, h2, h3, he, hna, ho => by
    simp only [innV] at hi
    split at hi <;> try (cases hi; done)
    rename_i l hl
    obtain ⟨u, ur, Fa, Fb, rfl, la, lb, dab, hcv, hcr⟩ := h1
    obtain ⟨u2, ur2, Fv, Fw, rfl, lv, lw, dvw, hvv, hvr⟩ := h3
    simp only [V.na.go, Bool.and_eq_true] at hna
    match os, ho with
    | [], ho => simp only [RL] at ho; cases ho
    | o :: os, ho =>
      obtain ⟨u3, ur3, Fe, Ff, heq, le, lf, def_, hov, hor⟩ := ho
      simp only [List.cons.injEq] at heq
      obtain ⟨rfl, rfl⟩ := heq
      have hl2 : ∃ F2', RL w S A0 l ur2 F2' := by
        by_cases hc : c.cp = true
        · rw [if_pos hc] at hi
          split at hi <;> try (cases hi; done)
          split at hi <;> try (cases hi; done)
          cases hi
          obtain ⟨_, _, _, F', h, _, _, _, _, hr⟩ := h2
          cases h; exact ⟨F', hr⟩
        · rw [if_neg hc] at hi
          repeat' (split at hi <;> try (cases hi; done))
          cases hi
          obtain ⟨_, _, _, F', h, _, _, _, _, hr⟩ := h2
          cases h; exact ⟨F', hr⟩
      obtain ⟨F2', hl2⟩ := hl2
      have ih := bak_rl hag (k := k + 1) hl hcr hl2 (hvr.mono (lw.trans (CS.le.refl _))) (fun j c u u2 h1 h2 h3 h4 => he (j + 1) c u u2 (by simpa using h1) h2 (by simpa using h3) (by simpa using h4)) hna.2 hor
      simp only [bakV]
      by_cases hc : c.cp = true
      · simp only [hc, if_true]
        have := hag u c hc (RV.cp_none _ _ _ hc hcv) hna.1
        exact ⟨u, ur, CS.none, Ff, rfl, CS.none_le _, lf, CS.none_dj _, RV.na _ _ _ hna.1 this, ih⟩
      · have hc' : c.cp = false := by simpa using hc
        rw [if_neg hc]
        have := he 0 c u u2 rfl hc' rfl rfl
        subst this
        exact ⟨u, ur, Fe, Ff, rfl, le, lf, def_, hov, ih⟩

theorem inn_same {r ver hv : Nat} {p : List (Nat × Nat)} (h : Rl B N st a w S fp) {b x : Nat} (hver : (st r).ver = ver) (hhv : (st r).hv = hv) (hp : addr w (st r).v (tm a r) p = some (b, x)) (hpn : p ≠ []) :
    ∀ {cs vs as : List V} {us us2 : List Value} {k : Nat} {F2 : CS}, innV r p ver hv k cs vs = some as → RL w S (AlOk w a st) vs us2 F2 → (∀ j, j < cs.length → w.cell? ⟨b, x + (k + j), none⟩ = us[j]?) → ∀ (j : Nat) (c : V) (u u2 : Value), cs[j]? = some c → c.cp = false → us[j]? = some u → us2[j]? = some u2 → u = u2
  | [], _, as, _, _, k, _, hi, h2, _, j, c, u, u2, hj, _, _, _ => by simp at hj
  | _ :: _, [], as, _, _, k, _, hi, _, _, j, c, u, u2, hj, _, _, _ => by simp [innV] at hi
  | c0 :: cs, v :: vs, as, us, us2, k, F2, hi, h2, hc, j, c, u, u2, hj, hcp, hu, hu2 => by
    simp only [innV] at hi
    split at hi <;> try (cases hi; done)
    rename_i l hl
    obtain ⟨u2', ur2, Fc, Fd, rfl, lc, ld, dcd, hvv, hvr⟩ := h2
    cases j with
    | succ j =>
      exact inn_same h hver hhv hp hpn (us := us.drop 1) hl hvr (fun j hj => by
        have := hc (j + 1) (by simp; omega)
        rw [show k + 1 + j = k + (j + 1) by omega, this]; simp [Nat.add_comm]) j c u u2 (by simpa using hj) hcp (by simpa [Nat.add_comm] using hu) (by simpa using hu2)
    | zero =>
      simp only [List.getElem?_cons_zero, Option.some.injEq] at hj hu2
      subst hj hu2
      rw [if_neg (by simp [hcp])] at hi
      split at hi <;> try (cases hi; done)
      rename_i y
      split at hi <;> try (cases hi; done)
      rename_i e1
      split at hi <;> try (cases hi; done)
      rename_i e2
      split at hi <;> try (cases hi; done)
      rename_i e3
      split at hi <;> try (cases hi; done)
      rename_i e4
      split at hi <;> try (cases hi; done)
      rename_i e5
      obtain ⟨g1, g2, g3⟩ := hvv
      have hloc := g3 (by rw [e2, hver, e4]) (.inr (by rw [e2, hhv, e5])) ⟨fun hb => by simp [Al.bx, e1] at hb, by rw [Al.pth_f e1, e3, e2]; exact pok_addr (addr_padd w p _ _ k b x hp)⟩
      rw [Al.pth_f e1, e1, e2, e3] at hloc
      have hcell := loc_cell hpn hp hloc
      have h0 := hc 0 (by simp)
      simp only [Nat.add_zero] at h0
      rw [hcell, hu] at h0
      exact (Option.some.inj h0).symm

/-- The call, and what becomes of the frame; the cells of a lent box are as they were. -/
theorem ma_core {o : Oper} {d f r m n : Nat} {g : Bool} {p : List (Nat × Nat)} {c : Call} {fn : Func} {body : Code} {xl1 xl2 : List Operand} {x : Operand} {y : XO} {l1 l2 : List (XO × Nat)} {cs vs as : List V} {KO : List V → V → Prop} {R : V → List V → Prop} {next : Act → World → Prop} {Q : Exit → Act → World → Prop} (h : Rl B N st a w S fp) (ho : o.op = .call c) (hc : c.callee = .value (.func f)) (hf : P.funcs[f]? = some fn) (hb : fn.body = some body) (hnm : fn.name ≠ "runtime.NumGoroutine")
    (hd : o.dst = some d) (hdN : d < N) (hdr : d ≠ r) (ha : c.args.toList = xl1 ++ x :: xl2) (hy1 : CoL xl1 (l1.map (·.1))) (hx : cO m x = some y) (hy2 : CoL xl2 (l2.map (·.1)))
    (hget : (st r).v.getR n p = some cs) (hg : g = false → n = 1) (hvl : vs.length = n) (hvs : st.val y = mkV g vs) (hvc : V.cp.go vs = true) (hinn : innV r p (st r).ver (st r).hv 0 cs vs = some as) (hnc : V.na.go cs = true) {st1 : St} (hst1 : st1 = st.put r .hole)
    (hn1 : V.na.go (l1.map fun y => st1.bv y.2 y.1) = true) (hn2 : V.na.go (l2.map fun y => st1.bv y.2 y.1) = true)
    (hok : Ok P f (l1.map (fun y => st1.bv y.2 y.1) ++ mkV g as :: l2.map (fun y => st1.bv y.2 y.1)) R)
    (hk : ∀ res outs, R res outs → res.noShr = true ∧ ∃ os, outs[l1.length]? = some (mkV g os) ∧ V.noShr.go os = true ∧ os.length = n ∧ KO os res)
    (hnx : ∀ (os : List V) (res : V) (v : Value) (w' : World) (fp' : Nat → CS), KO os res → (bakV cs os).length = n → Agree w w' S → (∀ bs b0 o0, (st r).v = .box bs → tm a r = .pointer (some ⟨b0, o0, none⟩) → ∀ k, k < bs.length → w'.cell? ⟨b0, o0 + k, none⟩ = w.cell? ⟨b0, o0 + k, none⟩) →
      Rl B N ((st.mod r ((st r).v.setR p (bakV cs os))).put d res) (a.put (some d) v) w' S fp' → next (a.put (some d) v) w') : o.wp P a w next Q := by
  have hpn : p ≠ [] := by rintro rfl; simp [V.getR] at hget
  obtain ⟨b, x', us, F1, put, haddr, hfo, hput, hlen, hrow0⟩ := focus_pathR n p w S (AlOk w a st) (st r).v (tm a r) (fp r) cs (h.rv r) hget
  have hul := RL.length hfo.rl
  have hcl : ∀ j, j < cs.length → w.cell? ⟨b, x' + (0 + j), none⟩ = us[j]? := fun j hj => by simpa using (hfo.cells j hj).2.1
  -- the frame without the variable
  have h1 : Rl B N st1 a w S (fun i => if i = r then CS.none else fp i) := by rw [hst1]; exact h.drop r
  have hG : ∀ b x, (allFp fun i => if i = r then CS.none else fp i) b x → ¬ F1 b x ∧ ∃ i, fp i b x := by
    rintro b x ⟨i, hi⟩
    by_cases e : i = r
    · simp [e, CS.none] at hi
    · simp only [e, if_false] at hi; exact ⟨fun hh => h.dj r i (Ne.symm e) b x (hfo.le _ _ hh) hi, i, hi⟩
  have hrl1 := RL.na (A' := A0) _ _ _ hn1 (h1.bvs hy1)
  have hrl2 := RL.na (A' := A0) _ _ _ hn2 (h1.bvs hy2)
  have hval := h.val hx
  rw [hvs] at hval
  obtain ⟨us2, hu2, hul2, hvl0⟩ : ∃ us2 : List Value, a.eval x = (if g then .agg us2.toArray else us2.getD 0 undef) ∧ us2.length = n ∧ RL w S (AlOk w a st) vs us2 CS.none := by
    cases g with
    | true =>
      obtain ⟨us2, hu2, hr⟩ := hval
      exact ⟨us2, hu2, by rw [RL.length hr]; exact hvl, RL.cp_none _ _ _ hvc hr⟩
    | false =>
      obtain rfl := hg rfl
      match vs, hvl, hval, hvc with
      | [v], _, hval, hvc =>
        simp only [V.cp.go, Bool.and_true] at hvc
        exact ⟨[a.eval x], rfl, rfl, _, [], CS.none, CS.none, rfl, CS.le.refl _, CS.le.refl _, CS.none_dj _, RV.cp_none _ _ _ hvc hval, rfl⟩
  have has := inn_rl h rfl rfl haddr hpn hinn hfo.rl hvl0 hcl hnc
  have hasl := (inn_len hinn).1
  have hmid : RV w (S.un (allFp fun i => if i = r then CS.none else fp i)) A0 (mkV g as) (a.eval x) F1 := by
    rw [hu2]
    exact rv_mkV (RL.frame (CS.le_un_l _ _) (fun _ _ h => h) (Agree.refl _ _) _ _ _ _ (CS.le.refl _) (Agree.refl _ _) has) (by rw [hasl]; exact hlen) hg
  have hcall := call_core (S := S) (G := allFp fun i => if i = r then CS.none else fp i) hok h.tab (fun b x h1 h2 => (hG b x h2).1 h1) ((h.djS r).mono hfo.le (CS.le.refl _)) (fun b x hx => h.lt r b x (hfo.le _ _ hx)) h.ltS (fun b x hx => by obtain ⟨_, i, h3⟩ := hG b x hx; exact h.lt i b x h3) (args_rl hrl1 hmid hrl2)
  unfold Oper.wp
  rw [execOp_call ho hc hf hb hnm]
  show Calls P f (c.args.map a.eval) w _
  have hargs : (xl1.map a.eval ++ a.eval x :: xl2.map a.eval).toArray = c.args.map a.eval := by
    apply Array.ext'
    rw [Array.toList_map, ha]
    simp
  rw [hargs] at hcall
  refine hcall.mono fun e w' hl => ?_
  obtain ⟨v, res, outs, Fr, Fo, rfl, hR, hpw, d1, d2, d3, hfr, hfo', hres, hout⟩ := hl
  obtain ⟨hns, os, hos, hosn, hosl, hkk⟩ := hk res outs hR
  show next (a.put o.dst v) w'
  rw [hd]
  have hF1 : ∀ b x, F1 b x → fp r b x := hfo.le
  have hfw : ∀ i b x, i ≠ r → ∀ F : CS, (∀ b x, F b x → (F1 b x ∨ fresh w b x) ∧ b < w'.heap.size) → F b x → ¬ fp i b x := fun i b x hi F hF h1 h2 => by
    rcases (hF b x h1).1 with h3 | h3
    · exact h.dj r i (Ne.symm hi) b x (hF1 _ _ h3) h2
    · exact absurd (h.lt i b x h2) (Nat.not_lt.2 h3)
  have hown : ∀ b x, (F1 b x ∨ fresh w b x) → B.O0 b x ∨ fresh B.w0 b x := fun b x h1 => by
    rcases h1 with h1 | h1
    · exact h.own r b x (hF1 _ _ h1)
    · exact .inr (Nat.le_trans h.pres.size h1)
  have hmn : (mkV g os).noShr = true := by
    cases g with
    | true => simpa [mkV, V.noShr] using hosn
    | false =>
      cases os with
      | nil => rfl
      | cons o os => simp only [V.noShr.go, Bool.and_eq_true] at hosn; exact hosn.1
  obtain ⟨u, hu, hov2⟩ := hout _ _ hos hmn
  have hu2' : u = a.eval x := by
    have hl1 : (xl1.map a.eval).length = l1.length := by rw [List.length_map, coL_len hy1, List.length_map]
    rw [← hl1, List.getElem?_append_right (Nat.le_refl _)] at hu
    simpa using hu.symm
  subst hu2'
  have hagS : Agree w w' S := hpw.agree h.ltS (fun b x hs hx => h.djS r b x (hF1 _ _ hx) hs)
  have hosR : ∀ A, RL w' S A os us2 Fo := fun A => by
    have h3 := hov2 A
    rw [hu2] at h3
    cases g with
    | true =>
      obtain ⟨us3, h4, h5⟩ := h3
      have : us2 = us3 := by
        have := congrArg (fun v => match v with | Value.agg l => l.toList | _ => []) h4
        simpa using this
      rw [this]; exact h5
    | false =>
      obtain rfl := hg rfl
      match os, hosl, us2, hul2, h3 with
      | [o], _, [u], _, h3 => exact ⟨u, [], Fo, CS.none, rfl, CS.le.refl _, CS.none_le _, (CS.none_dj _).symm, h3, rfl⟩
  have hsame := inn_same h rfl rfl haddr hpn hinn hvl0 hcl
  have hbak : ∀ A, RL w' S A (bakV cs os) us Fo := fun A =>
    bak_rl (fun u v h1 h2 h3 => RV.na (A' := A0) _ _ _ h3 (RV.frame (CS.le.refl _) (fun _ _ h => h) hagS _ _ _ _ (CS.le.refl _) (fun _ _ h => h.elim) (RV.na (A' := A0) _ _ _ h3 h2))) hinn hfo.rl has hvl0 hsame hnc (hosR A)
  have hbl : (bakV cs os).length = cs.length := bak_len (by rw [hosl, hlen])
  have hrow : ∀ j, j < cs.length → w'.cell? ⟨b, x' + j, none⟩ = us[j]? ∧ w'.frozen? ⟨b, x' + j, none⟩ = false := fun j hj => by
    obtain ⟨g1, g2, g3⟩ := hfo.cells j hj
    have hb := h.lt r _ _ g1
    exact ⟨by rw [hpw.cell hb (fun hh => hfo.out _ _ hh ⟨rfl, by omega, by omega⟩)]; exact g2, by rw [hpw.frozen hb (fun hh => hfo.out _ _ hh ⟨rfl, by omega, by omega⟩)]; exact g3⟩
  have hagF : Agree w w' ((fp r).minus (F1.un (CS.row b x' cs.length))) := hpw.agree (fun b' y hy => h.lt r _ _ hy.1) (fun b' y hy hx => hy.2 (.inl hx))
  have hFoF : Fo.dj ((fp r).minus F1) := fun b' y h3 h4 => by
    rcases (hfo' b' y h3).1 with h5 | h5
    · exact h4.2 h5
    · exact absurd (h.lt r _ _ h4.1) (Nat.not_lt.2 h5)
  have h2 := h.mod r ((st r).v.setR p (bakV cs os)) (w' := w') (S' := S) (((fp r).minus F1).un Fo) hpw (fun b x hx => ⟨h.own r b x (hF1 _ _ hx), fun i hi hh => h.dj r i (Ne.symm hi) b x (hF1 _ _ hx) hh, fun hs => h.djS r b x (hF1 _ _ hx) hs⟩) (CS.le.refl _) (fun b x hs => ⟨Nat.lt_of_lt_of_le (h.ltS b x hs) hpw.size, h.shr b x hs⟩) (fun i hi => h.djS i)
    (fun u i => setR_place _ _ _ _ _) (fun hA => by
      have hb := hfo.back w' S _ (bakV cs os) us Fo (CS.le.refl _) hA hagS hagF hbl hrow (fun h0 => hpw.plb (x := x' + 0) (fun hh => hfo.out _ _ hh ⟨rfl, by omega, by omega⟩)) (hbak _) hFoF
      rw [hput _ (by rw [hbl, hlen])] at hb
      exact hb) (fun i hi b x h3 h4 => h3.elim (fun h3 => h.dj r i (Ne.symm hi) b x h3.1 h4) (fun h3 => hfw i b x hi Fo hfo' h3 h4))
    (fun b x h3 h4 => h3.elim (fun h3 => h.djS r b x h3.1 h4) (fun h3 => d3 b x h3 h4)) (fun b x hx => hx.elim (fun hx => Nat.lt_of_lt_of_le (h.lt r b x hx.1) hpw.size) (fun hx => (hfo' b x hx).2)) (fun b x hx => hx.elim (fun hx => h.own r b x hx.1) (fun hx => hown b x (hfo' b x hx).1))
  refine hnx os res v w' _ hkk (by rw [hbl, hlen]) hagS (fun bs b0 o0 e1 e2 k hk => ?_) (h2.put d res v Fr hdN (hres hns _) (fun i hi b x h3 h4 => ?_) d2 (fun b x hx => (hfr b x hx).2) (fun b x hx => hown b x (hfr b x hx).1))
  · have h0 := h.rv r
    rw [e1, e2] at h0
    obtain ⟨b1, o1, us1, h3, h4, _⟩ := h0
    simp only [Value.pointer.injEq, Option.some.injEq, Addr.mk.injEq, and_true] at h3
    obtain ⟨rfl, rfl⟩ := h3
    exact hpw.cell (h.lt r _ _ (h4 k hk).1) (fun hh => hrow0 bs b0 o0 e1 e2 _ _ hh ⟨rfl, by omega, by omega⟩)
  by_cases e : i = r
  · simp only [e, if_true] at h4
    rcases h4 with h4 | h4
    · rcases (hfr b x h3).1 with h5 | h5
      · exact h4.2 h5
      · exact absurd (h.lt r _ _ h4.1) (Nat.not_lt.2 h5)
    · exact d1 b x h3 h4
  · simp only [e, if_false] at h4; exact hfw i b x e Fr hfr h3 h4
theorem ot_call_ma {o : Oper} {d f r m n : Nat} {g : Bool} {p : List (Nat × Nat)} {c : Call} {fn : Func} {body : Code} {xl1 xl2 : List Operand} {x : Operand} {y : XO} {l1 l2 : List (XO × Nat)} {cs vs as : List V} {K : St → Prop} {R : V → List V → Prop} (ho : o.op = .call c) (hc : c.callee = .value (.func f)) (hf : P.funcs[f]? = some fn) (hb : fn.body = some body) (hnm : fn.name ≠ "runtime.NumGoroutine")
    (hd : o.dst = some d) (hdN : d < N) (hdr : d ≠ r) (ha : c.args.toList = xl1 ++ x :: xl2) (hy1 : CoL xl1 (l1.map (·.1))) (hx : cO m x = some y) (hy2 : CoL xl2 (l2.map (·.1)))
    (hget : (st r).v.getR n p = some cs) (hg : g = false → n = 1) (hvl : vs.length = n) (hvs : st.val y = mkV g vs) (hvc : V.cp.go vs = true) (hinn : innV r p (st r).ver (st r).hv 0 cs vs = some as) (hnc : V.na.go cs = true) {st1 : St} (hst1 : st1 = st.put r .hole)
    (hn1 : V.na.go (l1.map fun y => st1.bv y.2 y.1) = true) (hn2 : V.na.go (l2.map fun y => st1.bv y.2 y.1) = true)
    (hok : Ok P f (l1.map (fun y => st1.bv y.2 y.1) ++ mkV g as :: l2.map (fun y => st1.bv y.2 y.1)) R)
    (hk : ∀ res outs, R res outs → res.noShr = true ∧ ∃ os, outs[l1.length]? = some (mkV g os) ∧ V.noShr.go os = true ∧ os.length = n ∧ K ((st.mod r ((st r).v.setR p (bakV cs os))).put d res)) : OT P N o st K := by
  intro B a w S fp next Q h hnx
  exact ma_core h ho hc hf hb hnm hd hdN hdr ha hy1 hx hy2 hget hg hvl hvs hvc hinn hnc hst1 hn1 hn2 hok (KO := fun os res => K ((st.mod r ((st r).v.setR p (bakV cs os))).put d res)) hk (fun os res v w' fp' hk _ _ _ hr => hnx _ _ _ _ _ hk hr)
end
end Go.Proofs.YtainknkfjekngaaDoor.Vm
