/- Slices: what is read of them, appended, cut; structs and slices built; parts of structs. -/
import Derived.Test.YtainknkfjekngaaDoorVm9b
namespace Go.Proofs.YtainknkfjekngaaDoor.Vm
open Go
set_option linter.unusedVariables false
set_option linter.unusedSimpArgs false

/-- The slice that an operand holds or names. -/
def St.sv (st : St) (x : XO) : Option (Nat × List (List V)) :=
  match st.val x with
  | .sl _ n es => some (n, es)
  | _ => match st.resH x with
    | some (r, p) => match st.slAt r p with
      | some (.sl _ n es) => some (n, es)
      | _ => none
    | none => none
def esCp (es : List (List V)) : Bool := es.all fun e => V.cp.go e
def esLeaf (es : List (List V)) : Bool := es.all fun e => e.all (·.leafOk)

section
variable {P : Program} {B : Base P} {N : Nat} {st : St} {a : Act} {w : World} {S : CS} {fp : Nat → CS}

theorem Rl.sv (h : Rl B N st a w S fp) {m n : Nat} {x : Operand} {y : XO} {es : List (List V)} (hx : cO m x = some y) (hs : st.sv y = some (n, es)) :
    ∃ own F, F.le (allFp fp) ∧ RV w S (AlOk w a st) (.sl own n es) (a.eval x) F := by
  unfold St.sv at hs
  split at hs
  · rename_i own n' es' hv
    simp only [Option.some.injEq, Prod.mk.injEq] at hs
    obtain ⟨rfl, rfl⟩ := hs
    have := h.val hx
    rw [hv] at this
    exact ⟨_, _, fpx_all y, this⟩
  · split at hs
    · rename_i r p hr
      split at hs
      · rename_i own n' es' hv
        simp only [Option.some.injEq, Prod.mk.injEq] at hs
        obtain ⟨rfl, rfl⟩ := hs
        obtain ⟨F, hF, hv', _⟩ := h.resH hx hr hv
        exact ⟨_, F, hF.trans (fp_all _), hv'⟩
      · cases hs
    · cases hs

theorem rll_cp {w : World} {S : CS} {A : AlSem} : ∀ {es : List (List V)} {uss : List (List Value)} {F : CS}, esCp es = true → RLL w S A es uss F → RLL w S A es uss CS.none
  | [], _, _, _, h => h
  | e :: es, _, F, hc, h => by
    obtain ⟨us, ur, F1, F2, rfl, l1, l2, d, hv, hr⟩ := h
    simp only [esCp, List.all_cons, Bool.and_eq_true] at hc
    exact ⟨us, ur, CS.none, CS.none, rfl, CS.none_le _, CS.none_le _, CS.none_dj _, RL.cp_none _ _ _ hc.1 hv, rll_cp hc.2 hr⟩

theorem sl_src {w : World} {S : CS} {A : AlSem} {own : Bool} {n : Nat} {es : List (List V)} {u : Value} {F : CS} (h : RV w S A (.sl own n es) u F) :
    ∃ uss G, Src w n u es uss ∧ RLL w S A es uss G ∧ G.le F ∧ (es = [] ∨ ∀ e ∈ es, e.length = n) := by
  obtain ⟨ad, cap, rfl, hcap, h⟩ := h
  rcases h with ⟨rfl, _⟩ | ⟨_, rfl, _⟩ | ⟨b, o, uss, rfl, hl, hc, hO, hN, hr⟩
  · exact ⟨[], CS.none, .inl ⟨ad, cap, rfl, rfl⟩, rfl, CS.none_le _, .inl rfl⟩
  · exact ⟨[], CS.none, .inl ⟨ad, cap, rfl, rfl⟩, rfl, CS.none_le _, .inl rfl⟩
  · refine ⟨uss, _, .inr ⟨b, o, cap, rfl, hc⟩, hr, ?_, .inr hl⟩
    split
    · exact CS.minus_le _ _
    · exact CS.none_le _

/-- Element types: size in cells, in bytes, with a zero value. -/
def slE (P : Program) (T : Nat) : Option (Nat × Nat) :=
  match P.underlying T with
  | some (.slice e) => match P.info? e with
    | some i => match i.zero with
      | some z => if z.cells.size = i.size ∧ 0 < i.size then some (i.size, i.bytes) else none
      | none => none
    | none => none
  | _ => none
theorem slE_spec {T n by_ : Nat} (h : slE P T = some (n, by_)) : ∃ e i z, P.underlying T = some (.slice e) ∧ P.info? e = some i ∧ i.zero = some z ∧ i.size = n ∧ z.cells.size = n ∧ 0 < n ∧ i.bytes = by_ := by
  unfold slE at h
  split at h
  · rename_i e hu
    split at h
    · rename_i i hi
      split at h
      · rename_i z hz
        split at h
        · rename_i hc
          simp only [Option.some.injEq, Prod.mk.injEq] at h
          obtain ⟨rfl, rfl⟩ := h
          exact ⟨e, i, z, hu, hi, hz, rfl, hc.1, hc.2, rfl⟩
        · cases h
      · cases h
    · cases h
  · cases h

theorem execOp_append {o : Oper} {c : Call} {x y : Operand} {T : Nat} (ho : o.op = .call c) (hc : c.callee = .builtin .append) (ha : c.args = #[x, y]) (ht : c.argTypes = #[T, T]) (ac : Act) (w : World) {v : Value} {w' : World}
    (hr : (Builtin.append_ #[T, T] o.type #[ac.eval x, ac.eval y]).run P w = .ok v w') : (execOp ac.eval o).run P w = .ok (.value v) w' := by
  simp [execOp, ho, resolve, hc, ha, ht, invoke, builtin, hr]

theorem CS.none_lt (w : World) : ∀ b x, CS.none b x → b < w.heap.size := fun _ _ h => h.elim

/-- append to a slice of one's own (or to nil); the source is copied, and stays as it is. -/
theorem ot_app {o : Oper} {d m T n by_ : Nat} {c : Call} {x y : Operand} {x' y' : XO} {es es2 : List (List V)} {K : St → Prop} (ho : o.op = .call c) (hc : c.callee = .builtin .append) (ha : c.args = #[x, y]) (ht : c.argTypes = #[T, T])
    (hd : o.dst = some d) (hdN : d < N) (hT : slE P T = some (n, by_)) (hx : cO n x = some x') (hy : cO m y = some y') (h1 : st.val x' = .sl true n es) (h2 : st.sv y' = some (n, es2)) (hcp : esCp es2 = true) (hlf : esLeaf es2 = true) (hxy : x' ≠ y' ∨ es2 = [])
    (hb : (es.length + es2.length) * by_ ≤ 140737488355328) (hb2 : es.length + es2.length ≤ 9223372036854775807) (hk : K ((match x' with | .t r => st.put r .hole | _ => st).put d (.sl true n (es ++ es2)))) : OT P N o st K := by
  intro B ac w S fp next Q h hnx
  obtain ⟨e, i, z, hu, hi, hz, hs, hzs, hn0, hby⟩ := slE_spec hT
  have hv := h.val hx
  rw [h1] at hv
  obtain ⟨own, F2, hF2, hv2⟩ := h.sv hy h2
  obtain ⟨uss2, G, hsrc, hrll, hG, hl2⟩ := sl_src hv2
  have hrll0 := rll_cp hcp hrll
  have hlen2 : ∀ e ∈ es2, e.length = n := hl2.elim (fun h => by subst h; simp) id
  have hlf' : ∀ e ∈ es2, e.all (·.leafOk) = true := by simpa [esLeaf] using hlf
  have hFS : (fpx fp x').dj S := by cases x' <;> first | exact h.djS _ | exact CS.none_dj _
  obtain ⟨v', w', F', hrun, hp, hrv, hF'⟩ := append_spec (P := P) (T := T) (ty := o.type) hu hi hz hs hzs hn0 hv hsrc hrll0 hlen2 hlf' (CS.none_dj _).symm hFS h.ltS (h.fpx_lt x') (CS.none_lt w) hb2 (by rw [hby]; exact hb)
  unfold Oper.wp
  rw [execOp_append ho hc ha ht ac w hrun]
  show next (ac.put o.dst v') w'
  rw [hd]
  cases x' with
  | t r =>
    have h0 := h.drop r
    have hw : Rl B N (st.put r .hole) ac w' S (fun i => if i = r then CS.none else fp i) := h0.world hp (fun b x hx => ⟨h.own r b x hx, fun i hi => by
        by_cases e : i = r
        · simp only [e, if_true] at hi; exact hi
        · simp only [e, if_false] at hi; exact h.dj r i (Ne.symm e) b x hx hi, fun hs => h.djS r b x hx hs⟩) (CS.le.refl _)
      (fun b x hs => ⟨Nat.lt_of_lt_of_le (h.ltS b x hs) hp.size, h.shr b x hs⟩) h0.djS
    have hagS : Agree w w' S := hp.agree h.ltS (h.djS r).symm
    have hA : ∀ x u, AlOk w ac st x u → AlOk w' ac (st.put r .hole) x u := by
      intro x u hx
      have hx' := AlOk.drop r hx
      obtain ⟨g1, g2, g3⟩ := hx'
      refine ⟨g1, g2, fun e1 e2 e5 => ?_⟩
      have hrv0 := h0.rv x.root
      by_cases e : x.root = r
      · obtain ⟨q1, q2, q3⟩ := hx
        rw [e] at e1 q1
        simp [St.put] at e1
        omega
      · exact (g3 e1 e2 e5).agree hrv0 (hp.agree (fun b y hy => h0.lt x.root b y hy) (by simp only [e, if_false]; exact h.dj x.root r e))
    have hrv' := RV.frame (CS.le.refl _) hA (Agree.refl w' S) _ _ _ _ (CS.le.refl _) (Agree.refl w' F') (RV.frame (w := w') (CS.le.refl _) (fun _ _ h => h) (Agree.refl _ _) _ _ _ _ (CS.le.refl _) (Agree.refl _ _) hrv)
    refine hnx _ _ _ _ _ hk (hw.put d _ v' F' hdN hrv' (fun j hj b x hx hy => ?_) (fun b x hx hs => ?_) (fun b x hx => (hF' b x hx).2) (fun b x hx => ?_))
    · by_cases e : j = r
      · simp only [e, if_true] at hy; exact hy
      · simp only [e, if_false] at hy
        rcases (hF' b x hx).1 with h3 | h3 | h3
        · exact h.dj r j (Ne.symm e) b x h3 hy
        · exact h3
        · exact absurd (h.lt j b x hy) (Nat.not_lt.2 h3)
    · rcases (hF' b x hx).1 with h3 | h3 | h3
      · exact h.djS r b x h3 hs
      · exact h3
      · exact absurd (h.ltS b x hs) (Nat.not_lt.2 h3)
    · rcases (hF' b x hx).1 with h3 | h3 | h3
      · exact h.own r b x h3
      · exact h3.elim
      · exact .inr (Nat.le_trans h.pres.size h3)
  | _ =>
    have hw : Rl B N st ac w' S fp := h.world hp (fun _ _ h => h.elim) (CS.le.refl _) (fun b x hs => ⟨Nat.lt_of_lt_of_le (h.ltS b x hs) hp.size, h.shr b x hs⟩) h.djS
    have hA : ∀ x u, AlOk w ac st x u → AlOk w' ac st x u := fun x u ⟨g1, g2, g3⟩ => ⟨g1, g2, fun e1 e2 e3 => (g3 e1 e2 e3).agree (h.rv x.root) (hp.agree (h.lt x.root) (CS.none_dj _).symm)⟩
    refine hnx _ _ _ _ _ hk (hw.put d _ v' F' hdN (RV.frame (CS.le.refl _) hA (Agree.refl w' S) _ _ _ _ (CS.le.refl _) (Agree.refl w' F') hrv) (fun j hj b x hx hy => ?_) (fun b x hx hs => ?_) (fun b x hx => (hF' b x hx).2) (fun b x hx => ?_))
    · rcases (hF' b x hx).1 with h3 | h3 | h3
      · exact h3
      · exact h3
      · exact absurd (h.lt j b x hy) (Nat.not_lt.2 h3)
    · rcases (hF' b x hx).1 with h3 | h3 | h3
      · exact h3
      · exact h3
      · exact absurd (h.ltS b x hs) (Nat.not_lt.2 h3)
    · rcases (hF' b x hx).1 with h3 | h3 | h3
      · exact h3.elim
      · exact h3.elim
      · exact .inr (Nat.le_trans h.pres.size h3)

/-- What has been taken out of some temporaries lies in new or old cells of theirs: it is given to another. -/
theorem Rl.give (h : Rl B N st a w S fp) {w' : World} {O F' : CS} {V0 : V} {v' : Value} (d : Nat) (hdN : d < N) (hp : Pres O w w') (hO : ∀ b x, O b x → (B.O0 b x ∨ fresh B.w0 b x) ∧ (∀ i, ¬ fp i b x) ∧ ¬ S b x)
    (hrv : ∀ A', (∀ x u, AlOk w a st x u → A' x u) → RV w' S A' V0 v' F') (hF' : ∀ b x, F' b x → (O b x ∨ fresh w b x) ∧ b < w'.heap.size) : Rl B N (st.put d V0) (a.put (some d) v') w' S (fun i => if i = d then F' else fp i) := by
  have hw : Rl B N st a w' S fp := h.world hp hO (CS.le.refl _) (fun b x hs => ⟨Nat.lt_of_lt_of_le (h.ltS b x hs) hp.size, h.shr b x hs⟩) h.djS
  have hA : ∀ x u, AlOk w a st x u → AlOk w' a st x u := fun x u ⟨g1, g2, g3⟩ => ⟨g1, g2, fun e1 e2 e3 => (g3 e1 e2 e3).agree (h.rv x.root) (hp.agree (h.lt x.root) (fun b y h1 h2 => (hO b y h2).2.1 _ h1))⟩
  refine hw.put d V0 v' F' hdN (hrv _ hA) (fun j hj b x hx hy => ?_) (fun b x hx hs => ?_) (fun b x hx => (hF' b x hx).2) (fun b x hx => ?_)
  · rcases (hF' b x hx).1 with h3 | h3
    · exact (hO b x h3).2.1 j hy
    · exact absurd (h.lt j b x hy) (Nat.not_lt.2 h3)
  · rcases (hF' b x hx).1 with h3 | h3
    · exact (hO b x h3).2.2 hs
    · exact absurd (h.ltS b x hs) (Nat.not_lt.2 h3)
  · rcases (hF' b x hx).1 with h3 | h3
    · exact (hO b x h3).1
    · exact .inr (Nat.le_trans h.pres.size h3)

/-- append; what the source holds is taken. -/
theorem ot_appT {o : Oper} {d T n by_ q : Nat} {c : Call} {x : Operand} {x' : XO} {es es2 : List (List V)} {K : St → Prop} (ho : o.op = .call c) (hc : c.callee = .builtin .append) (ha : c.args = #[x, .tmp q]) (ht : c.argTypes = #[T, T])
    (hd : o.dst = some d) (hdN : d < N) (hT : slE P T = some (n, by_)) (hx : cO n x = some x') (h1 : st.val x' = .sl true n es) (h2 : (st q).v = .sl true n es2) (hxq : x' ≠ .t q) (hlf : esLeaf es2 = true)
    (hb : (es.length + es2.length) * by_ ≤ 140737488355328) (hb2 : es.length + es2.length ≤ 9223372036854775807) (hk : K (((match x' with | .t r => st.put r .hole | _ => st).put q .hole).put d (.sl true n (es ++ es2)))) : OT P N o st K := by
  intro B ac w S fp next Q h hnx
  obtain ⟨e, i, z, hu, hi, hz, hs, hzs, hn0, hby⟩ := slE_spec hT
  have hv := h.val hx
  rw [h1] at hv
  have hv2 := h.rv q
  rw [h2] at hv2
  obtain ⟨uss2, G, hsrc, hrll, hG, hl2⟩ := sl_src hv2
  have hlen2 : ∀ e ∈ es2, e.length = n := hl2.elim (fun h => by subst h; simp) id
  have hlf' : ∀ e ∈ es2, e.all (·.leafOk) = true := by simpa [esLeaf] using hlf
  have hFS : (fpx fp x').dj S := by cases x' <;> first | exact h.djS _ | exact CS.none_dj _
  have hFq : (fpx fp x').dj (fp q) := by
    cases x' with
    | t r => exact h.dj r q (fun e => hxq (by rw [e]))
    | _ => exact CS.none_dj _
  have hAA : ∀ A', (∀ x u, AlOk w ac st x u → A' x u) → ∃ v' w' F', (Builtin.append_ #[T, T] o.type #[ac.eval x, tm ac q]).run P w = .ok v' w' ∧ Pres (fpx fp x') w w' ∧ RV w' S A' (.sl true n (es ++ es2)) v' F' ∧ (∀ b x, F' b x → (fpx fp x' b x ∨ G b x ∨ fresh w b x) ∧ b < w'.heap.size) := fun A' hA =>
    append_spec (P := P) (T := T) (ty := o.type) hu hi hz hs hzs hn0 (RV.frame (CS.le.refl _) hA (Agree.refl _ _) _ _ _ _ (CS.le.refl _) (Agree.refl _ _) hv) hsrc (RLL.frame (CS.le.refl _) hA (Agree.refl _ _) _ _ _ _ (CS.le.refl _) (Agree.refl _ _) hrll) hlen2 hlf' (hFq.mono (CS.le.refl _) hG) hFS h.ltS (h.fpx_lt x') (fun b x hx => h.lt q b x (hG b x hx)) hb2 (by rw [hby]; exact hb)
  obtain ⟨v', w', F', hrun, hp, hrv, hF'⟩ := hAA _ (fun _ _ h => h)
  unfold Oper.wp
  rw [execOp_append ho hc ha ht ac w hrun]
  show next (ac.put o.dst v') w'
  rw [hd]
  have hqd : ∀ {st0 : St} {fp0 : Nat → CS}, Rl B N st0 ac w S fp0 → (∀ x u, AlOk w ac st x u → AlOk w ac st0 x u) → (∀ i b x, fp0 i b x → fp i b x ∧ ¬ fpx fp x' b x) → (∀ b x, fpx fp x' b x → (B.O0 b x ∨ fresh B.w0 b x)) →
      Rl B N ((st0.put q .hole).put d (.sl true n (es ++ es2))) (ac.put (some d) v') w' S (fun i => if i = d then F' else if i = q then CS.none else fp0 i) := by
    intro st0 fp0 h0 hA0 hfp0 hOx
    refine (h0.drop q).give (O := (fpx fp x').un G) d hdN (hp.mono (fun b x _ h => .inl h)) ?_ ?_ (fun b x hx => ⟨(hF' b x hx).1.elim (fun h => .inl (.inl h)) (fun h => h.elim (fun h => .inl (.inr h)) .inr), (hF' b x hx).2⟩)
    · intro b x hx
      rcases hx with hx | hx
      · refine ⟨hOx b x hx, fun i hi => ?_, fun hs => hFS b x hx hs⟩
        by_cases e : i = q
        · simp only [e, if_true] at hi; exact hi
        · simp only [e, if_false] at hi; exact (hfp0 i b x hi).2 hx
      · refine ⟨h.own q b x (hG b x hx), fun i hi => ?_, fun hs => h.djS q b x (hG b x hx) hs⟩
        by_cases e : i = q
        · simp only [e, if_true] at hi; exact hi
        · simp only [e, if_false] at hi; exact h.dj i q e b x (hfp0 i b x hi).1 (hG b x hx)
    · intro A' hA
      obtain ⟨v2, w2, F2, hrun2, _, hrv2, _⟩ := hAA A' (fun x u hx => hA x u (AlOk.drop q (hA0 x u hx)))
      have hrun2' : Result.ok v' w' = Result.ok v2 w2 := hrun.symm.trans hrun2
      cases hrun2'
      exact RV.frame (CS.le.refl _) (fun x u hx => hA x u (AlOk.drop q (hA0 x u hx))) (Agree.refl _ _) _ _ _ _ (CS.le.refl _) (Agree.refl _ _) (RV.frame (A' := AlOk w ac st) (CS.le.refl _) (fun _ _ h => h) (Agree.refl _ _) _ _ _ _ (CS.le.refl _) (Agree.refl _ _) hrv)
  cases x' with
  | t r =>
    refine hnx _ _ _ _ _ hk (hqd (h.drop r) (fun x u hx => AlOk.drop r hx) (fun i b x hi => ?_) (fun b x hx => h.own r b x hx))
    by_cases e : i = r
    · simp only [e, if_true] at hi; exact hi.elim
    · simp only [e, if_false] at hi; exact ⟨hi, fun hx => h.dj i r e b x hi hx⟩
  | _ => exact hnx _ _ _ _ _ hk (hqd h (fun _ _ h => h) (fun i b x hi => ⟨hi, fun h => h.elim⟩) (fun _ _ h => h.elim))

/-- A slice held against nil: unless it is empty, it isn't. -/
theorem ot_nilq {o : Oper} {d m T ty n e : Nat} {neg : Bool} {x : Operand} {y : XO} {es : List (List V)} {K : St → Prop} (ho : o.op = .binOp (if neg then .neq else .eql) T x (.const (.slice none 0 0)) ty) (hd : o.dst = some d) (hdN : d < N)
    (hT : P.underlying T = some (.slice e)) (hx : cO m x = some y) (hs : st.sv y = some (n, es)) (hk : K (st.put d (.lit (.bool neg))) ) (hk' : es = [] → K (st.put d (.lit (.bool !neg)))) : OT P N o st K := by
  intro B a w S fp next Q h hnx
  obtain ⟨own, F, hF, hv⟩ := h.sv hx hs
  obtain ⟨ad, cap, he, hcap, hv⟩ := hv
  unfold Oper.wp
  have hrun : (execOp a.eval o).run P w = .ok (.value (.bool (if neg then !ad.isNone else ad.isNone))) w := by
    have hg : ∀ op, (eqGuard op T x (.const (.slice none 0 0)) (.slice ad es.length cap) (.slice none 0 0)).run P w = .ok () w := fun op => by cases op <;> rfl
    have hq : (Op.equal T (.slice ad es.length cap) (.slice none 0 0)).run P w = .ok ad.isNone w := by
      show (Op.equalIn (9999 + 1) T _ _).run P w = _
      unfold Op.equalIn
      rw [Sem.run_bind, run_underlying hT]
      cases ad <;> rfl
    have he2 : a.eval (.const (.slice none 0 0)) = .slice none 0 0 := rfl
    cases neg with
    | false =>
      simp only [execOp, ho, he, he2, Bool.false_eq_true, if_false]
      rw [Sem.run_bind, Sem.run_bind, hg]; simp only [Result.andThen]
      rw [show binOp .eql T (.slice ad es.length cap) (.slice none 0 0) = (do pure (.bool (← Op.equal T (.slice ad es.length cap) (.slice none 0 0)))) from rfl, Sem.run_bind, hq]; rfl
    | true =>
      simp only [execOp, ho, he, he2, if_true]
      rw [Sem.run_bind, Sem.run_bind, hg]; simp only [Result.andThen]
      rw [show binOp .neq T (.slice ad es.length cap) (.slice none 0 0) = (do pure (.bool (!(← Op.equal T (.slice ad es.length cap) (.slice none 0 0))))) from rfl, Sem.run_bind, hq]; rfl
  rw [hrun]
  show next (a.put o.dst _) _
  rw [hd]
  cases hn : ad.isNone with
  | true =>
    have hes : es = [] := by
      rcases hv with h1 | h1 | ⟨b, c, uss, rfl, _⟩
      · exact h1.1
      · exact h1.2.1
      · cases hn
    have hb : (if neg = true then !true else true) = !neg := by cases neg <;> rfl
    rw [hb]
    exact hnx _ _ _ _ _ (hk' hes) (h.put_cp d (.lit _) _ CS.none hdN rfl rfl)
  | false =>
    have hb : (if neg = true then !false else false) = neg := by cases neg <;> rfl
    rw [hb]
    exact hnx _ _ _ _ _ hk (h.put_cp d (.lit _) _ CS.none hdN rfl rfl)

/-- Bytes turned into a string. -/
def byteL : List (List V) → Option (List UInt8)
  | [] => some []
  | [.lit (.int .u8 n)] :: l => (byteL l).map (UInt8.ofNat n.toNat :: ·)
  | _ => none
def byteN : List (List V) → List Int
  | [] => []
  | [.lit (.int .u8 n)] :: l => n :: byteN l
  | _ :: l => byteN l

theorem rll_bytes {w : World} {S : CS} {A : AlSem} : ∀ {es : List (List V)} {uss : List (List Value)} {F : CS} {s : List UInt8}, RLL w S A es uss F → byteL es = some s → uss.flatten = (byteN es).map (Value.int .u8) ∧ s = (byteN es).map fun n => UInt8.ofNat n.toNat
  | [], _, _, s, h, hb => by simp [RLL] at h; simp [byteL] at hb; simp [h, ← hb, byteN]
  | e :: es, _, F, s, h, hb => by
    obtain ⟨us, ur, F1, F2, rfl, l1, l2, d, hv, hr⟩ := h
    match e, hb with
    | [.lit (.int .u8 n)], hb =>
      simp only [byteL] at hb
      obtain ⟨s', hs', rfl⟩ := Option.map_eq_some_iff.1 hb
      obtain ⟨h1, h2⟩ := rll_bytes hr hs'
      obtain ⟨u, u2, F3, F4, rfl, _, _, _, hv1, hv2⟩ := hv
      simp only [RL] at hv2; subst hv2
      simp only [RV] at hv1; subst hv1
      simp [byteN, h1, h2]

theorem foldl_push (l : List Int) : ∀ s : ByteArray, l.foldl (fun r n => r.push (UInt8.ofNat n.toNat)) s = ⟨s.data ++ (l.map fun n => UInt8.ofNat n.toNat).toArray⟩ := by
  induction l with
  | nil => intro s; cases s; simp
  | cons n l ih =>
    intro s
    rw [List.foldl_cons, ih]
    cases s
    simp [ByteArray.push]

theorem ot_b2s {o : Oper} {d m s t e : Nat} {x : Operand} {y : XO} {es : List (List V)} {l : List UInt8} {K : St → Prop} (ho : o.op = .convert s t x) (hd : o.dst = some d) (hdN : d < N) (hs : P.underlying s = some (.slice e)) (he : P.underlying e = some (.int .u8)) (ht : P.underlying t = some .string)
    (hx : cO m x = some y) (hv : st.sv y = some (1, es)) (hl : byteL es = some l) (hk : K (st.put d (.lit (.string (ba l))))) : OT P N o st K :=
  ot_lit hd hdN (fun B ac w S fp h => by
    obtain ⟨own, F, hF, hv⟩ := h.sv hx hv
    obtain ⟨uss, G, hsrc, hrll, hG, hl2⟩ := sl_src hv
    obtain ⟨h1, h2⟩ := rll_bytes hrll hl
    have hc : ∀ u, (∃ a c, u = .slice a es.length c) → (convert s t u).run P w = (Conv.bytesToString u).run P w := by
      rintro u ⟨a, c, rfl⟩
      unfold convert
      rw [Sem.run_bind, run_underlying hs]; simp only [Result.andThen]
      rw [Sem.run_bind, run_underlying ht]; simp only [Result.andThen]
      cases a <;> (rw [Sem.run_bind, run_underlying he]; rfl)
    have hb : (Conv.bytesToString (ac.eval x)).run P w = .ok (.string (ba l)) w := by
      rcases hsrc with ⟨a, c, hu, rfl⟩ | ⟨b, o', c, hu, hc⟩
      · have hl0 : l = [] := by simpa [byteL] using hl.symm
        subst hl0
        rw [hu]
        cases a with
        | none => rfl
        | some a => rw [run_bytesToString w a 0 c [] (by simp [loadCells, loadCellsFrom])]; rfl
      · rw [hu]
        have hlens : ∀ u ∈ uss, u.length = 1 := by
          rcases hl2 with h3 | h3
          · subst h3; have : uss = [] := by simpa [RLL] using hrll
            simp [this]
          · exact rll_lens hrll h3
        have hul := RLL.length hrll
        have hcf := cells_flat hlens hul hc
        have hfl : uss.flatten.length = es.length := by rw [flat_len _ hlens, hul]; omega
        have hld := run_loadCells_list (P := P) w ⟨b, o', none⟩ uss.flatten hcf
        rw [hfl, h1] at hld
        rw [run_bytesToString w _ _ c (byteN es) hld, foldl_push, h2]
        simp [ba, ByteArray.empty, ByteArray.emptyWithCapacity]
        rfl
    have hsh : ∃ a c, ac.eval x = .slice a es.length c := by
      obtain ⟨a, c, hu, _⟩ := hv; exact ⟨a, c, hu⟩
    simp only [execOp, ho, Sem.run_bind, hc _ hsh, hb]; rfl) hk
end
end Go.Proofs.YtainknkfjekngaaDoor.Vm
