/- A struct that came in is boxed, and its place goes on by names: so what is its own can be given back. -/
import Derived.Test.YtainknkfjekngaaDoorVm9f
import Derived.Laws.IdiomStrings
namespace Go.Proofs.YtainknkfjekngaaDoor.Vm
open Go
set_option linter.unusedVariables false
set_option linter.unusedSimpArgs false

def aliasC (d ver hv : Nat) : Nat → List V → List V
  | _, [] => []
  | k, c :: cs => (if c.cp = true then c else .al ⟨false, d, [(0, k)], ver, hv⟩) :: aliasC d ver hv (k + 1) cs

section
variable {P : Program} {B : Base P} {N : Nat} {st : St} {a : Act} {w : World} {S : CS} {fp : Nat → CS}

/-- Of what has no places, a name's place is none. -/
def V.flat : V → Bool
  | .hole | .agg _ => true
  | _ => false
theorem flat_loc {v : V} {u0 u : Value} {x : Al} (hv : v.flat = true) (hs : x.short = true) : ¬ Loc w v u0 x.ptr x.pth u := by
  simp only [Al.short, Bool.and_eq_true, decide_eq_true_eq] at hs
  obtain ⟨h1, h2⟩ := hs
  rw [h1]
  rintro ⟨b, y, h3, _⟩
  match hp : x.pth, h2 with
  | [(i, k)], _ =>
    rw [hp] at h3
    cases v <;> simp [V.flat] at hv <;> simp [addr, V.place] at h3
theorem AlOk.modV {x : Al} {u : Value} {r : Nat} {V0 : V} (hb : V0.isBx = false) (hf : (st r).v.flat = true) (h : AlOk w a st x u) : AlOk w a (st.mod r V0) x u := by
  obtain ⟨h1, h2, h3⟩ := h
  by_cases e : x.root = r
  · refine ⟨?_, ?_, fun e1 e2 e5 => ?_⟩ <;> simp only [St.mod, e, if_true] at *
    · exact h1
    · omega
    · rcases e2 with e2 | e2
      · exact absurd (h3 e1 (.inl e2) ⟨fun hx => absurd (show V0.isBx = true from e5.1 hx) (by rw [hb]; decide), pok_short e2 _⟩) (flat_loc hf e2)
      · omega
  · refine ⟨?_, ?_, ?_⟩ <;> simp only [St.mod, e, if_false]
    · exact h1
    · exact h2
    · exact h3
/-- A place without places of its own is read anew. -/
theorem Rl.modV (h : Rl B N st a w S fp) (r : Nat) (V0 : V) (F : CS) (hb : V0.isBx = false) (hf : (st r).v.flat = true) (hv : RV w S (AlOk w a st) V0 (tm a r) F) (hle : F.le (fp r)) :
    Rl B N (st.mod r V0) a w S (fun i => if i = r then F else fp i) := by
  have hle' : ∀ i, (if i = r then F else fp i).le (fp i) := fun i => by
    by_cases e : i = r
    · subst e; simpa using hle
    · simp only [e, if_false]; exact CS.le.refl _
  refine ⟨h.size, h.defers, fun i j hij => (h.dj i j hij).mono (hle' i) (hle' j), fun i => (h.djS i).mono (hle' i) (CS.le.refl _), fun i b x hx => h.lt i b x (hle' i b x hx), h.ltS, fun i => ?_, h.pres, h.s0, fun i b x hx => h.own i b x (hle' i b x hx), h.shr, fun i hi => ?_⟩
  · by_cases e : i = r
    · subst e
      simp only [St.mod, if_true]
      exact RV.frame (CS.le.refl _) (fun x u h => AlOk.modV hb hf h) (Agree.refl _ _) _ _ _ _ (CS.le.refl _) (Agree.refl _ _) hv
    · simp only [St.mod, e, if_false]
      exact RV.frame (CS.le.refl _) (fun x u h => AlOk.modV hb hf h) (Agree.refl _ _) _ _ _ _ (CS.le.refl _) (Agree.refl _ _) (h.rv i)
  · by_cases e : i = r
    · subst e; simp [St.mod] at hi; exact h.keep i hi
    · simp [St.mod, e] at hi; exact h.keep i hi

theorem rl_alias {d ver hv b : Nat} {A : AlSem} : ∀ (cs : List V) (us : List Value) (k : Nat) (F : CS), RL w S A cs us F → (∀ j u, us[j]? = some u → A ⟨false, d, [(0, k + j)], ver, hv⟩ u) → RL w S A (aliasC d ver hv k cs) us CS.none
  | [], us, k, F, h, _ => h
  | c :: cs, us, k, F, h, hA => by
    obtain ⟨u, ur, F1, F2, rfl, l1, l2, dj, h1, h2⟩ := h
    refine ⟨u, ur, CS.none, CS.none, rfl, CS.none_le _, CS.none_le _, CS.none_dj _, ?_, rl_alias (b := b) cs ur (k + 1) F2 h2 (fun j v hj => ?_)⟩
    · by_cases hc : c.cp = true
      · rw [if_pos hc]; exact RV.cp_none _ _ _ hc h1
      · rw [if_neg hc]; exact hA 0 u rfl
    · have := hA (j + 1) v (by simpa using hj)
      rwa [show k + (j + 1) = k + 1 + j by omega] at this

theorem ot_boxL {o : Oper} {d r T : Nat} {cs : List V} {K : St → Prop} (ho : o.op = .box T (.tmp r)) (hd : o.dst = some d) (hdN : d < N) (hdr : d ≠ r)
    (hv : (st r).v = .agg cs) (hcs : (st r).v.cells = some cs) (hk : K (((st.mod r .hole).put d (.box cs)).mod r (.agg (aliasC d ((st d).ver + 1) ((st d).hv + 1) 0 cs)))) : OT P N o st K := by
  intro B a w S fp next Q hr hn
  unfold Oper.wp
  have hrun : (execOp a.eval o).run P w = .ok (.value (.pointer (some ⟨w.heap.size, 0, none⟩))) (w.alloc (.cells (tm a r).cells T)) := by
    simp [execOp, ho, Instr.box, run_newVar, Act.eval, tm]
  rw [hrun]
  show next (a.put o.dst _) _
  rw [hd]
  have hfl : (st r).v.flat = true := by rw [hv]; rfl
  have h0 := hr.modV r .hole CS.none rfl hfl trivial (CS.none_le _)
  have hv0 := RV.frame (CS.le.refl _) (fun x u h => AlOk.modV (r := r) (V0 := V.hole) rfl hfl h) (Agree.refl _ _) _ _ _ _ (CS.le.refl _) (Agree.refl _ _) (hr.rv r)
  have h1 := h0.new_box d hdN T cs _ (fp r) (V.cells_spec hv0 hcs).1 (fun i _ => dj_drop hr r i) (hr.djS r) (hr.lt r) (hr.own r)
  simp only [Array.toArray_toList] at h1
  have hta : tm (a.put (some d) (.pointer (some ⟨w.heap.size, 0, none⟩))) r = tm a r := by
    rw [tm_put]; simp [Ne.symm hdr]
  obtain ⟨us, hus, hrl⟩ : ∃ us : List Value, tm a r = .agg us.toArray ∧ RL w S (AlOk w a st) cs us (fp r) := by
    have := hr.rv r; rw [hv] at this; exact this
  have hcells : (tm a r).cells = us.toArray := by rw [hus]; rfl
  rw [hcells] at h1 ⊢
  have hlen : us.length = cs.length := RL.length hrl
  have hbox := h1.rv d
  have hdv : (((st.mod r .hole).put d (.box cs)) d).v = .box cs := by simp [St.put]
  have htd : tm (a.put (some d) (.pointer (some ⟨w.heap.size, 0, none⟩))) d = .pointer (some ⟨w.heap.size, 0, none⟩) := by
    rw [tm_put]; simp [hr.size, hdN]
  rw [hdv, htd] at hbox
  obtain ⟨b, o', us', hp, hc, hrl'⟩ := hbox
  simp only [Value.pointer.injEq, Option.some.injEq, Addr.mk.injEq, and_true] at hp
  obtain ⟨rfl, rfl⟩ := hp
  have hcell : ∀ k, k < us.length → (w.alloc (.cells us.toArray T)).cell? ⟨w.heap.size, 0 + k, none⟩ = us[k]? := by
    intro k hk
    simp [cell_new]
  have hus' : us' = us := by
    have hl' : us'.length = cs.length := RL.length hrl'
    apply List.ext_getElem (by omega)
    intro k h2 h3
    have e1 := (hc k (by omega)).2.1
    rw [hcell k (by omega), List.getElem?_eq_getElem h2, List.getElem?_eq_getElem h3] at e1
    exact (Option.some.inj e1).symm
  subst hus'
  have hA : ∀ j u, us'[j]? = some u → AlOk (w.alloc (.cells us'.toArray T)) (a.put (some d) (.pointer (some ⟨w.heap.size, 0, none⟩))) ((st.mod r .hole).put d (.box cs)) ⟨false, d, [(0, 0 + j)], (st d).ver + 1, (st d).hv + 1⟩ u := by
    intro j u hj
    have hlt := (List.getElem?_eq_some_iff.1 hj).1
    refine ⟨by simp [St.put, St.mod, hdr], by simp [St.put, St.mod, hdr], fun _ _ _ => ?_⟩
    rw [hdv, htd]
    refine ⟨w.heap.size, 0 + j, by simp [addr, V.place, ptrOf], ?_, ?_⟩
    · rw [hcell j hlt, hj]
    · exact ⟨_, by simp [V.getR, V.elem]; exact ⟨by omega, rfl⟩⟩
  have h2 := h1.modV r (.agg (aliasC d ((st d).ver + 1) ((st d).hv + 1) 0 cs)) CS.none rfl (by simp [St.put, St.mod, Ne.symm hdr, V.flat]) (by
    rw [hta, hus]
    exact ⟨us', rfl, rl_alias (b := 0) cs us' 0 _ hrl' hA⟩) (CS.none_le _)
  exact hn _ _ _ _ _ hk h2

/-- A struct of names to a box's cells, and the cells: what was the struct's own is its own again. -/
def mergeC (d ver hv : Nat) : Nat → List V → List V → Option (List V)
  | _, [], [] => some []
  | k, c :: cs, b :: bs => match mergeC d ver hv (k + 1) cs bs with
    | some l => match c with
      | .al y => if y = ⟨false, d, [(0, k)], ver, hv⟩ then some (b :: l) else none
      | c => if c.cp = true then some (c :: l) else none
    | none => none
  | _, _, _ => none
theorem rl_merge {d ver hv : Nat} {A : AlSem} : ∀ (cs bs l : List V) (us ub : List Value) (k : Nat) (F G : CS), mergeC d ver hv k cs bs = some l → RL w S A cs us G → RL w S A bs ub F →
    (∀ j u u', us[j]? = some u → ub[j]? = some u' → A ⟨false, d, [(0, k + j)], ver, hv⟩ u → u = u') → RL w S A l us F
  | [], [], l, us, ub, k, F, G, h, h1, h2, _ => by
    simp only [mergeC, Option.some.injEq] at h; subst h
    simp only [RL] at h1 ⊢; exact h1
  | c :: cs, b :: bs, l, us, ub, k, F, G, h, h1, h2, hA => by
    simp only [mergeC] at h
    split at h <;> try (cases h; done)
    rename_i l' hl
    obtain ⟨u, ur, G1, G2, rfl, g1, g2, gd, h3, h4⟩ := h1
    obtain ⟨v, vr, F1, F2, rfl, l1, l2, dj, h5, h6⟩ := h2
    have ih := rl_merge cs bs l' ur vr (k + 1) F2 G2 hl h4 h6 (fun j x y hx hy ha => hA (j + 1) x y (by simpa using hx) (by simpa using hy) (by rwa [show k + (j + 1) = k + 1 + j by omega]))
    split at h
    · rename_i y
      split at h <;> try (cases h; done)
      rename_i hy
      cases h
      subst hy
      have := hA 0 u v rfl rfl h3
      subst this
      exact ⟨u, ur, F1, F2, rfl, l1, l2, dj, h5, ih⟩
    · split at h <;> try (cases h; done)
      rename_i hc
      cases h
      exact ⟨u, ur, CS.none, F2, rfl, CS.none_le _, l2, (CS.none_dj _), RV.cp_none _ _ _ hc h3, ih⟩
  | [], _ :: _, _, _, _, _, _, _, h, _, _, _ => by simp [mergeC] at h
  | _ :: _, [], _, _, _, _, _, _, h, _, _, _ => by simp [mergeC] at h
theorem Rl.retr (h : Rl B N st a w S fp) {r d : Nat} {cs bs l : List V} (hdr : d ≠ r) (hv : (st r).v = .agg cs) (hb : (st d).v = .box bs) (hm : mergeC d (st d).ver (st d).hv 0 cs bs = some l) :
    ∃ fp', Rl B N (fun i => if i = r then ⟨.agg l, (st r).ver, (st r).hv⟩ else if i = d then ⟨.hole, (st d).ver + 1, (st d).hv⟩ else st i) a w S fp' := by
  have h1 := h.rv r
  rw [hv] at h1
  obtain ⟨us, hus, hrl⟩ := h1
  have h2 := h.rv d
  rw [hb] at h2
  obtain ⟨b, o, ub, hub, hc, hrlb⟩ := h2
  have hlb : ub.length = bs.length := RL.length hrlb
  let F : CS := (fp d).minus (CS.row b o bs.length)
  have hF : F.le (fp d) := fun x y hh => hh.1
  let st2 : St := fun i => if i = r then ⟨.agg l, (st r).ver, (st r).hv⟩ else if i = d then ⟨.hole, (st d).ver + 1, (st d).hv⟩ else st i
  have e_r : st2 r = ⟨.agg l, (st r).ver, (st r).hv⟩ := by simp [st2]
  have e_d : st2 d = ⟨.hole, (st d).ver + 1, (st d).hv⟩ := by simp [st2, hdr]
  have e_o : ∀ i, i ≠ r → i ≠ d → st2 i = st i := fun i h1 h2 => by simp [st2, h1, h2]
  have hA : ∀ x u, AlOk w a st x u → AlOk w a st2 x u := by
    rintro x u ⟨g1, g2, g3⟩
    by_cases e : x.root = r
    · rw [e] at g1 g2 g3
      refine ⟨by rw [e, e_r]; exact g1, by rw [e, e_r]; exact g2, fun k1 k2 k5 => ?_⟩
      rw [e, e_r] at k1 k2 k5
      rw [e, e_r]
      have := g3 k1 k2 ⟨fun hx => by have := k5.1 hx; simp [V.place] at this, by rw [hv]; match x.pth with | [] => rfl | [_] => rfl | _ :: _ :: _ => rfl⟩
      rw [hv] at this
      match hp : x.ptr, hq : x.pth with
      | true, p =>
        rw [hp, hq] at this
        obtain ⟨b1, x1, h1, _⟩ := this
        match p, h1 with
        | [], h1 => simp [addr] at h1
        | [(i, k)], h1 => simp [addr, V.place] at h1
        | (i, k) :: q :: p, h1 => simp [addr, V.elem] at h1
      | false, [] => rw [hp, hq] at this; exact this
      | false, q :: p =>
        rw [hp, hq] at this
        obtain ⟨b1, x1, h1, _⟩ := this
        match p, h1 with
        | [], h1 => obtain ⟨i, k⟩ := q; simp [addr, V.place] at h1
        | q2 :: p, h1 => obtain ⟨i, k⟩ := q; simp [addr, V.elem] at h1
    · by_cases e2 : x.root = d
      · rw [e2] at g1 g2
        refine ⟨by rw [e2, e_d]; exact Nat.le_succ_of_le g1, by rw [e2, e_d]; exact g2, fun k1 _ _ => ?_⟩
        rw [e2, e_d] at k1
        simp only at k1; omega
      · refine ⟨by rw [e_o _ e e2]; exact g1, by rw [e_o _ e e2]; exact g2, by rw [e_o _ e e2]; exact g3⟩
  have hml : RL w S (AlOk w a st) l us F := rl_merge cs bs l us ub 0 F (fp r) hm hrl hrlb (fun j u u' hu hu' ha => by
    obtain ⟨_, _, g3⟩ := ha
    have := g3 rfl (.inr rfl) ⟨fun hx => by simp [Al.bx] at hx, rfl⟩
    simp only at this
    rw [hb, hub] at this
    obtain ⟨b1, x1, k1, k2, _⟩ := this
    simp only [addr, V.place, ptrOf, Option.map_some, Option.some.injEq, Prod.mk.injEq] at k1
    obtain ⟨rfl, rfl⟩ := k1
    have hlt := (List.getElem?_eq_some_iff.1 hu').1
    have := (hc j (by omega)).2.1
    rw [Nat.zero_add, this, hu'] at k2
    exact (Option.some.inj k2).symm)
  have hle : ∀ i, i ≠ r → (if i = r then F else if i = d then CS.none else fp i).le (fp i) := fun i hi => by
    rw [if_neg hi]
    by_cases e : i = d
    · rw [if_pos e]; exact CS.none_le _
    · rw [if_neg e]; exact CS.le.refl _
  refine ⟨fun i => if i = r then F else if i = d then CS.none else fp i, h.size, h.defers, fun i j hij => ?_, fun i => ?_, fun i y x hx => ?_, h.ltS, fun i => ?_, h.pres, h.s0, fun i y x hx => ?_, h.shr, fun i hi => ?_⟩
  · by_cases e : i = r
    · by_cases e2 : j = d
      · subst e e2; simp only [if_true, if_neg hdr]; exact (CS.none_dj _).symm
      · have hj : j ≠ r := fun hh => hij (e.trans hh.symm)
        simp only [e, if_true, hj, if_false, e2]
        exact (h.dj d j (Ne.symm e2)).mono hF (CS.le.refl _)
    · by_cases e3 : j = r
      · by_cases e2 : i = d
        · subst e3 e2; simp only [if_true, if_neg hdr]; exact CS.none_dj _
        · simp only [e3, if_true, e, if_false, e2]
          exact (h.dj i d e2).mono (CS.le.refl _) hF
      · exact (h.dj i j hij).mono (hle i e) (hle j e3)
  · by_cases e : i = r
    · simp only [e, if_true]; exact (h.djS d).mono hF (CS.le.refl _)
    · exact (h.djS i).mono (hle i e) (CS.le.refl _)
  · by_cases e : i = r
    · simp only [e, if_true] at hx; exact h.lt d y x (hF y x hx)
    · exact h.lt i y x (hle i e y x hx)
  · by_cases e : i = r
    · subst e
      rw [show (st2 i).v = V.agg l by rw [e_r]]
      simp only [if_true]
      rw [hus]
      exact ⟨us, rfl, RL.frame (CS.le.refl _) hA (Agree.refl _ _) _ _ _ _ (CS.le.refl _) (Agree.refl _ _) hml⟩
    · by_cases e2 : i = d
      · subst e2
        rw [show (st2 i).v = V.hole by rw [e_d]]
        trivial
      · show RV w S (AlOk w a st2) (st2 i).v (tm a i) (if i = r then F else if i = d then CS.none else fp i)
        rw [e_o i e e2]
        simp only [e, e2, if_false]
        exact RV.frame (CS.le.refl _) hA (Agree.refl _ _) _ _ _ _ (CS.le.refl _) (Agree.refl _ _) (h.rv i)
  · by_cases e : i = r
    · simp only [e, if_true] at hx; exact h.own d y x (hF y x hx)
    · exact h.own i y x (hle i e y x hx)
  · by_cases e : i = r
    · subst e
      have : (st2 i).ver = (st i).ver := by rw [e_r]
      exact h.keep i (this ▸ hi)
    · by_cases e2 : i = d
      · subst e2
        have : (st2 i).ver = (st i).ver + 1 := by rw [e_d]
        have hi' : (st2 i).ver = 0 := hi
        omega
      · have : (st2 i).ver = (st i).ver := by rw [e_o i e e2]
        exact h.keep i (this ▸ hi)

/-- Names of a box's cells that were true before a call are true after it. -/
def rf1 (r ver hv : Nat) : V → V
  | .al y => if y = ⟨false, r, [(0, (y.path.headD (0, 0)).2)], ver, hv⟩ then .al ⟨false, r, y.path, ver, hv + 1⟩ else .hole
  | c => if c.cp = true then if c.na = true then c else .hole else .hole
def rfC (r ver hv : Nat) (ss : List V) : List V := ss.map (rf1 r ver hv)
theorem rl_rf {r ver hv : Nat} {A A' : AlSem} {w w' : World} {S : CS} (hag : Agree w w' S) (hA : ∀ k u, A ⟨false, r, [(0, k)], ver, hv⟩ u → A' ⟨false, r, [(0, k)], ver, hv + 1⟩ u) :
    ∀ (ss : List V) (us : List Value) (F : CS), RL w S A ss us F → RL w' S A' (rfC r ver hv ss) us CS.none
  | [], us, F, h => h
  | c :: ss, us, F, h => by
    obtain ⟨u, ur, F1, F2, rfl, l1, l2, dj, h1, h2⟩ := h
    refine ⟨u, ur, CS.none, CS.none, rfl, CS.none_le _, CS.none_le _, CS.none_dj _, ?_, rl_rf hag hA ss ur F2 h2⟩
    have hc : ∀ c : V, RV w S A c u F1 → RV w' S A' (if c.cp = true then if c.na = true then c else .hole else .hole) u CS.none := fun c h1 => by
      by_cases e1 : c.cp = true
      · by_cases e2 : c.na = true
        · rw [if_pos e1, if_pos e2]
          exact RV.na (A' := A') _ _ _ e2 (RV.frame (CS.le.refl _) (fun _ _ h => h) hag _ _ _ _ (CS.le.refl _) (fun _ _ h => h.elim) (RV.cp_none _ _ _ e1 h1))
        · rw [if_pos e1, if_neg e2]; trivial
      · rw [if_neg e1]; trivial
    cases c with
    | al y =>
      simp only [rf1]
      by_cases e : y = ⟨false, r, [(0, (y.path.headD (0, 0)).2)], ver, hv⟩
      · rw [if_pos e]
        have h3 : A y u := h1
        have hp : y.path = [(0, (y.path.headD (0, 0)).2)] := congrArg Al.path e
        rw [hp]
        rw [e] at h3
        exact hA _ u h3
      · rw [if_neg e]; trivial
    | _ => exact hc _ h1

theorem setR_box {n : Nat} : ∀ {p : List (Nat × Nat)} {bs cs ys : List V}, (V.box bs).getR n p = some cs → ys.length = n → ∃ bs', (V.box bs).setR p ys = .box bs' ∧ bs'.length = bs.length
  | [], _, _, _, h, _ => by simp [V.getR] at h
  | [(i, k)], bs, cs, ys, h, hy => by
    simp only [V.getR, V.elem] at h
    by_cases hi : i = 0
    · subst hi
      simp only [if_true, Option.bind_some] at h
      by_cases hk : k + n ≤ bs.length
      · refine ⟨bs.take k ++ (ys ++ bs.drop (k + ys.length)), by simp only [V.setR, V.elem, if_true, V.setElem], ?_⟩
        simp [hy]; omega
      · rw [if_neg hk] at h; cases h
    · rw [if_neg hi] at h; cases h
  | (i, k) :: q :: p, bs, cs, ys, h, hy => by
    simp only [V.getR, V.elem] at h
    by_cases hi : i = 0
    · subst hi
      simp only [if_true, Option.bind_some] at h
      cases hc : bs[k]? with
      | none => rw [hc] at h; cases h
      | some c => exact ⟨bs.set k (c.setR (q :: p) ys), by simp only [V.setR, V.elem, if_true, hc, V.setElem], by simp⟩
    · rw [if_neg hi] at h; cases h

theorem ot_call_mas {o : Oper} {d f r s m n : Nat} {g : Bool} {p : List (Nat × Nat)} {c : Call} {fn : Func} {body : Code} {xl1 xl2 : List Operand} {x : Operand} {y : XO} {l1 l2 : List (XO × Nat)} {cs vs as ss bs : List V} {K : St → Prop} {R : V → List V → Prop} (ho : o.op = .call c) (hc : c.callee = .value (.func f)) (hf : P.funcs[f]? = some fn) (hb : fn.body = some body) (hnm : fn.name ≠ "runtime.NumGoroutine")
    (hd : o.dst = some d) (hdN : d < N) (hdr : d ≠ r) (hsr : s ≠ r) (hsd : s ≠ d) (hss : (st s).v = .agg ss) (hbs : (st r).v = .box bs) (ha : c.args.toList = xl1 ++ x :: xl2) (hy1 : CoL xl1 (l1.map (·.1))) (hx : cO m x = some y) (hy2 : CoL xl2 (l2.map (·.1)))
    (hget : (st r).v.getR n p = some cs) (hg : g = false → n = 1) (hvl : vs.length = n) (hvs : st.val y = mkV g vs) (hvc : V.cp.go vs = true) (hinn : innV r p (st r).ver (st r).hv 0 cs vs = some as) (hnc : V.na.go cs = true) {st1 : St} (hst1 : st1 = st.put r .hole)
    (hn1 : V.na.go (l1.map fun y => st1.bv y.2 y.1) = true) (hn2 : V.na.go (l2.map fun y => st1.bv y.2 y.1) = true)
    (hok : Ok P f (l1.map (fun y => st1.bv y.2 y.1) ++ mkV g as :: l2.map (fun y => st1.bv y.2 y.1)) R)
    (hk : ∀ res outs, R res outs → res.noShr = true ∧ ∃ os, outs[l1.length]? = some (mkV g os) ∧ V.noShr.go os = true ∧ os.length = n ∧ K (((st.mod r ((st r).v.setR p (bakV cs os))).put d res).mod s (.agg (rfC r (st r).ver (st r).hv ss)))) : OT P N o st K := by
  intro B a w S fp next Q h hnx
  refine ma_core h ho hc hf hb hnm hd hdN hdr ha hy1 hx hy2 hget hg hvl hvs hvc hinn hnc hst1 hn1 hn2 hok (KO := fun os res => K (((st.mod r ((st r).v.setR p (bakV cs os))).put d res).mod s (.agg (rfC r (st r).ver (st r).hv ss)))) hk (fun os res v w' fp' hk hol hag hrow hr => ?_)
  have hat : (((st.mod r ((st r).v.setR p (bakV cs os))).put d res) s).v = .agg ss := by
    simp [St.put, St.mod, hsd, hsr, hss]
  have her : ((st.mod r ((st r).v.setR p (bakV cs os))).put d res) r = ⟨(st r).v.setR p (bakV cs os), (st r).ver, (st r).hv + 1⟩ := by
    simp [St.put, St.mod, Ne.symm hdr]
  have htr : tm (a.put (some d) v) r = tm a r := by
    rw [tm_put]; simp [Ne.symm hdr]
  have hts : tm (a.put (some d) v) s = tm a s := by
    rw [tm_put]; simp [hsd]
  have hv0 := h.rv s
  rw [hss] at hv0
  obtain ⟨us, hus, hrl⟩ := hv0
  have hvr := h.rv r
  rw [hbs] at hvr
  obtain ⟨b0, o0, ub, hub, hcb, _⟩ := hvr
  rw [hbs] at hget
  obtain ⟨bs', hset, hbl⟩ := setR_box (ys := bakV cs os) hget hol
  refine hnx _ _ _ _ _ hk (hr.modV s (.agg (rfC r (st r).ver (st r).hv ss)) CS.none rfl (by rw [hat]; rfl) ?_ (CS.none_le _))
  rw [hts, hus]
  refine ⟨us, rfl, rl_rf hag (fun k u hA => ?_) ss us _ hrl⟩
  obtain ⟨_, _, g3⟩ := hA
  have h3 := g3 rfl (.inr rfl) ⟨fun hx => by simp [Al.bx] at hx, rfl⟩
  simp only at h3
  rw [hbs, hub] at h3
  obtain ⟨b1, x1, k1, k2, cs1, k3⟩ := h3
  simp only [addr, V.place, ptrOf, Option.map_some, Option.some.injEq, Prod.mk.injEq] at k1
  obtain ⟨rfl, rfl⟩ := k1
  have hkl : k < bs.length := by
    simp only [V.getR, V.elem, if_true, Option.bind_some] at k3
    by_cases e : k + 1 ≤ bs.length
    · omega
    · rw [if_neg e] at k3; cases k3
  refine ⟨by rw [her]; exact Nat.le_refl _, by rw [her]; exact Nat.le_refl _, fun _ _ _ => ?_⟩
  simp only [her, htr]
  rw [hbs, hset, hub]
  refine ⟨b0, o0 + k, by simp [addr, V.place, ptrOf], ?_, ?_⟩
  · rw [hrow bs b0 o0 hbs hub k hkl]; exact k2
  · exact ⟨_, by simp only [V.getR, V.elem, if_true, Option.bind_some]; rw [if_pos (by omega)]⟩
/-- A text's bytes, each in a cell. -/
def byteE (s : ByteArray) : List (List V) := s.data.toList.map fun b => [.lit (.int .u8 (b.toNat : Int))]
theorem rll_byteE {A : AlSem} {G : CS} : ∀ l : List UInt8, RLL w S A (l.map fun b => [V.lit (.int .u8 (b.toNat : Int))]) (l.map fun b => [Value.int .u8 (b.toNat : Int)]) G
  | [] => rfl
  | b :: l => ⟨_, _, CS.none, CS.none, rfl, CS.none_le _, CS.none_le _, CS.none_dj _, ⟨_, [], CS.none, CS.none, rfl, CS.le.refl _, CS.le.refl _, CS.none_dj _, rfl, rfl⟩, rll_byteE l⟩
/-- All that a temporary holds is lent, and nothing else but what is shared: so what comes back may share it. -/
theorem ot_call_mts {o : Oper} {d f q : Nat} {c : Call} {fn : Func} {body : Code} {xl1 xl2 : List Operand} {y1 y2 : List XO} {K : St → Prop} {R : V → List V → Prop} (ho : o.op = .call c) (hc : c.callee = .value (.func f)) (hf : P.funcs[f]? = some fn) (hb : fn.body = some body) (hnm : fn.name ≠ "runtime.NumGoroutine")
    (hd : o.dst = some d) (hdN : d < N) (hdq : d ≠ q) {x : Operand} (hxq : ∀ (B : Base P) (a : Act) (w : World) (S : CS) (fp : Nat → CS), Rl B N st a w S fp → a.eval x = tm a q) (ha : c.args.toList = xl1 ++ x :: xl2) (hy1 : CoL xl1 y1) (hy2 : CoL xl2 y2)
    (hc1 : V.cp.go (y1.map st.val) = true) (hc2 : V.cp.go (y2.map st.val) = true) (hn : V.na.go (y1.map st.val ++ (st q).v :: y2.map st.val) = true)
    (hok : Ok P f (y1.map st.val ++ (st q).v :: y2.map st.val) R)
    (hk : ∀ res outs, R res outs → K ((st.put q .hole).put d res) ∨ ∃ ov, outs[y1.length]? = some ov ∧ ov.plc = (st q).v.plc ∧ K ((st.mod q ov).put d res)) : OT P N o st K := by
  intro B a w S fp next Q h hnx
  have hrl0 := args_rl (h.vals hy1 hc1) (h.rv q) (h.vals hy2 hc2)
  have hrl := RL.na (A' := A0) _ _ _ hn hrl0
  have hcall := hok w S (fp q) _ h.tab (h.djS q) (h.lt q) h.ltS hrl
  unfold Oper.wp
  rw [execOp_call ho hc hf hb hnm]
  show Calls P f (c.args.map a.eval) w _
  have hargs : (xl1.map a.eval ++ tm a q :: xl2.map a.eval).toArray = c.args.map a.eval := by
    apply Array.ext'
    rw [Array.toList_map, ha]
    simp [hxq B a w S fp h]
  rw [hargs] at hcall
  refine hcall.mono fun e w' hl => ?_
  obtain ⟨v, res, outs, S', Fr, Fo, rfl, hR, hSS, d1, d2, d3, hres, houts, hp, hfo, hs'⟩ := hl
  show next (a.put o.dst v) w'
  rw [hd]
  have hfw : ∀ i b x, i ≠ q → ∀ F : CS, (∀ b x, F b x → (fp q b x ∨ fresh w b x) ∧ b < w'.heap.size) → F b x → ¬ fp i b x := fun i b x hi F hF h1 h2 => by
    rcases (hF b x h1).1 with h3 | h3
    · exact h.dj q i (Ne.symm hi) b x h3 h2
    · exact absurd (h.lt i b x h2) (Nat.not_lt.2 h3)
  have hown : ∀ b x, (fp q b x ∨ fresh w b x) → B.O0 b x ∨ fresh B.w0 b x := fun b x h1 => by
    rcases h1 with h1 | h1
    · exact h.own q b x h1
    · exact .inr (Nat.le_trans h.pres.size h1)
  have hS'1 : ∀ b x, S' b x → b < w'.heap.size ∧ (B.S0 b x ∨ B.O0 b x ∨ fresh B.w0 b x) := fun b x hs => ⟨(hs' b x hs).2, by
    rcases (hs' b x hs).1 with h1 | h1 | h1
    · exact h.shr b x h1
    · exact .inr (h.own q b x h1)
    · exact .inr (.inr (Nat.le_trans h.pres.size h1))⟩
  have hS'2 : ∀ i, i ≠ q → (fp i).dj S' := fun i hi b x h1 h2 => by
    rcases (hs' b x h2).1 with h3 | h3 | h3
    · exact h.djS i b x h1 h3
    · exact h.dj q i (Ne.symm hi) b x h3 h1
    · exact absurd (h.lt i b x h1) (Nat.not_lt.2 h3)
  have hO : ∀ b x, fp q b x → (B.O0 b x ∨ fresh B.w0 b x) ∧ (∀ i, i ≠ q → ¬ fp i b x) ∧ ¬ S b x := fun b x hx => ⟨h.own q b x hx, fun i hi hh => h.dj q i (Ne.symm hi) b x hx hh, fun hs => h.djS q b x hx hs⟩
  have any : ∀ {A : AlSem} {v0 : V} {u : Value} {F : CS}, RV w' S' A0 v0 u F → RV w' S' A v0 u F := fun h => RV.frame (CS.le.refl _) (fun _ _ h => h.elim) (Agree.refl _ _) _ _ _ _ (CS.le.refl _) (Agree.refl _ _) h
  have hfr : ∀ b x, Fr b x → (fp q b x ∨ fresh w b x) ∧ b < w'.heap.size := fun b x hx => hfo b x (.inl hx)
  have hfo' : ∀ b x, Fo b x → (fp q b x ∨ fresh w b x) ∧ b < w'.heap.size := fun b x hx => hfo b x (.inr hx)
  rcases hk res outs hR with hkk | ⟨ov, hov, hpl, hkk⟩
  · have h2 : Rl B N (st.put q .hole) a w' S' (fun i => if i = q then CS.none else fp i) := (h.drop q).world hp (fun b x hx => ⟨(hO b x hx).1, fun i hi => by
      by_cases e : i = q
      · simp [e, CS.none] at hi
      · simp only [e, if_false] at hi; exact (hO b x hx).2.1 i e hi, (hO b x hx).2.2⟩) hSS hS'1 (fun i => by
        by_cases e : i = q
        · simp only [e, if_true]; exact CS.none_dj _
        · simp only [e, if_false]; exact hS'2 i e)
    refine hnx _ _ _ _ _ hkk (h2.put d res v Fr hdN (any hres) (fun i hi b x h3 h4 => ?_) d2 (fun b x hx => (hfr b x hx).2) (fun b x hx => hown b x (hfr b x hx).1))
    by_cases e : i = q
    · simp [e, CS.none] at h4
    · simp only [e, if_false] at h4
      exact hfw i b x e Fr hfr h3 h4
  · obtain ⟨u, hu, hov2⟩ := RL.nth houts hov
    have hu2 : u = tm a q := by
      have hl1 : (xl1.map a.eval).length = y1.length := by rw [List.length_map, coL_len hy1]
      rw [← hl1, List.getElem?_append_right (Nat.le_refl _)] at hu
      simpa using hu.symm
    subst hu2
    have h2 := h.mod q ov (w' := w') (S' := S') Fo hp hO hSS hS'1 hS'2 (fun u i => plc_place hpl u i) (fun _ => any hov2) (fun i hi b x h3 h4 => hfw i b x hi Fo hfo' h3 h4) d3 (fun b x hx => (hfo' b x hx).2) (fun b x hx => hown b x (hfo' b x hx).1)
    refine hnx _ _ _ _ _ hkk (h2.put d res v Fr hdN (any hres) (fun i hi b x h3 h4 => ?_) d2 (fun b x hx => (hfr b x hx).2) (fun b x hx => hown b x (hfr b x hx).1))
    by_cases e : i = q
    · simp only [e, if_true] at h4; exact d1 b x h3 h4
    · simp only [e, if_false] at h4; exact hfw i b x e Fr hfr h3 h4
theorem Rl.frzAt (h : Rl B N st a w S fp) (r : Nat) (hrN : r < N) : ∃ S' fp', Rl B N ((st.put r .hole).put r (st r).v.frz) a w S' fp' := by
  have hfz := RV.frz _ _ _ (h.rv r)
  have h0 := h.drop r
  have hS : Rl B N (st.put r .hole) a w (S.un (fp r)) (fun i => if i = r then CS.none else fp i) := by
    refine h0.world (Pres.refl CS.none w) (fun _ _ h => h.elim) (CS.le_un_l _ _) (fun b x hs => ?_) (fun i => ?_)
    · rcases hs with hs | hs
      · exact ⟨h.ltS b x hs, h.shr b x hs⟩
      · exact ⟨h.lt r _ _ hs, .inr (h.own r _ _ hs)⟩
    · by_cases e : i = r
      · simp only [e, if_true]; exact CS.none_dj _
      · simp only [e, if_false]
        intro b x h1 h2
        rcases h2 with h2 | h2
        · exact h.djS i _ _ h1 h2
        · exact h.dj i r e _ _ h1 h2
  have hA : ∀ x u, AlOk w a st x u → AlOk w a (st.put r .hole) x u := fun x u h => AlOk.drop r h
  have hv := RV.frame (CS.le.refl _) hA (Agree.refl _ _) _ _ _ _ (CS.le.refl _) (Agree.refl _ _) hfz
  have h2 := hS.put_cp r (st r).v.frz (tm a r) CS.none hrN hv (frz_cp _)
  have htm : a.put (some r) (tm a r) = a := by
    cases a with
    | mk tmps defers =>
      simp only [Act.put, tm, Act.mk.injEq, and_true]
      have hs : r < tmps.size := by have := h.size; simp only at this; omega
      apply Array.ext (by simp)
      intro i h1 h2
      rw [Array.getElem_setIfInBounds (by simpa using h2)]
      split
      · rename_i e; subst e; simp [Array.getD, hs]
      · rfl
  rw [htm] at h2
  exact ⟨_, _, h2⟩
theorem ot_bldZ {o : Oper} {d T k : Nat} {parts : Array (Nat × Operand)} {ps : List Prt} {e : TypeId} {zs : List V} {st' : St} {acc : List V} {K : St → Prop} (ho : o.op = .buildSlice T k parts) (hd : o.dst = some d) (hdN : d < N)
    (hT : P.underlying T = some (.slice e)) (hz : zsOf P e = some zs) (hn0 : 0 < zs.length) (hk24 : k * zs.length ≤ 2 ^ 24) (hps : PrtOk (fun i => some (i * zs.length, zs.length)) parts.toList ps)
    (hb : bldF ps st (List.replicate k zs).flatten = some (st', acc)) (hk : K (((st'.put d (.sl true zs.length (chunk zs.length k acc))).put d .hole).put d (V.sl true zs.length (chunk zs.length k acc)).frz)) : OT P N o st K :=
  fun B a w S fp next Q h hnx => ot_bldS (K := fun s => s = st'.put d (.sl true zs.length (chunk zs.length k acc))) ho hd hdN hT hz hn0 hk24 hps hb rfl B a w S fp next Q h (fun s a' w' S' fp' hs hr => by
    subst hs
    obtain ⟨S2, fp2, h2⟩ := hr.frzAt d hdN
    have e1 : ((st'.put d (.sl true zs.length (chunk zs.length k acc))) d).v = .sl true zs.length (chunk zs.length k acc) := by simp [St.put]
    rw [e1] at h2
    exact hnx _ _ _ _ _ hk h2)
/-- The slice that a temporary names, in a place of another one's: where, what is left there, and the slice. -/
def St.umod (st : St) (r : Nat) (b : Bool) (v : V) : St := if b then st.put r v else st.tk r v
def St.clm (st : St) (q : Nat) : Option (Nat × Bool × V × V) :=
  match (st q).v with
  | .al y => if !y.ptr && st.good y then if y.root ≠ q then match y.path with
    | [] => match (st y.root).v with
      | .sl true n es => some (y.root, true, .hole, .sl true n es)
      | _ => none
    | i :: p => match (st y.root).v.getR 1 (i :: p) with
      | some [.sl true n es] => some (y.root, false, (st y.root).v.setR (i :: p) [.hole], .sl true n es)
      | _ => none
    else none else none
  | _ => none
theorem put_self (a : Act) (q : Nat) (hq : q < a.tmps.size) : a.put (some q) (tm a q) = a := by
  obtain ⟨ts, ds⟩ := a
  simp only [Act.put, tm, Act.mk.injEq, and_true]
  apply Array.ext_getElem?
  intro i
  by_cases h : q = i
  · subst h
    simp only at hq
    rw [Array.getElem?_setIfInBounds_self_of_lt hq, Array.getElem?_eq_getElem hq]
    simp [Array.getD, hq]
  · rw [Array.getElem?_setIfInBounds_ne h]
theorem Rl.claim (h : Rl B N st a w S fp) {q r : Nat} {b : Bool} {v' c : V} (hq : q < N) (hc : st.clm q = some (r, b, v', c)) : ∃ fp', Rl B N ((st.umod r b v').put q c) a w S fp' := by
  unfold St.clm at hc
  split at hc <;> try (cases hc; done)
  rename_i y hy
  split at hc <;> try (cases hc; done)
  rename_i hg
  split at hc <;> try (cases hc; done)
  rename_i hrq
  simp only [Bool.and_eq_true, Bool.not_eq_true', St.good, decide_eq_true_eq, Bool.or_eq_true] at hg
  have hal := h.rv q
  rw [hy] at hal
  have hloc := hal.2.2 hg.2.1 hg.2.2.1 (good_bx hg.2.2.2)
  split at hc
  · rename_i hp
    split at hc <;> try (cases hc; done)
    rename_i n es hr
    simp only [Option.some.injEq, Prod.mk.injEq] at hc
    obtain ⟨rfl, rfl, rfl, rfl⟩ := hc
    rw [Al.pth_f hg.1, hg.1, hp] at hloc
    have hu : tm a q = tm a y.root := hloc
    have h1 := h.drop y.root
    have hv := h.rv y.root
    rw [hr] at hv
    have hvq := RV.frame (CS.le.refl _) (fun x u hx => AlOk.drop y.root hx) (Agree.refl _ _) _ _ _ _ (CS.le.refl _) (Agree.refl _ _) hv
    rw [← hu] at hvq
    have hput := h1.put q (.sl true n es) _ (fp y.root) hq hvq (fun j hj => ?_) (h.djS y.root) (fun b x hx => h.lt y.root _ _ hx) (fun b x hx => h.own y.root _ _ hx)
    · rw [put_self a q (by rw [h.size]; exact hq)] at hput
      exact ⟨_, hput⟩
    · by_cases e : j = y.root
      · simp only [e, if_true]; exact (CS.none_dj _).symm
      · simp only [e, if_false]; exact h.dj y.root j (Ne.symm e)
  rename_i i p hp
  split at hc <;> try (cases hc; done)
  rename_i n es hget
  simp only [Option.some.injEq, Prod.mk.injEq] at hc
  obtain ⟨rfl, rfl, rfl, rfl⟩ := hc
  rw [Al.pth_f hg.1, hg.1, hp] at hloc
  obtain ⟨b, x, ha, hcell, _⟩ := hloc
  obtain ⟨F, us, b', x', ha', hcs, hul, hle, hrl, fr, hfr, hfd, hrl'⟩ := h.take (cs' := [V.hole]) hget (hol_one _) (fun w S A us F h => by
    obtain ⟨u, ur, F1, F2, rfl, l1, l2, d, hv, hr⟩ := h
    exact ⟨u, ur, CS.none, CS.none, rfl, CS.none_le _, CS.none_le _, CS.none_dj _, trivial, by simpa [RL] using hr⟩)
  rw [ha] at ha'
  obtain ⟨rfl, rfl⟩ : b = b' ∧ x = x' := by simpa using ha'
  obtain ⟨u, ur, F1, F2, rfl, l1, l2, d, hv, hr⟩ := hrl
  have h0 := hcs 0 (by omega)
  simp only [Nat.add_zero, List.getElem?_cons_zero] at h0
  rw [hcell] at h0
  have hu := Option.some.inj h0
  have hvq := RV.frame (CS.le.refl _) (fun x u hx => AlOk.tk hget (hol_one _) hx) (Agree.refl _ _) _ _ _ _ (CS.le.refl _) (Agree.refl _ _) hv
  rw [← hu] at hvq
  have hput := hrl'.put q (.sl true n es) _ F1 hq hvq (fun j hj => ?_) ((h.djS y.root).mono (l1.trans hle) (CS.le.refl _)) (fun b x hx => h.lt y.root _ _ (hle _ _ (l1 _ _ hx))) (fun b x hx => h.own y.root _ _ (hle _ _ (l1 _ _ hx)))
  · rw [put_self a q (by rw [h.size]; exact hq)] at hput
    exact ⟨_, hput⟩
  · by_cases e : j = y.root
    · simp only [e, if_true]; exact (hfd.symm).mono l1 (CS.le.refl _)
    · simp only [e, if_false]; exact (h.dj y.root j (Ne.symm e)).mono (l1.trans hle) (CS.le.refl _)
theorem ot_frz {o : Oper} {q : Nat} {K : St → Prop} (hq : q < N) (h : OT P N o ((st.put q .hole).put q (st q).v.frz) K) : OT P N o st K := fun B a w S fp next Q hr hnx => by
  obtain ⟨S', fp', hr'⟩ := hr.frzAt q hq
  exact h B a w S' fp' next Q hr' hnx
theorem ot_claim {o : Oper} {q r : Nat} {b : Bool} {v' c : V} {K : St → Prop} (hq : q < N) (hc : st.clm q = some (r, b, v', c)) (h : OT P N o ((st.umod r b v').put q c) K) : OT P N o st K := fun B a w S fp next Q hr hnx => by
  obtain ⟨fp', hr'⟩ := hr.claim hq hc
  exact h B a w S fp' next Q hr' hnx
/-- The same of a variable. -/
theorem ot_boxZ {o : Oper} {d n T : Nat} {x : Operand} {y : XO} {cs : List V} {K : St → Prop} (ho : o.op = .box T x) (hd : o.dst = some d) (hdN : d < N) (hx : cO n x = some y)
    (hc : (st.val y).cp = true) (hcs : (st.val y).cells = some cs) (hk : K (((st.put d (.box cs)).put d .hole).put d (V.box cs).frz)) : OT P N o st K :=
  fun B a w S fp next Q h hnx => ot_box_cp (K := fun s => s = st.put d (.box cs)) ho hd hdN hx hc hcs rfl B a w S fp next Q h (fun s a' w' S' fp' hs hr => by
    subst hs
    obtain ⟨S2, fp2, h2⟩ := hr.frzAt d hdN
    have e1 : ((st.put d (.box cs)) d).v = .box cs := by simp [St.put]
    rw [e1] at h2
    exact hnx _ _ _ _ _ hk h2)
end
end Go.Proofs.YtainknkfjekngaaDoor.Vm
