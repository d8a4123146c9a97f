/- Ways to a place inside a value, and what becomes of the value when the place is written. -/
import Derived.Test.YtainknkfjekngaaDoorVm0
namespace Go.Proofs.YtainknkfjekngaaDoor.Vm
open Go
set_option linter.unusedVariables false
set_option linter.unusedSimpArgs false

section
variable {w : World} {S : CS} {A : AlSem}

theorem RL.length : ∀ {vs : List V} {us : List Value} {F : CS}, RL w S A vs us F → us.length = vs.length
  | [], _, _, h => by simp [RL] at h; simp [h]
  | v :: vs, us, F, h => by
    obtain ⟨u, ur, F1, F2, rfl, l1, l2, d, hv, hr⟩ := h
    simp [RL.length hr]

theorem RLL.length : ∀ {es : List (List V)} {us : List (List Value)} {F : CS}, RLL w S A es us F → us.length = es.length
  | [], _, _, h => by simp [RLL] at h; simp [h]
  | v :: vs, us, F, h => by
    obtain ⟨u, ur, F1, F2, rfl, l1, l2, d, hv, hr⟩ := h
    simp [RLL.length hr]

theorem RL.append : ∀ {as : List V} {ua ub : List Value} {bs : List V} {Fa Fb F : CS}, Fa.le F → Fb.le F → Fa.dj Fb → RL w S A as ua Fa → RL w S A bs ub Fb → RL w S A (as ++ bs) (ua ++ ub) F
  | [], ua, ub, bs, Fa, Fb, F, la, lb, d, ha, hb => by
    simp [RL] at ha; subst ha
    exact hb.mono lb
  | v :: vs, ua, ub, bs, Fa, Fb, F, la, lb, d, ha, hb => by
    obtain ⟨u, ur, F1, F2, rfl, l1, l2, d', hv, hr⟩ := ha
    refine ⟨u, ur ++ ub, F1, F2.un Fb, rfl, l1.trans la, CS.un_le (l2.trans la) lb, ?_, hv, RL.append (CS.le_un_l _ _) (CS.le_un_r _ _) (d.mono l2 (CS.le.refl _)) hr hb⟩
    intro b o h1 h2
    rcases h2 with h2 | h2
    · exact d' b o h1 h2
    · exact d b o (l1 b o h1) h2

theorem RL.split : ∀ {as bs : List V} {us : List Value} {F : CS}, RL w S A (as ++ bs) us F →
    ∃ ua ub Fa Fb, us = ua ++ ub ∧ Fa.le F ∧ Fb.le F ∧ Fa.dj Fb ∧ RL w S A as ua Fa ∧ RL w S A bs ub Fb
  | [], bs, us, F, h => ⟨[], us, CS.none, F, rfl, CS.none_le _, CS.le.refl _, CS.none_dj _, rfl, h⟩
  | v :: vs, bs, us, F, h => by
    obtain ⟨u, ur, F1, F2, rfl, l1, l2, d, hv, hr⟩ := h
    obtain ⟨ua, ub, Fa, Fb, rfl, la, lb, d', ha, hb⟩ := RL.split hr
    refine ⟨u :: ua, ub, F1.un Fa, Fb, rfl, CS.un_le l1 (la.trans l2), lb.trans l2, ?_, ⟨u, ua, F1, Fa, rfl, CS.le_un_l _ _, CS.le_un_r _ _, d.mono (CS.le.refl _) la, hv, ha⟩, hb⟩
    intro b o h1 h2
    rcases h1 with h1 | h1
    · exact d b o h1 (lb b o h2)
    · exact d' b o h1 h2

theorem RLL.append : ∀ {as : List (List V)} {ua ub : List (List Value)} {bs : List (List V)} {Fa Fb F : CS}, Fa.le F → Fb.le F → Fa.dj Fb → RLL w S A as ua Fa → RLL w S A bs ub Fb → RLL w S A (as ++ bs) (ua ++ ub) F
  | [], ua, ub, bs, Fa, Fb, F, la, lb, d, ha, hb => by
    simp [RLL] at ha; subst ha
    exact hb.mono lb
  | v :: vs, ua, ub, bs, Fa, Fb, F, la, lb, d, ha, hb => by
    obtain ⟨u, ur, F1, F2, rfl, l1, l2, d', hv, hr⟩ := ha
    refine ⟨u, ur ++ ub, F1, F2.un Fb, rfl, l1.trans la, CS.un_le (l2.trans la) lb, ?_, hv, RLL.append (CS.le_un_l _ _) (CS.le_un_r _ _) (d.mono l2 (CS.le.refl _)) hr hb⟩
    intro b o h1 h2
    rcases h2 with h2 | h2
    · exact d' b o h1 h2
    · exact d b o (l1 b o h1) h2

theorem RLL.split : ∀ {as bs : List (List V)} {us : List (List Value)} {F : CS}, RLL w S A (as ++ bs) us F →
    ∃ ua ub Fa Fb, us = ua ++ ub ∧ Fa.le F ∧ Fb.le F ∧ Fa.dj Fb ∧ RLL w S A as ua Fa ∧ RLL w S A bs ub Fb
  | [], bs, us, F, h => ⟨[], us, CS.none, F, rfl, CS.none_le _, CS.le.refl _, CS.none_dj _, rfl, h⟩
  | v :: vs, bs, us, F, h => by
    obtain ⟨u, ur, F1, F2, rfl, l1, l2, d, hv, hr⟩ := h
    obtain ⟨ua, ub, Fa, Fb, rfl, la, lb, d', ha, hb⟩ := RLL.split hr
    refine ⟨u :: ua, ub, F1.un Fa, Fb, rfl, CS.un_le l1 (la.trans l2), lb.trans l2, ?_, ⟨u, ua, F1, Fa, rfl, CS.le_un_l _ _, CS.le_un_r _ _, d.mono (CS.le.refl _) la, hv, ha⟩, hb⟩
    intro b o h1 h2
    rcases h1 with h1 | h1
    · exact d b o h1 (lb b o h2)
    · exact d' b o h1 h2
end

theorem list_three {α : Type} (l : List α) (k n : Nat) (h : k + n ≤ l.length) : l = l.take k ++ ((l.drop k).take n ++ l.drop (k + n)) := by
  rw [show l.drop (k + n) = (l.drop k).drop n by rw [List.drop_drop], List.take_append_drop, List.take_append_drop]
theorem list_one {α : Type} (l : List α) (i : Nat) (x : α) (h : l[i]? = some x) : l = l.take i ++ (x :: l.drop (i + 1)) := by
  obtain ⟨hi, rfl⟩ := List.getElem?_eq_some_iff.1 h
  simp

/-- The parts of an element that is owned. -/
def V.elem : V → Nat → Option (List V)
  | .box cs, i => if i = 0 then some cs else none
  | .sl own n es, i => if own then es[i]? else none
  | _, _ => none
def V.setElem : V → Nat → List V → V
  | .box cs, _, x => .box x
  | .sl own n es, i, x => .sl own n (es.set i x)
  | v, _, _ => v

def V.getR (n : Nat) : V → List (Nat × Nat) → Option (List V)
  | v, [] => none
  | v, [(i, k)] => (v.elem i).bind fun cs => if k + n ≤ cs.length then some ((cs.drop k).take n) else none
  | v, (i, k) :: q :: p => (v.elem i).bind fun cs => (cs[k]?).bind fun c => c.getR n (q :: p)

def V.setR : V → List (Nat × Nat) → List V → V
  | v, [], _ => v
  | v, [(i, k)], xs => match v.elem i with
    | some cs => v.setElem i (cs.take k ++ (xs ++ cs.drop (k + xs.length)))
    | none => v
  | v, (i, k) :: q :: p, xs => match v.elem i with
    | some cs => match cs[k]? with
      | some c => v.setElem i (cs.set k (c.setR (q :: p) xs))
      | none => v
    | none => v

/-- Where the cells of an element lie. -/
def ptrOf : Value → Option (Nat × Nat)
  | .pointer (some ⟨b, o, none⟩) => some (b, o)
  | _ => none
def hdrOf : Value → Option (Nat × Nat)
  | .slice (some ⟨b, o, none⟩) _ _ => some (b, o)
  | _ => none
def V.place : V → Value → Nat → Option (Nat × Nat)
  | .box _, u, _ => ptrOf u
  | .sl _ n _, u, i => (hdrOf u).map fun (b, o) => (b, o + i * n)
  | _, _, _ => none

def addr (w : World) : V → Value → List (Nat × Nat) → Option (Nat × Nat)
  | v, u, [] => none
  | v, u, [(i, k)] => (v.place u i).map fun (b, o) => (b, o + k)
  | v, u, (i, k) :: q :: p => (v.elem i).bind fun cs => (cs[k]?).bind fun c => (v.place u i).bind fun (b, o) => (w.cell? ⟨b, o + k, none⟩).bind fun u' => addr w c u' (q :: p)

/-- What is said of a stretch of cells that is looked at alone. -/
structure Focus (w : World) (S : CS) (A : AlSem) (v : V) (u : Value) (F : CS) (cs : List V) (b x : Nat) (us : List Value) (F1 : CS) (put : List V → V) : Prop where
  cells : ∀ j, j < cs.length → F b (x + j) ∧ w.cell? ⟨b, x + j, none⟩ = us[j]? ∧ w.frozen? ⟨b, x + j, none⟩ = false
  rl : RL w S A cs us F1
  le : F1.le F
  out : F1.dj (CS.row b x cs.length)
  back : ∀ (w' : World) (S' : CS) (A' : AlSem) (cs' : List V) (us' : List Value) (F1' : CS), S.le S' → (∀ x u, A x u → A' x u) → Agree w w' S →
    Agree w w' (F.minus (F1.un (CS.row b x cs.length))) → cs'.length = cs.length →
    (∀ j, j < cs.length → w'.cell? ⟨b, x + j, none⟩ = us'[j]? ∧ w'.frozen? ⟨b, x + j, none⟩ = false) → (cs.length ≠ 0 → PlB w b → PlB w' b) →
    RL w' S' A' cs' us' F1' → F1'.dj (F.minus F1) → RV w' S' A' (put cs') u ((F.minus F1).un F1')

theorem setElem_box (cs x : List V) : (V.box cs).setElem 0 x = .box x := rfl

/-- One element's cells. -/
theorem focus_elem {w : World} {S : CS} {A : AlSem} {v : V} {u : Value} {F : CS} {i : Nat} {cs : List V} (h : RV w S A v u F) (he : v.elem i = some cs) :
    ∃ b x us F1, v.place u i = some (b, x) ∧ Focus w S A v u F cs b x us F1 (v.setElem i) := by
  cases v with
  | box cs0 =>
    simp only [V.elem] at he
    split at he
    · rename_i hi; subst hi
      obtain rfl := Option.some.inj he
      obtain ⟨b, o, us, rfl, hc, hr⟩ := h
      refine ⟨b, o, us, _, rfl, hc, hr, CS.minus_le _ _, CS.minus_dj _ _, ?_⟩
      intro w' S' A' cs' us' F1' hS hA hwS hw hl hc' hpl hr' hdj
      refine ⟨b, o, us', rfl, fun k hk => ?_, ?_⟩
      · rw [hl] at hk
        exact ⟨.inl ⟨(hc k hk).1, fun hh => hh.2 ⟨rfl, by omega, by omega⟩⟩, (hc' k hk).1, (hc' k hk).2⟩
      · rw [hl]
        refine hr'.mono (fun b' x' hx => ⟨.inr hx, fun hrow => ?_⟩)
        obtain ⟨rfl, h1, h2⟩ := hrow
        have := (hc (x' - o) (by omega)).1
        rw [show o + (x' - o) = x' by omega] at this
        exact hdj _ _ hx ⟨this, fun hh => hh.2 ⟨rfl, by omega, by omega⟩⟩
    · cases he
  | lit _ => simp [V.elem] at he
  | hole => simp [V.elem] at he
  | agg _ => simp [V.elem] at he
  | tup _ => simp [V.elem] at he
  | rp _ => simp [V.elem] at he
  | al _ => simp [V.elem] at he
  | bld _ _ _ => simp [V.elem] at he
  | fn _ _ => simp [V.elem] at he
  | tl _ _ => simp [V.elem] at he
  | sl own n es =>
    simp only [V.elem] at he
    split at he
    · rename_i hown; subst hown
      obtain ⟨a, cap, rfl, hcap, h⟩ := h
      rcases h with ⟨rfl, h⟩ | ⟨rfl, rfl, h⟩ | ⟨b, o, uss, rfl, hl, hc, hO, hN, h⟩
      · cases h
      · simp at he
      · have hi : i < es.length := (List.getElem?_eq_some_iff.1 he).1
        have hes := list_one es i cs he
        have hlen := hl cs (List.mem_of_getElem? he)
        rw [hes] at h
        obtain ⟨ua, ub, Fa, Fb, rfl, la, lb, dab, ha, hb⟩ := RLL.split h
        obtain ⟨us, ur, F1, F2, rfl, l1, l2, d12, hcs, hr⟩ := hb
        have hua : ua.length = i := by rw [RLL.length ha]; simp; omega
        have huss : (ua ++ us :: ur)[i]? = some us := by rw [List.getElem?_append_right (by omega)]; simp [hua]
        have hin : i * n + n ≤ cap * n := by
          have := Nat.mul_le_mul_right n (show i + 1 ≤ cap by omega)
          rw [Nat.add_mul] at this; omega
        simp only [if_true] at la lb
        refine ⟨b, o + i * n, us, F1, rfl, ?_, hcs, (l1.trans lb).trans (CS.minus_le _ _), ?_, ?_⟩
        · intro j hj
          rw [hlen] at hj
          obtain ⟨h1, h2, h3⟩ := hO rfl (i * n + j) (by omega)
          have h4 := hc i j hi hj
          rw [huss] at h4
          rw [Nat.add_assoc]
          exact ⟨h1, h4, h3.frz _⟩
        · intro b' x' h1 h2
          obtain ⟨rfl, h3, h4⟩ := h2
          exact (lb _ _ (l1 _ _ h1)).2 ⟨rfl, by omega, by rw [hlen] at h4; omega⟩
        · intro w' S' A' cs' us' F1' hS hA hwS hw hl' hc' hpl hr' hdj
          have hbig : ∀ x, x < cap * n → (F.minus F1) b (o + x) := fun x hx => ⟨(hO rfl x hx).1, fun hh => (lb _ _ (l1 _ _ hh)).2 ⟨rfl, by omega, by omega⟩⟩
          have hF1G : (F1'.le (((F.minus F1).un F1').minus (CS.row b o (cap * n)))) := by
            intro b' x' hx
            refine ⟨.inr hx, fun hrow => ?_⟩
            obtain ⟨rfl, h1, h2⟩ := hrow
            have := hbig (x' - o) (by omega)
            rw [show o + (x' - o) = x' by omega] at this
            exact hdj _ _ hx this
          have hagA : Agree w w' Fa := hw.mono (fun b' x' hx => ⟨(la _ _ hx).1, fun hh => by
            rcases hh with hh | hh
            · exact dab _ _ hx (l1 _ _ hh)
            · obtain ⟨rfl, h3, h4⟩ := hh
              exact (la _ _ hx).2 ⟨rfl, by omega, by rw [hlen] at h4; omega⟩⟩)
          have hagB : Agree w w' F2 := hw.mono (fun b' x' hx => ⟨(lb _ _ (l2 _ _ hx)).1, fun hh => by
            rcases hh with hh | hh
            · exact d12 _ _ hh hx
            · obtain ⟨rfl, h3, h4⟩ := hh
              exact (lb _ _ (l2 _ _ hx)).2 ⟨rfl, by omega, by rw [hlen] at h4; omega⟩⟩)
          have hset : es.set i cs' = es.take i ++ (cs' :: es.drop (i + 1)) := by
            rw [List.set_eq_take_append_cons_drop, if_pos hi]
          refine ⟨some ⟨b, o, none⟩, cap, by simp, by simpa using hcap, .inr (.inr ⟨b, o, ua ++ us' :: ur, rfl, ?_, ?_, ?_, (by intro h; cases h), ?_⟩)⟩
          · intro e hm
            rcases List.mem_or_eq_of_mem_set hm with hm | rfl
            · exact hl e hm
            · exact hl'.trans hlen
          · intro i' k hi' hk
            rw [List.length_set] at hi'
            by_cases hii : i' = i
            · subst hii
              have := (hc' k (by omega)).1
              rw [Nat.add_assoc] at this
              rw [this, List.getElem?_append_right (by omega)]
              simp [hua]
            · have hold := hc i' k hi' hk
              have hx : (ua ++ us' :: ur)[i']? = (ua ++ us :: ur)[i']? := by
                by_cases hlt : i' < i
                · rw [List.getElem?_append_left (by omega), List.getElem?_append_left (by omega)]
                · rw [List.getElem?_append_right (by omega), List.getElem?_append_right (by omega)]
                  rw [show i' - ua.length = (i' - i - 1) + 1 by omega]
                  simp
              rw [hx, ← hold]
              have hin' : i' * n + n ≤ cap * n := by
                have := Nat.mul_le_mul_right n (show i' + 1 ≤ cap by omega)
                rw [Nat.add_mul] at this; omega
              have hne : i' * n + k < i * n ∨ i * n + n ≤ i' * n + k := by
                rcases Nat.lt_or_gt_of_ne hii with hlt | hgt
                · left
                  have := Nat.mul_le_mul_right n (show i' + 1 ≤ i by omega)
                  rw [Nat.add_mul] at this; omega
                · right
                  have := Nat.mul_le_mul_right n (show i + 1 ≤ i' by omega)
                  rw [Nat.add_mul] at this; omega
              refine (hw b (o + (i' * n + k)) ⟨(hO rfl _ (by omega)).1, fun hh => ?_⟩).1
              rcases hh with hh | ⟨_, h3, h4⟩
              · exact (lb _ _ (l1 _ _ hh)).2 ⟨rfl, by omega, by omega⟩
              · rw [hlen] at h4; omega
          · intro _ x hx
            obtain ⟨h1, h2, h3⟩ := hO rfl x hx
            refine ⟨.inl (hbig x hx), ?_⟩
            by_cases hr0 : i * n ≤ x ∧ x < i * n + n
            · obtain ⟨h4, h5⟩ := hc' (x - i * n) (by omega)
              rw [show o + i * n + (x - i * n) = o + x by omega] at h4 h5
              have hul := RL.length hr'
              refine ⟨?_, hpl (by omega) h3⟩
              rw [h4, List.getElem?_eq_getElem (by omega)]; rfl
            · obtain ⟨e1, e2, _⟩ := hw b (o + x) ⟨h1, fun hh => by
                rcases hh with hh | ⟨_, h6, h7⟩
                · exact (lb _ _ (l1 _ _ hh)).2 ⟨rfl, by omega, by omega⟩
                · rw [hlen] at h7; omega⟩
              rw [e1]; exact ⟨h2, e2.2 h3⟩
          · rw [hset]
            simp only [if_true]
            have hA' := RLL.frame hS hA hwS _ _ Fa Fa (CS.le.refl _) hagA ha
            have hB' := RLL.frame hS hA hwS _ _ F2 F2 (CS.le.refl _) hagB hr
            have hFa : ∀ b' x', Fa b' x' → (F.minus F1) b' x' := fun b' x' hx => ⟨(la _ _ hx).1, fun hh => dab _ _ hx (l1 _ _ hh)⟩
            have hF2 : ∀ b' x', F2 b' x' → (F.minus F1) b' x' := fun b' x' hx => ⟨(lb _ _ (l2 _ _ hx)).1, fun hh => d12 _ _ hh hx⟩
            refine RLL.append (Fa := Fa) (Fb := F1'.un F2) (fun b' x' hx => ⟨.inl (hFa _ _ hx), (la _ _ hx).2⟩) (CS.un_le hF1G (fun b' x' hx => ⟨.inl (hF2 _ _ hx), (lb _ _ (l2 _ _ hx)).2⟩)) ?_ hA' ⟨us', ur, F1', F2, rfl, CS.le_un_l _ _, CS.le_un_r _ _, ?_, hr', hB'⟩
            · intro b' x' h1 h2
              rcases h2 with h2 | h2
              · exact hdj _ _ h2 (hFa _ _ h1)
              · exact dab _ _ h1 (l2 _ _ h2)
            · intro b' x' h1 h2
              exact hdj _ _ h1 (hF2 _ _ h2)
    · cases he

theorem Focus.subLe {w : World} {S : CS} {A : AlSem} {v : V} {u : Value} {F : CS} {cs : List V} {b x : Nat} {us : List Value} {F1 : CS} {put : List V → V}
    (h : Focus w S A v u F cs b x us F1 put) (k n : Nat) (hk : k + n ≤ cs.length) :
    ∃ us' F1', Focus w S A v u F ((cs.drop k).take n) b (x + k) us' F1' (fun ys => put (cs.take k ++ (ys ++ cs.drop (k + n)))) ∧ F1'.le F1 := by
  have hrl := h.rl
  rw [list_three cs k n hk] at hrl
  obtain ⟨ua, ub, Fa, Fb, hus, la, lb, dab, ha, hb⟩ := RL.split hrl
  obtain ⟨um, ur, Fm, Fr, rfl, lm, lr, dmr, hm, hr⟩ := RL.split hb
  have hla : ua.length = k := by rw [RL.length ha, List.length_take]; omega
  have hlm : um.length = n := by rw [RL.length hm, List.length_take, List.length_drop]; omega
  have hlen : ((cs.drop k).take n).length = n := by rw [List.length_take, List.length_drop]; omega
  refine ⟨um, Fm, ⟨?_, hm, (lm.trans lb).trans h.le, ?_, ?_⟩, lm.trans lb⟩
  · intro j hj
    rw [hlen] at hj
    obtain ⟨h1, h2, h3⟩ := h.cells (k + j) (by omega)
    rw [← Nat.add_assoc] at h1 h2 h3
    refine ⟨h1, ?_, h3⟩
    rw [h2, hus, List.getElem?_append_right (by omega), List.getElem?_append_left (by omega)]
    congr 1; omega
  · intro b' x' h1 h2
    obtain ⟨rfl, h3, h4⟩ := h2
    rw [hlen] at h4
    exact h.out _ _ (lb _ _ (lm _ _ h1)) ⟨rfl, by omega, by omega⟩
  · intro w' S' A' cs' us' F1' hS hA hwS hw hl hc' hpl hr' hdj
    rw [hlen] at hl hc' hw
    have hagA : Agree w w' Fa := hw.mono (fun b' x' hx => ⟨h.le _ _ (la _ _ hx), fun hh => by
      rcases hh with hh | ⟨rfl, h3, h4⟩
      · exact dab _ _ hx (lm _ _ hh)
      · exact h.out _ _ (la _ _ hx) ⟨rfl, by omega, by omega⟩⟩)
    have hagR : Agree w w' Fr := hw.mono (fun b' x' hx => ⟨h.le _ _ (lb _ _ (lr _ _ hx)), fun hh => by
      rcases hh with hh | ⟨rfl, h3, h4⟩
      · exact dmr _ _ hh hx
      · exact h.out _ _ (lb _ _ (lr _ _ hx)) ⟨rfl, by omega, by omega⟩⟩)
    have hlus' := RL.length hr'
    have hpl1 : cs.length ≠ 0 → PlB w b → PlB w' b := fun h0 => by
      by_cases hn0 : n = 0
      · obtain ⟨g1, g2, g3⟩ := h.cells 0 (by omega)
        exact (hw b (x + 0) ⟨g1, fun hh => by
          rcases hh with hh | ⟨_, h5, h6⟩
          · exact h.out _ _ (lb _ _ (lm _ _ hh)) ⟨rfl, by omega, by omega⟩
          · simp at h6; omega⟩).2.1.2
      · exact hpl (by simp; omega)
    have hb := h.back w' S' A' (cs.take k ++ (cs' ++ cs.drop (k + n))) (ua ++ (us' ++ ur)) ((F1.minus Fm).un F1') hS hA hwS (hw.mono (fun b' x' hx => ⟨hx.1, fun hh => hx.2 ?_⟩)) (by simp [hl]; omega) ?_ hpl1 ?_ ?_
    · refine hb.mono (fun b' x' hx => ?_)
      rcases hx with hx | hx | hx
      · exact .inl ⟨hx.1, fun hh => hx.2 (lb _ _ (lm _ _ hh))⟩
      · exact .inl ⟨h.le _ _ hx.1, hx.2⟩
      · exact .inr hx
    · rcases hh with hh | ⟨rfl, h3, h4⟩
      · exact .inl (lb _ _ (lm _ _ hh))
      · exact .inr ⟨rfl, by omega, by omega⟩
    · intro j hj
      by_cases hin : k ≤ j ∧ j < k + n
      · obtain ⟨h1, h2⟩ := hc' (j - k) (by omega)
        rw [show x + k + (j - k) = x + j by omega] at h1 h2
        refine ⟨?_, h2⟩
        rw [h1, List.getElem?_append_right (by omega), List.getElem?_append_left (by omega)]
        congr 1; omega
      · obtain ⟨h1, h2, h3⟩ := h.cells j hj
        have hne : ¬ (Fm.un (CS.row b (x + k) n)) b (x + j) := fun hh => by
          rcases hh with hh | ⟨_, h5, h6⟩
          · exact h.out _ _ (lb _ _ (lm _ _ hh)) ⟨rfl, by omega, by omega⟩
          · omega
        obtain ⟨e1, e2, _⟩ := hw b (x + j) ⟨h1, hne⟩
        refine ⟨?_, e2.1.trans h3⟩
        rw [e1, h2, hus]
        by_cases hlt : j < k
        · rw [List.getElem?_append_left (by omega), List.getElem?_append_left (by omega)]
        · rw [List.getElem?_append_right (by omega), List.getElem?_append_right (by omega), List.getElem?_append_right (by omega), List.getElem?_append_right (by omega)]
          congr 1; omega
    · have hA' := RL.frame hS hA hwS _ _ Fa Fa (CS.le.refl _) hagA ha
      have hR' := RL.frame hS hA hwS _ _ Fr Fr (CS.le.refl _) hagR hr
      refine RL.append (Fa := Fa) (Fb := F1'.un Fr) (fun b' x' hx => .inl ⟨la _ _ hx, fun hh => dab _ _ hx (lm _ _ hh)⟩) (CS.un_le (CS.le_un_r _ _) (fun b' x' hx => .inl ⟨lb _ _ (lr _ _ hx), fun hh => dmr _ _ hh hx⟩)) ?_ hA'
        (RL.append (CS.le_un_l _ _) (CS.le_un_r _ _) ?_ hr' hR')
      · intro b' x' h1 h2
        rcases h2 with h2 | h2
        · exact hdj _ _ h2 ⟨h.le _ _ (la _ _ h1), fun hh => dab _ _ h1 (lm _ _ hh)⟩
        · exact dab _ _ h1 (lr _ _ h2)
      · intro b' x' h1 h2
        exact hdj _ _ h1 ⟨h.le _ _ (lb _ _ (lr _ _ h2)), fun hh => dmr _ _ hh h2⟩
    · intro b' x' h1 h2
      rcases h1 with h1 | h1
      · exact h2.2 h1.1
      · exact hdj _ _ h1 ⟨h2.1, fun hh => h2.2 (lb _ _ (lm _ _ hh))⟩

theorem Focus.sub {w : World} {S : CS} {A : AlSem} {v : V} {u : Value} {F : CS} {cs : List V} {b x : Nat} {us : List Value} {F1 : CS} {put : List V → V}
    (h : Focus w S A v u F cs b x us F1 put) (k n : Nat) (hk : k + n ≤ cs.length) :
    ∃ us' F1', Focus w S A v u F ((cs.drop k).take n) b (x + k) us' F1' (fun ys => put (cs.take k ++ (ys ++ cs.drop (k + n)))) := by
  obtain ⟨us', F1', h1, _⟩ := h.subLe k n hk
  exact ⟨us', F1', h1⟩

theorem Focus.deep {w : World} {S : CS} {A : AlSem} {v c : V} {u u' : Value} {F : CS} {cs : List V} {b x b2 x2 : Nat} {us : List Value} {F1 F2 : CS} {put put2 : List V → V}
    (h : Focus w S A v u F [c] b x [u'] F1 put) (h2 : Focus w S A c u' F1 cs b2 x2 us F2 put2) :
    Focus w S A v u F cs b2 x2 us F2 (fun ys => put [put2 ys]) := by
  refine ⟨fun j hj => ⟨h.le _ _ (h2.cells j hj).1, (h2.cells j hj).2⟩, h2.rl, h2.le.trans h.le, h2.out, ?_⟩
  intro w' S' A' cs' us' F1' hS hA hwS hw hl hc' hpl hr' hdj
  have hpl0 : PlB w b → PlB w' b := by
    obtain ⟨g1, g2, g3⟩ := h.cells 0 (by simp)
    exact (hw b (x + 0) ⟨g1, fun hh => by
      rcases hh with hh | ⟨rfl, h3, h4⟩
      · exact h.out _ _ (h2.le _ _ hh) ⟨rfl, by omega, by simp⟩
      · have := (h2.cells (x + 0 - x2) (by omega)).1
        rw [show x2 + (x + 0 - x2) = x + 0 by omega] at this
        exact h.out _ _ this ⟨rfl, by omega, by simp⟩⟩).2.1.2
  have hin := h2.back w' S' A' cs' us' F1' hS hA hwS (hw.mono (fun b' x' hx => ⟨h.le _ _ hx.1, hx.2⟩)) hl hc' hpl hr' (fun b' x' h1 h3 => hdj _ _ h1 ⟨h.le _ _ h3.1, h3.2⟩)
  have hb := h.back w' S' A' [put2 cs'] [u'] ((F1.minus F2).un F1') hS hA hwS (hw.mono (fun b' x' hx => ⟨hx.1, fun hh => hx.2 (.inl ?_)⟩)) rfl ?_ (fun _ => hpl0) ⟨u', [], _, CS.none, rfl, CS.le.refl _, CS.none_le _, (CS.none_dj _).symm, hin, rfl⟩ ?_
  · refine hb.mono (fun b' x' hx => ?_)
    rcases hx with hx | hx | hx
    · exact .inl ⟨hx.1, fun hh => hx.2 (h2.le _ _ hh)⟩
    · exact .inl ⟨h.le _ _ hx.1, hx.2⟩
    · exact .inr hx
  · rcases hh with hh | ⟨rfl, h3, h4⟩
    · exact h2.le _ _ hh
    · have := (h2.cells (x' - x2) (by omega)).1
      rwa [show x2 + (x' - x2) = x' by omega] at this
  · intro j hj
    have hj0 : j = 0 := by simpa using hj
    subst hj0
    obtain ⟨g1, g2, g3⟩ := h.cells 0 (by simp)
    obtain ⟨e1, e2, _⟩ := hw b (x + 0) ⟨g1, fun hh => by
      rcases hh with hh | ⟨rfl, h3, h4⟩
      · exact h.out _ _ (h2.le _ _ hh) ⟨rfl, by omega, by simp⟩
      · have := (h2.cells (x + 0 - x2) (by omega)).1
        rw [show x2 + (x + 0 - x2) = x + 0 by omega] at this
        exact h.out _ _ this ⟨rfl, by omega, by simp⟩⟩
    exact ⟨e1.trans g2, e2.1.trans g3⟩
  · intro b' x' h1 h3
    rcases h1 with h1 | h1
    · exact h3.2 h1.1
    · exact hdj _ _ h1 ⟨h3.1, fun hh => h3.2 (h2.le _ _ hh)⟩

theorem drop_take_one {α : Type} (l : List α) (k : Nat) (c : α) (h : l[k]? = some c) : (l.drop k).take 1 = [c] := by
  obtain ⟨hk, rfl⟩ := List.getElem?_eq_some_iff.1 h
  rw [List.drop_eq_getElem_cons hk]; rfl
theorem set_take_drop {α : Type} (l : List α) (k : Nat) (c : α) (h : k < l.length) : l.take k ++ ([c] ++ l.drop (k + 1)) = l.set k c := by
  rw [List.set_eq_take_append_cons_drop, if_pos h]; rfl

/-- The cells at the end of a way. -/
theorem row {w : World} {S : CS} {A : AlSem} {v : V} {u : Value} {F : CS} {i : Nat} {es : List V} {b x : Nat} {us : List Value} {F1 F2 : CS} {put : List V → V} (hp : v.place u i = some (b, x)) (hf : Focus w S A v u F es b x us F1 put) (hle : F2.le F1) (he : v.elem i = some es) :
    ∀ bs b0 o0, v = .box bs → u = .pointer (some ⟨b0, o0, none⟩) → F2.dj (CS.row b0 o0 bs.length) := by
  rintro bs b0 o0 rfl rfl
  simp only [V.elem] at he
  split at he <;> try (cases he; done)
  cases he
  simp only [V.place, ptrOf, Option.some.injEq, Prod.mk.injEq] at hp
  obtain ⟨rfl, rfl⟩ := hp
  exact fun b' x' h1 h2 => hf.out _ _ (hle _ _ h1) h2
theorem focus_pathR (n : Nat) : ∀ (p : List (Nat × Nat)) (w : World) (S : CS) (A : AlSem) (v : V) (u : Value) (F : CS) (cs : List V), RV w S A v u F → v.getR n p = some cs →
    ∃ b x us F1 put, addr w v u p = some (b, x) ∧ Focus w S A v u F cs b x us F1 put ∧ (∀ ys, ys.length = n → put ys = v.setR p ys) ∧ cs.length = n ∧ (∀ bs b0 o0, v = .box bs → u = .pointer (some ⟨b0, o0, none⟩) → F1.dj (CS.row b0 o0 bs.length))
  | [], _, _, _, _, _, _, _, _, h => by simp [V.getR] at h
  | [(i, k)], w, S, A, v, u, F, cs, h, hg => by
    simp only [V.getR] at hg
    cases he : v.elem i with
    | none => simp [he] at hg
    | some es =>
      simp only [he, Option.bind_some] at hg
      split at hg
      · rename_i hk
        obtain rfl := Option.some.inj hg
        obtain ⟨b, x, us, F1, hp, hf⟩ := focus_elem h he
        obtain ⟨us', F1', hf', hle⟩ := hf.subLe k n hk
        refine ⟨b, x + k, us', F1', _, by simp [addr, hp], hf', ?_, by rw [List.length_take, List.length_drop]; omega, row hp hf hle he⟩
        intro ys hy
        simp [V.setR, he, hy]
      · cases hg
  | (i, k) :: q :: p, w, S, A, v, u, F, cs, h, hg => by
    simp only [V.getR] at hg
    cases he : v.elem i with
    | none => simp [he] at hg
    | some es =>
      simp only [he, Option.bind_some] at hg
      cases hc : es[k]? with
      | none => simp [hc] at hg
      | some c =>
        simp only [hc, Option.bind_some] at hg
        obtain ⟨hk, _⟩ := List.getElem?_eq_some_iff.1 hc
        obtain ⟨b, x, us, F1, hp, hf⟩ := focus_elem h he
        obtain ⟨us', F1', hf', hle⟩ := hf.subLe k 1 (by omega)
        rw [drop_take_one es k c hc] at hf'
        obtain ⟨u', ur, Fx, Fy, rfl, lx, ly, dxy, hcv, hr⟩ := hf'.rl
        simp only [RL] at hr; subst hr
        have hcell := (hf'.cells 0 (by simp)).2.1
        simp at hcell
        have hcv' := hcv.mono lx
        obtain ⟨b2, x2, us2, F2, put2, ha2, hf2, hput, hlen, _⟩ := focus_pathR n (q :: p) w S A c u' F1' cs hcv' hg
        refine ⟨b2, x2, us2, F2, _, ?_, hf'.deep hf2, ?_, hlen, row hp hf (hf2.le.trans hle) he⟩
        · simp [addr, he, hc, hp, hcell, ha2]
        · intro ys hy
          simp only [hput ys hy, V.setR, he, hc]
          rw [set_take_drop es k _ hk]
theorem focus_path (n : Nat) (p : List (Nat × Nat)) (w : World) (S : CS) (A : AlSem) (v : V) (u : Value) (F : CS) (cs : List V) (h : RV w S A v u F) (hg : v.getR n p = some cs) :
    ∃ b x us F1 put, addr w v u p = some (b, x) ∧ Focus w S A v u F cs b x us F1 put ∧ (∀ ys, ys.length = n → put ys = v.setR p ys) ∧ cs.length = n := by
  obtain ⟨b, x, us, F1, put, h1, h2, h3, h4, _⟩ := focus_pathR n p w S A v u F cs h hg
  exact ⟨b, x, us, F1, put, h1, h2, h3, h4⟩
end Go.Proofs.YtainknkfjekngaaDoor.Vm
