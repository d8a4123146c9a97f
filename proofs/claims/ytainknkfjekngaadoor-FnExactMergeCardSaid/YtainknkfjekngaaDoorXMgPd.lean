/- What the reference's function answers, and the program's: the same. -/
import Derived.Test.YtainknkfjekngaaDoorXMgPc
namespace Go.Proofs.YtainknkfjekngaaDoor
open Go Vm
set_option linter.unusedVariables false
set_option linter.unusedSimpArgs false
namespace Xs
theorem mapO_wd {e : ET} : ∀ l : List e.den, mapO (nw e) (l.map (wd e)) = some l
  | [] => rfl
  | x :: l => by
    have h : ∀ (e : ET) (x : e.den), nw e (wd e x) = some x := fun e => by
      induction e with
      | pair a b iha ihb => intro x; simp only [wd, nw, iha, ihb]
      | _ => intro x; rfl
    simp only [List.map_cons, mapO, h, mapO_wd l]
theorem set3 {α : Type} (W : List α) {i : Nat} (x y : α) (hi : i < W.length) : i < (W.set i x).length ∧ (W.set i x)[i]? = some x ∧ (W.set i x).set i y = W.set i y :=
  ⟨by rw [List.length_set]; exact hi, List.getElem?_set_self hi, List.set_set ..⟩
theorem join_w {t : List GroupT} {i : Nat} {k : List UInt8} {ms r : List (List UInt8)} (hx : t[i]? = some (k, ms)) :
    i < ((List.map (wd (ET.str.pair (ET.sl true ET.str))) t).set i (k, none)).length ∧ ((List.map (wd (ET.str.pair (ET.sl true ET.str))) t).set i (k, none))[i]? = some (k, none) ∧
      mapO (nw (ET.str.pair (ET.sl true ET.str))) (((List.map (wd (ET.str.pair (ET.sl true ET.str))) t).set i (k, none)).set i (k, some r)) = some (t.set i (k, r)) := by
  have hi : i < t.length := (List.getElem?_eq_some_iff.1 hx).1
  have hl : i < (List.map (wd (ET.str.pair (ET.sl true ET.str))) t).length := by rw [List.length_map]; exact hi
  have h3 := set3 (List.map (wd (ET.str.pair (ET.sl true ET.str))) t) (k, none) (k, some r) hl
  refine ⟨h3.1, h3.2.1, (congrArg (mapO (nw (ET.str.pair (ET.sl true ET.str)))) h3.2.2).trans ?_⟩
  have := mapO_wd (e := ET.str.pair (ET.sl true ET.str)) (t.set i (k, r))
  rw [List.map_set] at this
  exact this
theorem l_join {t : List GroupT} {g who : List UInt8} {L R : List GroupT} (ht : t.length ≤ 1048576) (e : t = L ++ R) (h1 : ∀ x ∈ L, Op.bytesLess x.1 g = true) (h2 : ∀ x ∈ R, Op.bytesLess x.1 g = false) :
    ∀ (j i n : Nat), i + j = L.length → j < n → L___impl_Table__join_1 n (t, g, who, (i : Int)) = some (.inl (t, g, who, (L.length : Int)))
  | 0, i, n + 1, hi, hn => by
    rw [e_L___impl_Table__join_1]
    have hlen : t.length = L.length + R.length := by rw [e, List.length_append]
    cases R with
    | nil =>
      simp only [decide_eq_false (show ¬ (i : Int) < (t.length : Int) by rw [hlen, List.length_nil]; omega), cond_false, Option.bind_some, Sum.elim_inl]
      rw [show i = L.length by omega]
    | cons y R =>
      have hy : t[i]? = some y := by rw [show i = L.length by omega, e]; simp
      simp only [decide_eq_true (show (i : Int) < (t.length : Int) by rw [hlen, List.length_cons]; omega), cond_true, Int.natCast_nonneg, if_true, Int.toNat_natCast, if_pos (show i < t.length by rw [hlen, List.length_cons]; omega), hy, Option.bind_some, Sum.elim_inl, h2 y List.mem_cons_self, cond_false]
      rw [show i = L.length by omega]
  | j + 1, i, n + 1, hi, hn => by
    have hlen : t.length = L.length + R.length := by rw [e, List.length_append]
    have hlt : i < L.length := by omega
    have hy : t[i]? = some L[i] := by rw [e, List.getElem?_append_left hlt, List.getElem?_eq_getElem hlt]
    have ih := l_join (who := who) ht e h1 h2 j (i + 1) n (by omega) (by omega)
    rw [show ((i + 1 : Nat) : Int) = (i : Int) + 1 by omega] at ih
    rw [e_L___impl_Table__join_1]
    simp only [decide_eq_true (show (i : Int) < (t.length : Int) by omega), cond_true, Int.natCast_nonneg, if_true, Int.toNat_natCast, if_pos (show i < t.length by omega), hy, Option.bind_some, Sum.elim_inl, h1 _ (List.getElem_mem hlt), wrap_ok (n := (i : Int) + 1) (by omega) (by omega), ih]
theorem find_lt {L : List GroupT} {g : List UInt8} (h1 : ∀ x ∈ L, Op.bytesLess x.1 g = true) : L.find? (fun y => y.1 == g) = none :=
  List.find?_eq_none.2 fun x hx => by rw [show (x.1 == g) = false from beq_eq_false_iff_ne.2 (bl_ne (h1 x hx))]; decide
theorem find_gt {R : List GroupT} {g : List UInt8} (h1 : ∀ x ∈ R, Op.bytesLess g x.1 = true) : R.find? (fun y => y.1 == g) = none :=
  List.find?_eq_none.2 fun x hx => by rw [show (x.1 == g) = false from beq_eq_false_iff_ne.2 (Ne.symm (bl_ne (h1 x hx)))]; decide
theorem insT_pos (l : List (List UInt8)) (x : List UInt8) : 0 < (insT l x).length := by unfold insT; rw [List.length_append, List.length_cons]; omega
theorem setG_pos {t : List GroupT} {g : List UInt8} {ms : List (List UInt8)} (h : 0 < ms.length) : setG t g ms = loF Prod.fst g t ++ (g, ms) :: hiF Prod.fst g t := by
  unfold setG
  rw [decide_eq_true (by omega)]; rfl
theorem x_join {t : List GroupT} (g who : List UInt8) (ht : t.length ≤ 100000) (hs : Srt Prod.fst t) (hm : ∀ y ∈ t, Srt id y.2 ∧ y.2.length ≤ 1048576) : T___impl_Table__join (t, g, who) = some (setG t g (insT (memG t g) who)) := by
  obtain ⟨L, R, e, h1, h2, h3⟩ := srt_split g hs
  have hlen : t.length = L.length + R.length := by rw [e, List.length_append]
  have hloop := l_join (who := who) (by omega) e h1 h2 L.length 0 fuel (by omega) (by simp only [fuel]; omega)
  rw [show ((0 : Nat) : Int) = 0 from rfl] at hloop
  have hlo : loF Prod.fst g t = L := by rw [e]; exact lo_of h1 h2
  rw [setG_pos (insT_pos _ _), hlo]
  rw [e_T___impl_Table__join, hloop]
  simp only [Option.bind_some, Sum.elim_inl]
  have hset : ∀ (k : List UInt8) (ms r : List (List UInt8)) (R' : List GroupT), (L ++ (k, ms) :: R').set L.length (k, r) = L ++ (k, r) :: R' := fun k ms r R' => by
    rw [List.set_append_right _ _ (Nat.le_refl _), Nat.sub_self]; rfl
  have hins : T_slices_Insert___impl_Group_impl_Group_ (t, (L.length : Int), [(g, [])]) = some (L ++ (g, []) :: R) := by
    rw [e_T_slices_Insert___impl_Group_impl_Group_, if_pos ⟨by omega, by omega, by simp, by simp; omega, by simp; omega⟩]
    rw [Int.toNat_natCast, e, List.take_left, List.drop_left, List.append_assoc]; rfl
  have hnew : ∀ (hR : ∀ x ∈ R, Op.bytesLess g x.1 = true), memG t g = [] ∧ hiF Prod.fst g t = R := fun hR => by
    refine ⟨?_, by rw [e]; exact hi_of h1 hR⟩
    unfold memG
    rw [e, List.find?_append, find_lt h1, find_gt hR]; rfl
  have hget : ∀ (k : List UInt8) (ms : List (List UInt8)) (R' : List GroupT), (L ++ (k, ms) :: R')[L.length]? = some (k, ms) := fun k ms R' => by simp
  have hlt : ∀ (k : List UInt8) (ms : List (List UInt8)) (R' : List GroupT), L.length < (L ++ (k, ms) :: R').length := fun k ms R' => by simp
  cases R with
  | nil =>
    obtain ⟨hm1, hh⟩ := hnew (by simp)
    have hw := join_w (r := insT [] who) (hget g [] [])
    rw [show ((L.length : Int) == (t.length : Int)) = true from by rw [beq_iff_eq, hlen]; simp]
    rw [hm1, hh]
    simp only [cond_true, Option.bind_some, Sum.elim_inl, hins, Int.natCast_nonneg, if_true, Int.toNat_natCast, if_pos (hlt g [] []), hget, x_addTo who (show ([] : List (List UInt8)).length ≤ 1048576 by simp) List.Pairwise.nil, if_pos hw.1, hw.2.1]
    refine (congrArg (fun o => Option.bind (Option.bind o fun l' => some (l', ([] : List SV))) fun p => bif p.2.isEmpty then some p.1 else none) hw.2.2).trans ?_
    rw [hset]; rfl
  | cons y R' =>
    have hy : t[L.length]? = some y := by rw [e]; simp
    rw [show ((L.length : Int) == (t.length : Int)) = false from beq_eq_false_iff_ne.2 (by rw [hlen, List.length_cons]; omega)]
    simp only [cond_false, Int.natCast_nonneg, if_true, Int.toNat_natCast, if_pos (show L.length < t.length by rw [hlen, List.length_cons]; omega), hy, Option.bind_some, Sum.elim_inl]
    by_cases hg : y.1 = g
    · have hyt := hm y (by rw [e]; simp)
      obtain ⟨y1, y2⟩ := y
      simp only at hg hyt
      subst hg
      have hh : hiF Prod.fst y1 t = R' := by rw [e]; exact hi_of' h1 rfl (h3 _ _ rfl)
      have hm1 : memG t y1 = y2 := by
        unfold memG
        rw [e, List.find?_append, find_lt h1, List.find?_cons, beq_self_eq_true]; rfl
      rw [hm1, hh, show (y1 == y1) = true from beq_self_eq_true y1]
      have hw := join_w (r := insT y2 who) (hget y1 y2 R')
      rw [e]
      simp only [Bool.not_true, cond_false, Option.bind_some, Sum.elim_inl, Int.natCast_nonneg, if_true, Int.toNat_natCast, if_pos (hlt y1 y2 R'), hget, x_addTo who hyt.2 hyt.1, if_pos hw.1, hw.2.1]
      refine (congrArg (fun o => Option.bind (Option.bind o fun l' => some (l', ([] : List SV))) fun p => bif p.2.isEmpty then some p.1 else none) hw.2.2).trans ?_
      rw [hset]; rfl
    · have hR : ∀ x ∈ y :: R', Op.bytesLess g x.1 = true := fun x hx => by
        rcases List.mem_cons.1 hx with rfl | hx
        · exact bl_tri (h2 _ List.mem_cons_self) hg
        · exact h3 _ _ rfl x hx
      obtain ⟨hm1, hh⟩ := hnew hR
      have hw := join_w (r := insT [] who) (hget g [] (y :: R'))
      rw [hm1, hh, show (y.1 == g) = false from beq_eq_false_iff_ne.2 hg]
      simp only [Bool.not_false, cond_true, Option.bind_some, Sum.elim_inl, hins, Int.natCast_nonneg, if_true, Int.toNat_natCast, if_pos (hlt g [] (y :: R')), hget, x_addTo who (show ([] : List (List UInt8)).length ≤ 1048576 by simp) List.Pairwise.nil, if_pos hw.1, hw.2.1]
      refine (congrArg (fun o => Option.bind (Option.bind o fun l' => some (l', ([] : List SV))) fun p => bif p.2.isEmpty then some p.1 else none) hw.2.2).trans ?_
      rw [hset]; rfl
-- the algebra of settings
theorem lo_app {α : Type} (f : α → List UInt8) (g : List UInt8) (a b : List α) : loF f g (a ++ b) = loF f g a ++ loF f g b := List.filter_append ..
theorem hi_app {α : Type} (f : α → List UInt8) (g : List UInt8) (a b : List α) : hiF f g (a ++ b) = hiF f g a ++ hiF f g b := List.filter_append ..
theorem setG_lo {t : List GroupT} {g : List UInt8} {ms : List (List UInt8)} (h : 0 < ms.length) : loF Prod.fst g (setG t g ms) = loF Prod.fst g t ∧ hiF Prod.fst g (setG t g ms) = hiF Prod.fst g t := by
  rw [setG_pos h]
  have h1 : ∀ x ∈ loF Prod.fst g t, Op.bytesLess x.1 g = true := fun x hx => lo_lt hx
  have h2 : ∀ x ∈ hiF Prod.fst g t, Op.bytesLess g x.1 = true := fun x hx => hi_gt hx
  refine ⟨lo_of h1 (fun x hx => ?_), hi_of' h1 rfl h2⟩
  rcases List.mem_cons.1 hx with rfl | hx
  · exact bl_irr g
  · exact bl_asym (h2 x hx)
theorem setG_set {t : List GroupT} {g : List UInt8} {ms ms' : List (List UInt8)} (h : 0 < ms.length) : setG (setG t g ms) g ms' = setG t g ms' := by
  have := setG_lo (t := t) (g := g) h
  show loF Prod.fst g (setG t g ms) ++ _ = loF Prod.fst g t ++ _
  rw [this.1, this.2]
theorem memG_set {t : List GroupT} {g : List UInt8} {ms : List (List UInt8)} (h : 0 < ms.length) : memG (setG t g ms) g = ms := by
  unfold memG
  rw [setG_pos h, List.find?_append, find_lt (fun x hx => lo_lt hx), List.find?_cons, beq_self_eq_true]; rfl
/-- A table as it goes through: ascending, and not too large. -/
def TabOk (c m : Nat) (t : List GroupT) : Prop := Srt Prod.fst t ∧ (∀ y ∈ t, Srt id y.2 ∧ y.2.length ≤ m) ∧ t.length ≤ c
theorem TabOk.set {c m : Nat} {t : List GroupT} {g : List UInt8} {ms : List (List UInt8)} (h : TabOk c m t) (h0 : 0 < ms.length) (h1 : Srt id ms) (h2 : ms.length ≤ m) : TabOk (c + 1) m (setG t g ms) := by
  obtain ⟨a, b, d⟩ := h
  rw [setG_pos h0]
  refine ⟨mid_srt a rfl, fun y hy => ?_, ?_⟩
  · rcases List.mem_append.1 hy with hy | hy
    · exact b y (List.mem_filter.1 hy).1
    · rcases List.mem_cons.1 hy with rfl | hy
      · exact ⟨h1, h2⟩
      · exact b y (List.mem_filter.1 hy).1
  · have := lohi_len Prod.fst g t
    rw [List.length_append, List.length_cons]; omega
theorem TabOk.mem {c m : Nat} {t : List GroupT} (h : TabOk c m t) (g : List UInt8) : Srt id (memG t g) ∧ (memG t g).length ≤ m := by
  unfold memG
  cases hf : t.find? (fun y => y.1 == g) with
  | none => exact ⟨List.Pairwise.nil, Nat.zero_le _⟩
  | some y => exact h.2.1 y (List.mem_of_find?_eq_some hf)
theorem TabOk.mono {c m c' m' : Nat} {t : List GroupT} (h : TabOk c m t) (hc : c ≤ c') (hm : m ≤ m') : TabOk c' m' t := ⟨h.1, fun y hy => ⟨(h.2.1 y hy).1, Nat.le_trans (h.2.1 y hy).2 hm⟩, Nat.le_trans h.2.2 hc⟩
end Xs
end Go.Proofs.YtainknkfjekngaaDoor
