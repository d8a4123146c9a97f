/- What the reference's function answers, and the program's: the same. -/
import Derived.Test.YtainknkfjekngaaDoorXMgPa
namespace Go.Proofs.YtainknkfjekngaaDoor
open Go Vm
set_option linter.unusedVariables false
set_option linter.unusedSimpArgs false
namespace Xs
noncomputable def pv (y : List UInt8) : Bool := (T_impl_isPrivate y).getD false
noncomputable def nmB (y : List UInt8) : Bool := (T_impl_NameOk y).getD false
theorem pv_ok {y : List UInt8} (h : y.length ≤ 1048576) : T_spec_l17Private y = some (pv y) ∧ T_impl_isPrivate y = some (pv y) := by
  obtain ⟨v, h1, h2, _⟩ := x_isPrivate h
  unfold pv; rw [h1, h2]; exact ⟨rfl, rfl⟩
theorem nmB_ok {y : List UInt8} (h : y.length ≤ 1048576) : T_spec_NameOk y = some (nmB y) ∧ T_impl_NameOk y = some (nmB y) := by
  obtain ⟨v, h1, h2⟩ := x_NameOk (a := y) (by rw [maxLen_eq]; omega)
  unfold nmB; rw [h1, h2]; exact ⟨rfl, rfl⟩
def upB (z y : List UInt8) : Bool := !(Op.bytesLess y z || y == z)
def ordB (a : List (List UInt8)) (i : Nat) (y : List UInt8) : Bool := bif decide (0 < i) then upB (a.getD (i - 1) []) y else true
noncomputable def stP (a : List (List UInt8)) (i : Nat) (y : List UInt8) (_ : Unit) : Unit ⊕ Bool := bif pv y && ordB a i y then .inl () else .inr false
theorem run_false {α : Type} {p : Nat → α → Bool} : ∀ (l : List α) (k : Nat), runL (fun i y (_ : Unit) => bif p i y then (.inl () : Unit ⊕ Bool) else .inr false) k l () = .inl () ∨ runL (fun i y (_ : Unit) => bif p i y then (.inl () : Unit ⊕ Bool) else .inr false) k l () = .inr false
  | [], _ => .inl rfl
  | y :: l, k => by
    simp only [runL]
    cases p k y with
    | true => exact run_false l (k + 1)
    | false => exact .inr rfl
theorem runP_false (a l : List (List UInt8)) (k : Nat) : runL (stP a) k l () = .inl () ∨ runL (stP a) k l () = .inr false := run_false (p := fun i y => pv y && ordB a i y) l k
abbrev GroupT := List UInt8 × List (List UInt8)
theorem mb_spec {a : List GroupT} {b : Int} {c : List UInt8} {d : List (List UInt8)} (h : (ET.sl false .str).small d) : L_spec_TableOk_1 fuel (a, b, (c, d), 0) = some (Sum.elim (fun _ => .inl (a, b)) (fun r => .inr r) (runL (stP d) 0 d ())) := by
  have hl : d.length ≤ 1048576 := h.1
  refine runL_loop (L := L_spec_TableOk_1) d (fun (_ : Unit) e => (a, b, (c, d), e)) (fun _ => (a, b)) (stP d) (fun n s i y hy hi => ?_) (fun n s => by rw [e_L_spec_TableOk_1]; simp) (by rw [maxLen_eq]; omega) ()
  have hyl : y.length ≤ 1048576 := h.2 y (List.mem_of_getElem? hy)
  have hw : IntKind.i64.wrap ((i : Int) + 1) = (i : Int) + 1 := wrap_ok (by omega) (by omega)
  rw [e_L_spec_TableOk_1]
  simp only [show ((i : Int) < (d.length : Int)) by omega, decide_true, cond_true, Int.natCast_nonneg, if_true, Int.toNat_natCast, hy, Option.bind_some, (pv_ok hyl).1, stP, ordB]
  cases pv y with
  | false => rfl
  | true =>
    by_cases h0 : 0 < i
    · have e1 : IntKind.i64.wrap ((i : Int) - 1) = ((i - 1 : Nat) : Int) := by rw [wrap_ok (by omega) (by omega)]; omega
      have hg : d.getD (i - 1) [] = d[i - 1]'(by omega) := by simp [List.getD_eq_getElem?_getD, List.getElem?_eq_getElem (show i - 1 < d.length by omega)]
      simp only [Bool.not_true, cond_false, show (0 : Int) < (i : Int) by omega, decide_true, cond_true, e1, Int.natCast_nonneg, if_true, Int.toNat_natCast, h0, List.getElem?_eq_getElem (show i - 1 < d.length by omega), Option.bind_some, Sum.elim_inl, hg, Bool.true_and, upB, less_not]
      cases Op.bytesLess y d[i - 1] || y == d[i - 1] <;> simp only [Bool.not_true, Bool.not_false, cond_true, cond_false, Sum.elim_inl, Sum.elim_inr, hw]
    · simp only [Bool.not_true, cond_false, show ¬ (0 : Int) < (i : Int) by omega, decide_false, h0, Option.bind_some, Sum.elim_inl, Bool.true_and, cond_true, hw]
theorem mb_impl {a : List (List UInt8)} (h : (ET.sl false .str).small a) : L_impl_membersOk_1 fuel (a, a, (a.length : Int), 0) = some (Sum.elim (fun _ => .inl a) (fun r => .inr r) (runL (stP a) 0 a ())) := by
  have hl : a.length ≤ 1048576 := h.1
  refine runL_loop (L := L_impl_membersOk_1) a (fun (_ : Unit) e => (a, a, (a.length : Int), e)) (fun _ => a) (stP a) (fun n s i y hy hi => ?_) (fun n s => by rw [e_L_impl_membersOk_1]; simp) (by rw [maxLen_eq]; omega) ()
  have hyl : y.length ≤ 1048576 := h.2 y (List.mem_of_getElem? hy)
  have hw : IntKind.i64.wrap ((i : Int) + 1) = (i : Int) + 1 := wrap_ok (by omega) (by omega)
  rw [e_L_impl_membersOk_1]
  simp only [show ((i : Int) < (a.length : Int)) by omega, decide_true, cond_true, Int.natCast_nonneg, if_true, Int.toNat_natCast, hy, Option.bind_some, (pv_ok hyl).2, stP, ordB]
  cases pv y with
  | false => rfl
  | true =>
    by_cases h0 : 0 < i
    · have e1 : IntKind.i64.wrap ((i : Int) - 1) = ((i - 1 : Nat) : Int) := by rw [wrap_ok (by omega) (by omega)]; omega
      have hg : a.getD (i - 1) [] = a[i - 1]'(by omega) := by simp [List.getD_eq_getElem?_getD, List.getElem?_eq_getElem (show i - 1 < a.length by omega)]
      simp only [Bool.not_true, cond_false, show (0 : Int) < (i : Int) by omega, decide_true, cond_true, e1, Int.natCast_nonneg, if_true, Int.toNat_natCast, h0, List.getElem?_eq_getElem (show i - 1 < a.length by omega), Option.bind_some, Sum.elim_inl, hg, Bool.true_and, upB]
      cases Op.bytesLess y a[i - 1] || y == a[i - 1] <;> simp only [Bool.not_true, Bool.not_false, cond_true, cond_false, Sum.elim_inl, Sum.elim_inr, hw]
    · simp only [Bool.not_true, cond_false, show ¬ (0 : Int) < (i : Int) by omega, decide_false, h0, Option.bind_some, Sum.elim_inl, Bool.true_and, cond_true, hw]
noncomputable def okM (a : List (List UInt8)) : Bool := decide ((1 : Int) ≤ (a.length : Int) ∧ (a.length : Int) ≤ 8) && Sum.elim (fun _ => true) (fun r => r) (runL (stP a) 0 a ())
theorem v_membersOk {a : List (List UInt8)} (h : (ET.sl false .str).small a) : T_impl_membersOk a = some (okM a) := by
  rw [e_T_impl_membersOk, mb_impl h]
  unfold okM
  rcases runP_false a a 0 with h1 | h1
  · rw [h1]; simp only [Sum.elim_inl, Option.bind_some, (x_inRange _ _ _).2, Bool.and_true]
  · rw [h1]; simp only [Sum.elim_inr, Option.bind_some, Bool.and_false]
noncomputable def okG (a : List GroupT) (i : Nat) (y : GroupT) : Bool := nmB y.1 && ((bif decide (0 < i) then upB (a.getD (i - 1) ([], [])).1 y.1 else true) && okM y.2)
noncomputable def stG (a : List GroupT) (i : Nat) (y : GroupT) (_ : Unit) : Unit ⊕ Bool := bif okG a i y then .inl () else .inr false
theorem runG_false (a l : List GroupT) (k : Nat) : runL (stG a) k l () = .inl () ∨ runL (stG a) k l () = .inr false := run_false (p := fun i y => okG a i y) l k
theorem tb_spec {a : List GroupT} (h : (ET.sl false (.pair .str (.sl false .str))).small a) : L_spec_TableOk_2 fuel (a, 0) = some (Sum.elim (fun _ => .inl ()) (fun r => .inr r) (runL (stG a) 0 a ())) := by
  have hl : a.length ≤ 1048576 := h.1
  refine runL_loop (L := L_spec_TableOk_2) a (fun (_ : Unit) e => (a, e)) (fun _ => ()) (stG a) (fun n s i y hy hi => ?_) (fun n s => by rw [e_L_spec_TableOk_2]; simp) (by rw [maxLen_eq]; omega) ()
  obtain ⟨y1, y2⟩ := y
  have hys := h.2 (y1, y2) (List.mem_of_getElem? hy)
  have hy1 : y1.length ≤ 1048576 := hys.1
  have hy2 : (ET.sl false .str).small y2 := hys.2
  have hw : IntKind.i64.wrap ((i : Int) + 1) = (i : Int) + 1 := wrap_ok (by omega) (by omega)
  rw [e_L_spec_TableOk_2]
  simp only [show ((i : Int) < (a.length : Int)) by omega, decide_true, cond_true, Int.natCast_nonneg, if_true, Int.toNat_natCast, hy, Option.bind_some, (nmB_ok hy1).1, (x_inRange _ _ _).1, stG, okG]
  cases nmB y1 with
  | false => rfl
  | true =>
    by_cases h0 : 0 < i
    · have e1 : IntKind.i64.wrap ((i : Int) - 1) = ((i - 1 : Nat) : Int) := by rw [wrap_ok (by omega) (by omega)]; omega
      have hg : a.getD (i - 1) ([], []) = a[i - 1]'(by omega) := by simp [List.getD_eq_getElem?_getD, List.getElem?_eq_getElem (show i - 1 < a.length by omega)]
      simp only [Bool.not_true, cond_false, show (0 : Int) < (i : Int) by omega, decide_true, cond_true, e1, Int.natCast_nonneg, if_true, Int.toNat_natCast, h0, List.getElem?_eq_getElem (show i - 1 < a.length by omega), Option.bind_some, hg, Bool.true_and, upB, less_not]
      cases Op.bytesLess y1 a[i - 1].1 || y1 == a[i - 1].1 with
      | true => rfl
      | false =>
        simp only [cond_false, Option.bind_some, Sum.elim_inl, okM, Bool.not_false, Bool.true_and]
        cases decide ((1 : Int) ≤ (y2.length : Int) ∧ (y2.length : Int) ≤ 8) with
        | false => rfl
        | true =>
          simp only [Bool.not_true, cond_false, mb_spec hy2, Bool.true_and]
          rcases runP_false y2 y2 0 with h1 | h1 <;> rw [h1] <;> simp only [Sum.elim_inl, Sum.elim_inr, Option.bind_some, cond_true, cond_false, hw]
    · simp only [Bool.not_true, cond_false, show ¬ (0 : Int) < (i : Int) by omega, decide_false, h0, Option.bind_some, Sum.elim_inl, okM, Bool.true_and]
      cases decide ((1 : Int) ≤ (y2.length : Int) ∧ (y2.length : Int) ≤ 8) with
      | false => rfl
      | true =>
        simp only [Bool.not_true, cond_false, mb_spec hy2, Bool.true_and]
        rcases runP_false y2 y2 0 with h1 | h1 <;> rw [h1] <;> simp only [Sum.elim_inl, Sum.elim_inr, Option.bind_some, cond_true, cond_false, hw]
theorem tb_impl {a : List GroupT} (h : (ET.sl false (.pair .str (.sl false .str))).small a) : L_impl_TableOk_1 fuel (a, a, (a.length : Int), 0) = some (Sum.elim (fun _ => .inl a) (fun r => .inr r) (runL (stG a) 0 a ())) := by
  have hl : a.length ≤ 1048576 := h.1
  refine runL_loop (L := L_impl_TableOk_1) a (fun (_ : Unit) e => (a, a, (a.length : Int), e)) (fun _ => a) (stG a) (fun n s i y hy hi => ?_) (fun n s => by rw [e_L_impl_TableOk_1]; simp) (by rw [maxLen_eq]; omega) ()
  obtain ⟨y1, y2⟩ := y
  have hys := h.2 (y1, y2) (List.mem_of_getElem? hy)
  have hy1 : y1.length ≤ 1048576 := hys.1
  have hy2 : (ET.sl false .str).small y2 := hys.2
  have hw : IntKind.i64.wrap ((i : Int) + 1) = (i : Int) + 1 := wrap_ok (by omega) (by omega)
  rw [e_L_impl_TableOk_1]
  simp only [show ((i : Int) < (a.length : Int)) by omega, decide_true, cond_true, Int.natCast_nonneg, if_true, Int.toNat_natCast, hy, Option.bind_some, (nmB_ok hy1).2, stG, okG]
  cases nmB y1 with
  | false => rfl
  | true =>
    simp only [Bool.not_true, cond_false, v_membersOk hy2, Option.bind_some, Bool.true_and]
    cases okM y2 with
    | false =>
      simp only [Bool.not_false, cond_true, Option.bind_some, Sum.elim_inl, Bool.and_false, cond_false, Sum.elim_inr]
    | true =>
      by_cases h0 : 0 < i
      · have e1 : IntKind.i64.wrap ((i : Int) - 1) = ((i - 1 : Nat) : Int) := by rw [wrap_ok (by omega) (by omega)]; omega
        have hg : a.getD (i - 1) ([], []) = a[i - 1]'(by omega) := by simp [List.getD_eq_getElem?_getD, List.getElem?_eq_getElem (show i - 1 < a.length by omega)]
        simp only [Bool.not_true, cond_false, show (0 : Int) < (i : Int) by omega, decide_true, cond_true, e1, Int.natCast_nonneg, if_true, Int.toNat_natCast, h0, List.getElem?_eq_getElem (show i - 1 < a.length by omega), Option.bind_some, hg, Sum.elim_inl, Bool.and_true, upB]
        cases Op.bytesLess y1 a[i - 1].1 || y1 == a[i - 1].1 <;> simp only [Bool.not_true, Bool.not_false, cond_true, cond_false, Sum.elim_inl, Sum.elim_inr, hw]
      · simp only [Bool.not_true, cond_false, show ¬ (0 : Int) < (i : Int) by omega, decide_false, h0, Option.bind_some, Sum.elim_inl, Bool.and_true, cond_true, hw]
theorem x_TableOk {a : List GroupT} (h : (ET.sl false (.pair .str (.sl false .str))).small a) : ∃ v, T_spec_TableOk a = some v ∧ T_impl_TableOk a = some v := by
  rw [e_T_spec_TableOk, e_T_impl_TableOk, tb_spec h, tb_impl h]
  rcases runG_false a a 0 with h1 | h1
  · rw [h1]
    by_cases h6 : (6 : Int) < (a.length : Int)
    · exact ⟨false, by rw [decide_eq_true h6]; rfl, by simp only [Sum.elim_inl, Option.bind_some]; rw [decide_eq_false (by omega)]⟩
    · exact ⟨true, by rw [decide_eq_false h6]; rfl, by simp only [Sum.elim_inl, Option.bind_some]; rw [decide_eq_true (by omega)]⟩
  · rw [h1]
    cases decide ((6 : Int) < (a.length : Int)) <;> exact ⟨false, rfl, rfl⟩
theorem bl_irr (a : List UInt8) : Op.bytesLess a a = false := by
  have := less_not a a
  cases h : Op.bytesLess a a with
  | false => rfl
  | true => rw [h] at this; cases this
theorem bl_asym {a b : List UInt8} (h : Op.bytesLess a b = true) : Op.bytesLess b a = false := by
  have := less_not a b
  rw [h] at this
  cases h2 : Op.bytesLess b a with
  | false => rfl
  | true => rw [h2] at this; cases this
theorem bl_tri {a b : List UInt8} (h : Op.bytesLess a b = false) (hn : a ≠ b) : Op.bytesLess b a = true := by
  have := less_not a b
  rw [h, show (b == a) = false from beq_eq_false_iff_ne.2 (Ne.symm hn), Bool.or_false] at this
  exact this.symm
theorem bl_ne {a b : List UInt8} (h : Op.bytesLess a b = true) : a ≠ b := fun e => by rw [e, bl_irr] at h; cases h
theorem bl_trans : ∀ {a b c : List UInt8}, Op.bytesLess a b = true → Op.bytesLess b c = true → Op.bytesLess a c = true
  | _, [], _, h, _ => by cases ‹List UInt8› <;> simp [Op.bytesLess] at h
  | _, _ :: _, [], _, h => by simp [Op.bytesLess] at h
  | [], _ :: _, _ :: _, _, _ => rfl
  | x :: a, y :: b, z :: c, h1, h2 => by
    simp only [Op.bytesLess, Bool.or_eq_true, decide_eq_true_eq, Bool.and_eq_true, beq_iff_eq] at h1 h2 ⊢
    rcases h1 with h1 | ⟨rfl, h1⟩
    · rcases h2 with h2 | ⟨rfl, h2⟩
      · left; simp only [UInt8.lt_iff_toNat_lt] at *; omega
      · exact .inl h1
    · rcases h2 with h2 | ⟨rfl, h2⟩
      · exact .inl h2
      · exact .inr ⟨rfl, bl_trans h1 h2⟩
/-- Ascending by a key. -/
def Srt {α : Type} (f : α → List UInt8) (l : List α) : Prop := l.Pairwise fun x y => Op.bytesLess (f x) (f y) = true
def loF {α : Type} (f : α → List UInt8) (g : List UInt8) (l : List α) : List α := l.filter fun y => Op.bytesLess (f y) g
def hiF {α : Type} (f : α → List UInt8) (g : List UInt8) (l : List α) : List α := l.filter fun y => !(Op.bytesLess (f y) g || f y == g)
theorem srt_split {α : Type} {f : α → List UInt8} (g : List UInt8) : ∀ {l : List α}, Srt f l → ∃ L R, l = L ++ R ∧ (∀ x ∈ L, Op.bytesLess (f x) g = true) ∧ (∀ x ∈ R, Op.bytesLess (f x) g = false) ∧ ∀ y R', R = y :: R' → ∀ x ∈ R', Op.bytesLess g (f x) = true
  | [], _ => ⟨[], [], rfl, by simp, by simp, by simp⟩
  | x :: l, h => by
    have hx := (List.pairwise_cons.1 h).1
    have hl := (List.pairwise_cons.1 h).2
    cases hg : Op.bytesLess (f x) g with
    | true =>
      obtain ⟨L, R, rfl, h1, h2, h3⟩ := srt_split g (f := f) hl
      exact ⟨x :: L, R, rfl, fun y hy => (List.mem_cons.1 hy).elim (fun e => e ▸ hg) (h1 y), h2, h3⟩
    | false =>
      have hgt : ∀ y ∈ l, Op.bytesLess g (f y) = true := fun y hy => by
        by_cases e : f x = g
        · rw [← e]; exact hx y hy
        · exact bl_trans (bl_tri hg e) (hx y hy)
      refine ⟨[], x :: l, rfl, by simp, fun y hy => ?_, fun y R' e z hz => ?_⟩
      · rcases List.mem_cons.1 hy with rfl | hy
        · exact hg
        · exact bl_asym (hgt y hy)
      · obtain ⟨_, rfl⟩ := List.cons.inj e
        exact hgt z hz
theorem lo_of {α : Type} {f : α → List UInt8} {g : List UInt8} {L R : List α} (h1 : ∀ x ∈ L, Op.bytesLess (f x) g = true) (h2 : ∀ x ∈ R, Op.bytesLess (f x) g = false) : loF f g (L ++ R) = L := by
  unfold loF
  rw [List.filter_append, List.filter_eq_self.2 h1, List.filter_eq_nil_iff.2 (fun x hx => by rw [h2 x hx]; decide), List.append_nil]
theorem hi_of {α : Type} {f : α → List UInt8} {g : List UInt8} {L R : List α} (h1 : ∀ x ∈ L, Op.bytesLess (f x) g = true) (h2 : ∀ x ∈ R, Op.bytesLess g (f x) = true) : hiF f g (L ++ R) = R := by
  unfold hiF
  rw [List.filter_append, List.filter_eq_nil_iff.2 (fun x hx => by rw [h1 x hx]; simp), List.nil_append]
  exact List.filter_eq_self.2 fun x hx => by
    rw [bl_asym (h2 x hx), show (f x == g) = false from beq_eq_false_iff_ne.2 (Ne.symm (bl_ne (h2 x hx)))]; rfl
theorem hi_of' {α : Type} {f : α → List UInt8} {g : List UInt8} {L R : List α} {y : α} (h1 : ∀ x ∈ L, Op.bytesLess (f x) g = true) (hy : f y = g) (h2 : ∀ x ∈ R, Op.bytesLess g (f x) = true) : hiF f g (L ++ y :: R) = R := by
  have h := hi_of (f := f) (g := g) h1 h2
  unfold hiF at h ⊢
  rw [List.filter_append] at h ⊢
  rw [List.filter_cons, hy, beq_self_eq_true, Bool.or_true, if_neg (by decide)]
  exact h
theorem lo_srt {α : Type} {f : α → List UInt8} {g : List UInt8} {l : List α} (h : Srt f l) : Srt f (loF f g l) := List.Pairwise.filter _ h
theorem hi_srt {α : Type} {f : α → List UInt8} {g : List UInt8} {l : List α} (h : Srt f l) : Srt f (hiF f g l) := List.Pairwise.filter _ h
theorem hi_gt {α : Type} {f : α → List UInt8} {g : List UInt8} {l : List α} {y : α} (h : y ∈ hiF f g l) : Op.bytesLess g (f y) = true := by
  have := (List.mem_filter.1 h).2
  simp only [Bool.not_eq_true', Bool.or_eq_false_iff] at this
  exact bl_tri this.1 (beq_eq_false_iff_ne.1 this.2)
theorem lo_lt {α : Type} {f : α → List UInt8} {g : List UInt8} {l : List α} {y : α} (h : y ∈ loF f g l) : Op.bytesLess (f y) g = true := (List.mem_filter.1 h).2
/-- One put among ascending ones. -/
theorem mid_srt {α : Type} {f : α → List UInt8} {g : List UInt8} {l : List α} {m : α} (h : Srt f l) (hm : f m = g) : Srt f (loF f g l ++ m :: hiF f g l) := by
  refine List.pairwise_append.2 ⟨lo_srt h, List.pairwise_cons.2 ⟨fun y hy => by rw [hm]; exact hi_gt hy, hi_srt h⟩, fun x hx y hy => ?_⟩
  rcases List.mem_cons.1 hy with rfl | hy
  · rw [hm]; exact lo_lt hx
  · exact bl_trans (lo_lt hx) (hi_gt hy)
/-- A text put into an ascending list. -/
def insT (l : List (List UInt8)) (x : List UInt8) : List (List UInt8) := loF id x l ++ x :: hiF id x l
theorem insT_srt {l : List (List UInt8)} (h : Srt id l) (x : List UInt8) : Srt id (insT l x) := mid_srt h rfl
theorem lohi_len {α : Type} (f : α → List UInt8) (g : List UInt8) : ∀ l : List α, (loF f g l).length + (hiF f g l).length ≤ l.length
  | [] => Nat.le_refl 0
  | y :: l => by
    have := lohi_len f g l
    have e1 : (loF f g (y :: l)).length = (loF f g l).length + (bif Op.bytesLess (f y) g then 1 else 0) := by
      unfold loF; rw [List.filter_cons]
      cases Op.bytesLess (f y) g <;> rfl
    have e2 : (hiF f g (y :: l)).length = (hiF f g l).length + (bif Op.bytesLess (f y) g || f y == g then 0 else 1) := by
      unfold hiF; rw [List.filter_cons]
      cases (Op.bytesLess (f y) g || f y == g) <;> rfl
    rw [e1, e2, List.length_cons]
    cases Op.bytesLess (f y) g <;> cases (f y == g) <;> simp only [cond_true, cond_false, Bool.or_true, Bool.or_false, Bool.false_or] <;> omega
theorem insT_len (l : List (List UInt8)) (x : List UInt8) : (insT l x).length ≤ l.length + 1 := by
  have := lohi_len id x l
  unfold insT
  rw [List.length_append, List.length_cons]; omega
theorem cmp_less (a b : List UInt8) : T_cmp_Less_string_ (a, b) = some (Op.bytesLess a b) := by
  rw [e_T_cmp_Less_string_, e_T_cmp_isNaN_string_]; simp
theorem l_BS {a : List (List UInt8)} {b : List UInt8} {L R : List (List UInt8)} (ha : a.length ≤ 1048576) (e : a = L ++ R) (h1 : ∀ x ∈ L, Op.bytesLess x b = true) (h2 : ∀ x ∈ R, Op.bytesLess x b = false) :
    ∀ (n i j : Nat), i ≤ L.length → L.length ≤ j → j ≤ a.length → j - i < n → L_slices_BinarySearch___string_string__1 n (a, b, (a.length : Int), (i : Int), (j : Int)) = some (.inl (a, b, (a.length : Int), (L.length : Int)))
  | n + 1, i, j, hi, hj, hja, hn => by
    rw [e_L_slices_BinarySearch___string_string__1]
    by_cases hij : i < j
    · have hm : IntKind.i64.wrap ((IntKind.u64.wrap (IntKind.i64.wrap ((i : Int) + (j : Int)))).fdiv (2 ^ 1)) = (((i + j) / 2 : Nat) : Int) := by
        rw [wrap_ok (n := (i : Int) + (j : Int)) (by omega) (by omega), show IntKind.u64.wrap ((i : Int) + (j : Int)) = (i : Int) + (j : Int) from by simp [IntKind.wrap, IntKind.bits, IntKind.signed]; omega]
        have : ((i : Int) + (j : Int)).fdiv (2 ^ 1) = (((i + j) / 2 : Nat) : Int) := by
          rw [Int.fdiv_eq_ediv_of_nonneg _ (by decide)]; omega
        rw [this, wrap_ok (by omega) (by omega)]
      have hlt : (i + j) / 2 < a.length := by omega
      simp only [hm, decide_eq_true (show (i : Int) < (j : Int) by omega), cond_true, Int.natCast_nonneg, if_true, Int.toNat_natCast, List.getElem?_eq_getElem hlt, Option.bind_some, cmp_less]
      by_cases hml : (i + j) / 2 < L.length
      · have hmem : a[(i + j) / 2] ∈ L := by
          have : a[(i + j) / 2] = L[(i + j) / 2] := by simp only [e, List.getElem_append_left hml]
          rw [this]; exact List.getElem_mem _
        simp only [h1 _ hmem, cond_true, wrap_ok (n := (((i + j) / 2 : Nat) : Int) + 1) (by omega) (by omega)]
        have := l_BS ha e h1 h2 n ((i + j) / 2 + 1) j (by omega) hj hja (by omega)
        rw [show (((i + j) / 2 + 1 : Nat) : Int) = (((i + j) / 2 : Nat) : Int) + 1 by omega] at this
        exact this
      · have hmem : a[(i + j) / 2] ∈ R := by
          have : a[(i + j) / 2] = R[(i + j) / 2 - L.length]'(by have := congrArg List.length e; rw [List.length_append] at this; omega) := by simp only [e, List.getElem_append_right (show L.length ≤ (i + j) / 2 by omega)]
          rw [this]; exact List.getElem_mem _
        simp only [h2 _ hmem, cond_false]
        exact l_BS ha e h1 h2 n i ((i + j) / 2) hi (by omega) (by omega) (by omega)
    · simp only [decide_eq_false (show ¬ (i : Int) < (j : Int) by omega), cond_false]
      rw [show i = L.length by omega]
theorem x_addTo {a : List (List UInt8)} (b : List UInt8) (ha : a.length ≤ 1048576) (hs : Srt id a) : T_impl_addTo (a, b) = some (insT a b) := by
  obtain ⟨L, R, e, h1, h2, h3⟩ := srt_split b hs
  have hlen : a.length = L.length + R.length := by rw [e, List.length_append]
  have hb := l_BS (a := a) (b := b) (by omega) e h1 h2 fuel 0 a.length (by omega) (by omega) (by omega) (by simp only [fuel]; omega)
  rw [show ((0 : Nat) : Int) = 0 from rfl] at hb
  have hlo : loF id b a = L := by rw [e]; exact lo_of h1 h2
  rw [e_T_impl_addTo, e_T_slices_BinarySearch___string_string_, hb]
  simp only [Option.bind_some, Sum.elim_inl]
  have hins : T_slices_Insert___string_string_ (a, (L.length : Int), [b]) = some (L ++ b :: R) := by
    rw [e_T_slices_Insert___string_string_, if_pos ⟨by omega, by omega, by simp, by simp; omega, by simp; omega⟩]
    rw [Int.toNat_natCast, e, List.take_left, List.drop_left, List.append_assoc]; rfl
  cases R with
  | nil =>
    rw [List.append_nil] at e
    have hhi : hiF id b a = [] := by
      have := hi_of (f := id) (g := b) (L := L) (R := []) h1 (by simp)
      rwa [List.append_nil, ← e] at this
    simp only [decide_eq_false (show ¬ ((L.length : Nat) : Int) < (a.length : Int) by rw [hlen]; simp), cond_false, Option.bind_some, hins]
    unfold insT; rw [hlo, hhi]
  | cons y R =>
    have hy : a[L.length]? = some y := by rw [e]; simp
    simp only [decide_eq_true (show ((L.length : Nat) : Int) < (a.length : Int) by rw [hlen, List.length_cons]; omega), cond_true, Int.natCast_nonneg, if_true, Int.toNat_natCast, hy, Option.bind_some]
    by_cases hyb : y = b
    · subst hyb
      have hhi : hiF id y a = R := by rw [e]; exact hi_of' h1 rfl (h3 _ _ rfl)
      rw [show (y == y) = true from beq_self_eq_true y]
      simp only [cond_true, Option.bind_some]
      unfold insT; rw [hlo, hhi, ← e]
    · have hhi : hiF id b a = y :: R := by
        rw [e]; exact hi_of h1 (fun x hx => by
          rcases List.mem_cons.1 hx with rfl | hx
          · exact bl_tri (h2 _ List.mem_cons_self) hyb
          · exact h3 _ _ rfl x hx)
      rw [show (y == b) = false from beq_eq_false_iff_ne.2 hyb, e_T_slices_isNaN_string_]
      simp only [cond_false, beq_self_eq_true, Bool.not_true, Option.bind_some, hins]
      unfold insT; rw [hlo, hhi]
end Xs
end Go.Proofs.YtainknkfjekngaaDoor
