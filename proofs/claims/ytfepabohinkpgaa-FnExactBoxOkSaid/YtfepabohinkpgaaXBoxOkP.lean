/- What a box's question answers, by the reference and by the program: the same. -/
import Derived.Test.YtfepabohinkpgaaT9
import Derived.Test.YtfepabohinkpgaaXBoxOkE
namespace Go.Proofs.Ytfepabohinkpgaa
open Go Vm
set_option linter.unusedVariables false
set_option linter.unusedSimpArgs false
namespace Xs
theorem z_szStringS : SzOk (.sl false .str) T_laws_szStringS :=
  sz_sl (e := .str) (fun y b => some (IntKind.i64.wrap (b - (y.length : Int)))) e_T_laws_szStringS e_L_laws_szStringS_1 sz_str
theorem c_toStringS {a : List (List UInt8)} (h : (ET.sl false .str).small a) : T_laws_toStringS a = some a := by
  have h1 : a.length ≤ 1048576 := h.1
  refine to_sl (L := L_laws_toStringS_1) [] h1 ?_ (fun n b i y hy hi => ?_) (fun n b => ?_)
  · rw [e_T_laws_toStringS, if_pos ⟨by omega, rfl, by omega, by omega⟩]; rfl
  · have hlt := (List.getElem?_eq_some_iff.1 hy).1
    rw [e_L_laws_toStringS_1]
    simp only [show ((i : Int) < (a.length : Int)) by omega, decide_true, cond_true, Int.natCast_nonneg, if_true, Int.toNat_natCast, hy, Option.bind_some, hi, List.getElem?_eq_getElem hi]
    rw [wrap_ok (by omega) (by omega)]
  · rw [e_L_laws_toStringS_1]; simp
theorem q_eqStringS {a : List (List UInt8)} (h : a.length ≤ maxLen) : T_laws_eqStringS (a, a) = some true := by
  rw [e_T_laws_eqStringS, eq_sl (L := L_laws_eqStringS_1) h (fun n i y hy => ?_) (fun n => ?_)]
  · simp
  · have hlt := (List.getElem?_eq_some_iff.1 hy).1
    rw [maxLen_eq] at h
    rw [e_L_laws_eqStringS_1]
    simp only [show ((i : Int) < (a.length : Int)) by omega, decide_true, cond_true, Int.natCast_nonneg, if_true, Int.toNat_natCast, hy, Option.bind_some, beq_self_eq_true, Bool.not_true, cond_false]
    rw [wrap_ok (by omega) (by omega)]
  · rw [e_L_laws_eqStringS_1]; simp
theorem z_szBox : SzOk (.pair .str (.pair (.sl false .str) .bool)) T_laws_szBox := by
  rintro ⟨a, b, c⟩ n ⟨h1, h2, h3⟩ h0 hn
  rw [e_T_laws_szBox]
  refine Sz.str h1 h0 hn (Int.le_refl _) fun p1 w1 s1 => ?_
  rw [w1]
  refine Sz.call z_szStringS h2 (by omega) (by omega) (by omega) fun r1 p2 q2 s2 => ?_
  exact Sz.fin (by omega) ⟨s1, s2, trivial⟩
theorem c_toBox {x : List UInt8 × List (List UInt8) × Bool} (h : (ET.pair .str (.pair (.sl false .str) .bool)).small x) : T_laws_toBox x = some x := by
  obtain ⟨a, b, c⟩ := x
  obtain ⟨h1, h2, h3⟩ := h
  simp only [e_T_laws_toBox, c_toStringS h2, Option.bind_some]
theorem q_eqBox {x : List UInt8 × List (List UInt8) × Bool} (h : (ET.pair .str (.pair (.sl false .str) .bool)).small x) : T_laws_eqBox (x, x) = some true := by
  obtain ⟨a, b, c⟩ := x
  obtain ⟨h1, h2, h3⟩ := h
  simp only [e_T_laws_eqBox, q_eqStringS (Nat.le_trans h2.1 (by decide)), Option.bind_some, beq_self_eq_true, Bool.not_true, cond_false]
theorem x_inRange (a b c : Int) : T_spec_l01In (a, b, c) = some (decide (b ≤ a ∧ a ≤ c)) ∧ T_impl_inRange (a, b, c) = some (decide (b ≤ a ∧ a ≤ c)) := by
  rw [e_T_spec_l01In, e_T_impl_inRange]
  by_cases h : b ≤ a <;> simp [h]
/-- A name's step, as the reference has it. -/
def nameS (i : Nat) (y : UInt8) (_ : Unit) : Option (Unit ⊕ Bool) :=
  some (if (97 ≤ (y.toNat : Int) ∧ (y.toNat : Int) ≤ 122) ∨ (¬ i = 0 ∧ 48 ≤ (y.toNat : Int) ∧ (y.toNat : Int) ≤ 57) then .inl () else .inr false)
theorem getD_of {a : List UInt8} {i : Nat} {y : UInt8} (h : a[i]? = some y) (d : UInt8) : a.getD i d = y := by simp [List.getD_eq_getElem?_getD, h]
theorem w1 : IntKind.i64.wrap 1 = 1 := by decide +kernel
theorem l_implName {a : List UInt8} (h : a.length ≤ maxLen) : L_impl_NameOk_1 fuel (a, 0) = (each nameS 0 a ()).bind (Sum.elim (fun _ => some (.inl a)) fun r => some (.inr r)) := by
  refine each_loop (L := L_impl_NameOk_1) a (fun (_ : Unit) c => (a, c)) (fun _ => a) nameS (fun n s i y hy => ?_) (fun n s => ?_) h ()
  · have hlt := (List.getElem?_eq_some_iff.1 hy).1
    rw [maxLen_eq] at h
    rw [e_L_impl_NameOk_1]
    simp only [show ((i : Int) < (a.length : Int)) by omega, decide_true, cond_true, Int.natCast_nonneg, if_true, Int.toNat_natCast, getD_of hy, wrap_ok (n := (i : Int) + 1) (by omega) (by omega), nameS, ← Int.not_le, decide_not]
    have i0 : ¬ i = 0 → ((i : Int) == 0) = false := fun h => by simp [h]
    by_cases h1 : (97 : Int) ≤ y.toNat <;> by_cases h2 : (y.toNat : Int) ≤ 122 <;> by_cases h3 : i = 0 <;> by_cases h4 : (48 : Int) ≤ y.toNat <;> by_cases h5 : (y.toNat : Int) ≤ 57 <;> simp [h1, h2, h3, h4, h5, (List.getElem?_eq_some_iff.1 hy).2, hlt, Nat.not_le.2 hlt, wrap_ok (n := (i : Int) + 1) (by omega) (by omega), w1, i0, -Int.not_le]
  · rw [e_L_impl_NameOk_1]; simp
theorem l_specName {a : List UInt8} (h : a.length ≤ maxLen) (h0 : ∃ y, a[0]? = some y ∧ (97 : Int) ≤ y.toNat ∧ (y.toNat : Int) ≤ 122) : L_spec_NameOk_1 fuel (a, 0) = (each nameS 0 a ()).bind (Sum.elim (fun _ => some (.inl ())) fun r => some (.inr r)) := by
  refine each_loop (L := L_spec_NameOk_1) a (fun (_ : Unit) c => (a, c)) (fun _ => ()) nameS (fun n s i y hy => ?_) (fun n s => ?_) h ()
  · have hlt := (List.getElem?_eq_some_iff.1 hy).1
    rw [maxLen_eq] at h
    rw [e_L_spec_NameOk_1]
    simp only [show ((i : Int) < (a.length : Int)) by omega, decide_true, cond_true, Int.natCast_nonneg, if_true, Int.toNat_natCast, getD_of hy, wrap_ok (n := (i : Int) + 1) (by omega) (by omega), nameS, ← Int.not_le, decide_not]
    by_cases h3 : i = 0
    · subst h3
      obtain ⟨z, hz, h1, h2⟩ := h0
      rw [hy] at hz; cases hz
      simp [h1, h2, (List.getElem?_eq_some_iff.1 hy).2, w1, hlt, -Int.not_le]
    · have i0 : ((i : Int) == 0) = false := by simp [h3]
      by_cases h1 : (97 : Int) ≤ y.toNat <;> by_cases h2 : (y.toNat : Int) ≤ 122 <;> by_cases h4 : (48 : Int) ≤ y.toNat <;> by_cases h5 : (y.toNat : Int) ≤ 57 <;> simp [h1, h2, h3, h4, h5, (List.getElem?_eq_some_iff.1 hy).2, hlt, Nat.not_le.2 hlt, wrap_ok (n := (i : Int) + 1) (by omega) (by omega), w1, i0, -Int.not_le]
  · rw [e_L_spec_NameOk_1]; simp
theorem each_name (l : List UInt8) (i : Nat) : each nameS i l () = some (.inl ()) ∨ each nameS i l () = some (.inr false) := by
  induction l generalizing i with
  | nil => exact .inl rfl
  | cons y l ih =>
    simp only [each, nameS]
    split
    · exact ih (i + 1)
    · exact .inr rfl
theorem x_NameOk {a : List UInt8} (h : a.length ≤ maxLen) : ∃ b, T_spec_NameOk a = some b ∧ T_impl_NameOk a = some b := by
  rw [e_T_spec_NameOk, e_T_impl_NameOk, l_implName h]
  simp only [(x_inRange _ _ _).1, Option.bind_some]
  by_cases hr : (1 : Int) ≤ a.length ∧ (a.length : Int) ≤ 12
  · obtain ⟨y, hy⟩ : ∃ y, a[0]? = some y := ⟨a[0]'(by omega), List.getElem?_eq_getElem (by omega)⟩
    simp only [hr, and_self, decide_true, Bool.not_true, cond_false, show (0 : Int) < a.length by omega, if_true, getD_of hy]
    by_cases h0 : (97 : Int) ≤ y.toNat ∧ (y.toNat : Int) ≤ 122
    · rw [show decide ((y.toNat : Int) < 97) = false by simp; omega, show decide (122 < (y.toNat : Int)) = false by simp; omega]
      simp only [cond_false, Option.bind_some, Sum.elim_inl, l_specName h ⟨y, hy, h0⟩]
      rcases each_name a 0 with h1 | h1 <;> rw [h1] <;> simp [(x_inRange _ _ _).2, hr]
    · have h1 : each nameS 0 a () = some (.inr false) := by
        match a, hy with
        | z :: l, hy =>
          simp at hy; subst hy
          simp [each, nameS, h0]
      rw [h1]
      refine ⟨false, ?_, rfl⟩
      by_cases h2 : (y.toNat : Int) < 97
      · simp [h2]
      · have h3 : (122 : Int) < y.toNat := by omega
        simp [h2, h3]
  · refine ⟨false, by simp [hr], ?_⟩
    rcases each_name a 0 with h1 | h1 <;> rw [h1] <;> simp only [(x_inRange _ _ _).2, hr, Option.bind_some, Sum.elim_inl, Sum.elim_inr, decide_false]
def shortS (i : Nat) (y : List UInt8) (_ : Unit) : Option (Unit ⊕ Bool) := some (bif decide (60 < (y.length : Int)) then .inr false else .inl ())
theorem each_short (l : List (List UInt8)) (i : Nat) : each shortS i l () = some (.inl ()) ∨ each shortS i l () = some (.inr false) := by
  induction l generalizing i with
  | nil => exact .inl rfl
  | cons y l ih =>
    simp only [each, shortS]
    cases decide (60 < (y.length : Int))
    · exact ih (i + 1)
    · exact .inr rfl
theorem l_short {a : List (List UInt8)} (h : a.length ≤ maxLen) : L_impl_areShort_1 fuel (a, (a.length : Int), 0) = each shortS 0 a () := by
  rw [each_loop (L := L_impl_areShort_1) a (fun (_ : Unit) c => (a, (a.length : Int), c)) (fun _ => ()) shortS (fun n s i y hy => ?_) (fun n s => ?_) h ()]
  · rcases each_short a 0 with h1 | h1 <;> rw [h1] <;> rfl
  · have hlt := (List.getElem?_eq_some_iff.1 hy).1
    rw [maxLen_eq] at h
    rw [e_L_impl_areShort_1]
    simp only [show ((i : Int) < (a.length : Int)) by omega, decide_true, cond_true, Int.natCast_nonneg, if_true, Int.toNat_natCast, hy, Option.bind_some, wrap_ok (n := (i : Int) + 1) (by omega) (by omega), shortS]
    cases decide (60 < (y.length : Int)) <;> rfl
  · rw [e_L_impl_areShort_1]; simp
theorem l_boxes {a : List (List UInt8)} {s : List UInt8} {o : Bool} (h : a.length ≤ maxLen) : L_spec_BoxOk_1 fuel ((s, a, o), 0) = each shortS 0 a () := by
  rw [each_loop (L := L_spec_BoxOk_1) a (fun (_ : Unit) c => ((s, a, o), c)) (fun _ => ()) shortS (fun n t i y hy => ?_) (fun n s => ?_) h ()]
  · rcases each_short a 0 with h1 | h1 <;> rw [h1] <;> rfl
  · have hlt := (List.getElem?_eq_some_iff.1 hy).1
    rw [maxLen_eq] at h
    rw [e_L_spec_BoxOk_1]
    simp only [show ((i : Int) < (a.length : Int)) by omega, decide_true, cond_true, Int.natCast_nonneg, if_true, Int.toNat_natCast, hy, Option.bind_some, wrap_ok (n := (i : Int) + 1) (by omega) (by omega), shortS]
    cases decide (60 < (y.length : Int)) <;> rfl
  · rw [e_L_spec_BoxOk_1]; simp
theorem small_len {s : List UInt8} (h : ET.str.small s) : s.length ≤ maxLen := Nat.le_trans h (by decide)
theorem smallL_len {e : ET} {o : Bool} {s : List e.den} (h : (ET.sl o e).small s) : s.length ≤ maxLen := Nat.le_trans h.1 (by decide)
theorem x_BoxOk {x : List UInt8 × List (List UInt8) × Bool} (h : (ET.pair .str (.pair (.sl false .str) .bool)).small x) : ∃ v, T_spec_BoxOk x = some v ∧ T_impl_BoxOk x = some v := by
  obtain ⟨a, b, c⟩ := x
  obtain ⟨h1, h2, h3⟩ := h
  obtain ⟨v, h4, h5⟩ := x_NameOk (small_len h1)
  rw [e_T_spec_BoxOk, e_T_impl_BoxOk, h4, h5, e_T_impl_areShort, l_short (smallL_len h2)]
  simp only [Option.bind_some, ← Int.not_le, decide_not]
  rcases each_short b 0 with h6 | h6 <;> rw [h6] <;> cases v <;> cases c <;> by_cases h7 : (b.length : Int) ≤ 5 <;> by_cases h8 : (b.length : Int) ≤ 0 <;>
    simp [h7, h8, l_boxes (smallL_len h2), h6, -Int.not_le] <;>
    (cases decide (b = []) <;> rfl)
theorem law_FnExactBoxOk (x : List UInt8 × List (List UInt8) × Bool) (h : (ET.pair .str (.pair (.sl false .str) .bool)).ok x) : T_laws_FnExactBoxOk x = some true := by
  obtain ⟨r, h1, h2, h3⟩ := z_szBox x 1048576 h (by decide) (by decide)
  obtain ⟨a, b, c⟩ := x
  rw [e_T_laws_FnExactBoxOk, h1]
  simp only [Option.bind_some]
  by_cases hr : r < 0
  · simp [hr]
  · have hs := h3 (by omega)
    obtain ⟨v, h4, h5⟩ := x_BoxOk hs
    simp only [hr, decide_false, cond_false, c_toBox hs, Option.bind_some, h4, h5, q_eqBox hs, beq_self_eq_true, Bool.not_true]
end Xs
end Go.Proofs.Ytfepabohinkpgaa
