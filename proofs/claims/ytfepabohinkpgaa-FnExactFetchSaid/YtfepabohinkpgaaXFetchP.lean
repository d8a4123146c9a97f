/- What the reference's function answers, and the program's: the same. -/
import Derived.Test.YtfepabohinkpgaaT9
import Derived.Test.YtfepabohinkpgaaXFetchE
namespace Go.Proofs.Ytfepabohinkpgaa
open Go Vm
set_option linter.unusedVariables false
set_option linter.unusedSimpArgs false
namespace Xs
theorem z_szStringS : SzOk (.sl false .str) T_laws_szStringS :=
  sz_sl (e := .str) (fun y b => some (IntKind.i64.wrap (b - (y.length : Int)))) e_T_laws_szStringS e_L_laws_szStringS_1 sz_str
theorem z_szBox : SzOk (.pair .str (.pair (.sl false .str) .bool)) T_laws_szBox := by
  rintro ⟨a, b, c⟩ n ⟨h_a, h_b, h_c⟩ h0 hn
  rw [e_T_laws_szBox]
  refine Sz.str h_a (by omega) (by omega) (by omega) fun p1 w1 s_a => ?_
  try rw [w1]
  refine Sz.call z_szStringS h_b (by omega) (by omega) (by omega) fun r2 p2 q2 s2 => ?_
  exact Sz.fin (by omega) ⟨s_a, s2, trivial⟩
theorem c_toStringS {a : (ET.sl false (.str)).den} (h : (ET.sl false (.str)).small a) : T_laws_toStringS a = some a := by
  have h1 : a.length ≤ 1048576 := h.1
  refine to_sl (L := L_laws_toStringS_1) [] h1 ?_ (fun n b i y hy hi => ?_) (fun n b => ?_)
  · rw [e_T_laws_toStringS, if_pos ⟨by omega, rfl, by omega, by omega⟩]; rfl
  · have hlt := (List.getElem?_eq_some_iff.1 hy).1
    rw [e_L_laws_toStringS_1]
    simp only [show ((i : Int) < (a.length : Int)) by omega, decide_true, cond_true, Int.natCast_nonneg, if_true, Int.toNat_natCast, hy, Option.bind_some, hi, List.getElem?_eq_getElem hi]
    rw [wrap_ok (by omega) (by omega)]
  · rw [e_L_laws_toStringS_1]; simp
theorem c_toBox {x : (ET.pair .str (.pair (.sl false .str) .bool)).den} (h : (ET.pair .str (.pair (.sl false .str) .bool)).small x) : T_laws_toBox x = some x := by
  obtain ⟨a, b, c⟩ := x
  obtain ⟨h_a, h_b, h_c⟩ := h
  simp only [e_T_laws_toBox, c_toStringS h_b, Option.bind_some]
theorem q_eqStringS {a : (ET.sl false (.str)).den} (h : (ET.sl false (.str)).small a) : T_laws_eqStringS (a, a) = some true := by
  have h1 : a.length ≤ 1048576 := h.1
  rw [e_T_laws_eqStringS, eq_sl (L := L_laws_eqStringS_1) (Nat.le_trans h1 (by decide)) (fun n i y hy => ?_) (fun n => ?_)]
  · simp
  · have hlt := (List.getElem?_eq_some_iff.1 hy).1
    rw [e_L_laws_eqStringS_1]
    simp only [show ((i : Int) < (a.length : Int)) by omega, decide_true, cond_true, Int.natCast_nonneg, if_true, Int.toNat_natCast, hy, Option.bind_some, beq_self_eq_true, Bool.not_true, cond_false]
    rw [wrap_ok (by omega) (by omega)]
  · rw [e_L_laws_eqStringS_1]; simp
theorem q_eqBox {x : (ET.pair .str (.pair (.sl false .str) .bool)).den} (h : (ET.pair .str (.pair (.sl false .str) .bool)).small x) : T_laws_eqBox (x, x) = some true := by
  obtain ⟨a, b, c⟩ := x
  obtain ⟨h_a, h_b, h_c⟩ := h
  simp only [e_T_laws_eqBox, q_eqStringS h_b, Option.bind_some, beq_self_eq_true, Bool.not_true, cond_false]
theorem small_len {s : List UInt8} (h : ET.str.small s) : s.length ≤ maxLen := Nat.le_trans h (by decide)
theorem smallL_len {e : ET} {o : Bool} {s : List e.den} (h : (ET.sl o e).small s) : s.length ≤ maxLen := Nat.le_trans h.1 (by decide)
theorem x_inRange (a b c : Int) : T_spec_l01In (a, b, c) = some (decide (b ≤ a ∧ a ≤ c)) ∧ T_impl_inRange (a, b, c) = some (decide (b ≤ a ∧ a ≤ c)) := by
  rw [e_T_spec_l01In, e_T_impl_inRange]
  by_cases h : b ≤ a <;> simp [h]
/-- A name's step, as the reference has it. -/
def nameS (i : Nat) (y : UInt8) (_ : Unit) : Option (Unit ⊕ Bool) :=
  some (if (97 ≤ (y.toNat : Int) ∧ (y.toNat : Int) ≤ 122) ∨ (¬ i = 0 ∧ 48 ≤ (y.toNat : Int) ∧ (y.toNat : Int) ≤ 57) then .inl () else .inr false)
theorem getD_of {a : List UInt8} {i : Nat} {y : UInt8} (h : a[i]? = some y) (d : UInt8) : a.getD i d = y := by simp [List.getD_eq_getElem?_getD, h]
theorem w1 : IntKind.i64.wrap 1 = 1 := by decide +kernel
theorem l_implName {a : List UInt8} (h : a.length ≤ maxLen) : L_impl_NameOk_1 fuel (a, 0) = (each nameS 0 a ()).bind (Sum.elim (fun _ => some (.inl a)) fun r => some (.inr r)) := by
  refine each_loop (L := L_impl_NameOk_1) a (fun (_ : Unit) c => (a, c)) (fun _ => a) nameS (fun n s i y hy => ?_) (fun n s => ?_) h ()
  · have hlt := (List.getElem?_eq_some_iff.1 hy).1
    rw [maxLen_eq] at h
    rw [e_L_impl_NameOk_1]
    simp only [show ((i : Int) < (a.length : Int)) by omega, decide_true, cond_true, Int.natCast_nonneg, if_true, Int.toNat_natCast, getD_of hy, wrap_ok (n := (i : Int) + 1) (by omega) (by omega), nameS, ← Int.not_le, decide_not]
    have i0 : ¬ i = 0 → ((i : Int) == 0) = false := fun h => by simp [h]
    by_cases h1 : (97 : Int) ≤ y.toNat <;> by_cases h2 : (y.toNat : Int) ≤ 122 <;> by_cases h3 : i = 0 <;> by_cases h4 : (48 : Int) ≤ y.toNat <;> by_cases h5 : (y.toNat : Int) ≤ 57 <;> simp [h1, h2, h3, h4, h5, (List.getElem?_eq_some_iff.1 hy).2, hlt, Nat.not_le.2 hlt, wrap_ok (n := (i : Int) + 1) (by omega) (by omega), w1, i0, -Int.not_le]
  · rw [e_L_impl_NameOk_1]; simp
theorem l_specName {a : List UInt8} (h : a.length ≤ maxLen) (h0 : ∃ y, a[0]? = some y ∧ (97 : Int) ≤ y.toNat ∧ (y.toNat : Int) ≤ 122) : L_spec_NameOk_1 fuel (a, 0) = (each nameS 0 a ()).bind (Sum.elim (fun _ => some (.inl ())) fun r => some (.inr r)) := by
  refine each_loop (L := L_spec_NameOk_1) a (fun (_ : Unit) c => (a, c)) (fun _ => ()) nameS (fun n s i y hy => ?_) (fun n s => ?_) h ()
  · have hlt := (List.getElem?_eq_some_iff.1 hy).1
    rw [maxLen_eq] at h
    rw [e_L_spec_NameOk_1]
    simp only [show ((i : Int) < (a.length : Int)) by omega, decide_true, cond_true, Int.natCast_nonneg, if_true, Int.toNat_natCast, getD_of hy, wrap_ok (n := (i : Int) + 1) (by omega) (by omega), nameS, ← Int.not_le, decide_not]
    by_cases h3 : i = 0
    · subst h3
      obtain ⟨z, hz, h1, h2⟩ := h0
      rw [hy] at hz; cases hz
      simp [h1, h2, (List.getElem?_eq_some_iff.1 hy).2, w1, hlt, -Int.not_le]
    · have i0 : ((i : Int) == 0) = false := by simp [h3]
      by_cases h1 : (97 : Int) ≤ y.toNat <;> by_cases h2 : (y.toNat : Int) ≤ 122 <;> by_cases h4 : (48 : Int) ≤ y.toNat <;> by_cases h5 : (y.toNat : Int) ≤ 57 <;> simp [h1, h2, h3, h4, h5, (List.getElem?_eq_some_iff.1 hy).2, hlt, Nat.not_le.2 hlt, wrap_ok (n := (i : Int) + 1) (by omega) (by omega), w1, i0, -Int.not_le]
  · rw [e_L_spec_NameOk_1]; simp
theorem each_name (l : List UInt8) (i : Nat) : each nameS i l () = some (.inl ()) ∨ each nameS i l () = some (.inr false) := by
  induction l generalizing i with
  | nil => exact .inl rfl
  | cons y l ih =>
    simp only [each, nameS]
    split
    · exact ih (i + 1)
    · exact .inr rfl
theorem x_NameOk {a : List UInt8} (h : a.length ≤ maxLen) : ∃ b, T_spec_NameOk a = some b ∧ T_impl_NameOk a = some b := by
  rw [e_T_spec_NameOk, e_T_impl_NameOk, l_implName h]
  simp only [(x_inRange _ _ _).1, Option.bind_some]
  by_cases hr : (1 : Int) ≤ a.length ∧ (a.length : Int) ≤ 12
  · obtain ⟨y, hy⟩ : ∃ y, a[0]? = some y := ⟨a[0]'(by omega), List.getElem?_eq_getElem (by omega)⟩
    simp only [hr, and_self, decide_true, Bool.not_true, cond_false, show (0 : Int) < a.length by omega, if_true, getD_of hy]
    by_cases h0 : (97 : Int) ≤ y.toNat ∧ (y.toNat : Int) ≤ 122
    · rw [show decide ((y.toNat : Int) < 97) = false by simp; omega, show decide (122 < (y.toNat : Int)) = false by simp; omega]
      simp only [cond_false, Option.bind_some, Sum.elim_inl, l_specName h ⟨y, hy, h0⟩]
      rcases each_name a 0 with h1 | h1 <;> rw [h1] <;> simp [(x_inRange _ _ _).2, hr]
    · have h1 : each nameS 0 a () = some (.inr false) := by
        match a, hy with
        | z :: l, hy =>
          simp at hy; subst hy
          simp [each, nameS, h0]
      rw [h1]
      refine ⟨false, ?_, rfl⟩
      by_cases h2 : (y.toNat : Int) < 97
      · simp [h2]
      · have h3 : (122 : Int) < y.toNat := by omega
        simp [h2, h3]
  · refine ⟨false, by simp [hr], ?_⟩
    rcases each_name a 0 with h1 | h1 <;> rw [h1] <;> simp only [(x_inRange _ _ _).2, hr, Option.bind_some, Sum.elim_inl, Sum.elim_inr, decide_false]
def shortS (i : Nat) (y : List UInt8) (_ : Unit) : Option (Unit ⊕ Bool) := some (bif decide (60 < (y.length : Int)) then .inr false else .inl ())
theorem each_short (l : List (List UInt8)) (i : Nat) : each shortS i l () = some (.inl ()) ∨ each shortS i l () = some (.inr false) := by
  induction l generalizing i with
  | nil => exact .inl rfl
  | cons y l ih =>
    simp only [each, shortS]
    cases decide (60 < (y.length : Int))
    · exact ih (i + 1)
    · exact .inr rfl
theorem l_short {a : List (List UInt8)} (h : a.length ≤ maxLen) : L_impl_areShort_1 fuel (a, (a.length : Int), 0) = each shortS 0 a () := by
  rw [each_loop (L := L_impl_areShort_1) a (fun (_ : Unit) c => (a, (a.length : Int), c)) (fun _ => ()) shortS (fun n s i y hy => ?_) (fun n s => ?_) h ()]
  · rcases each_short a 0 with h1 | h1 <;> rw [h1] <;> rfl
  · have hlt := (List.getElem?_eq_some_iff.1 hy).1
    rw [maxLen_eq] at h
    rw [e_L_impl_areShort_1]
    simp only [show ((i : Int) < (a.length : Int)) by omega, decide_true, cond_true, Int.natCast_nonneg, if_true, Int.toNat_natCast, hy, Option.bind_some, wrap_ok (n := (i : Int) + 1) (by omega) (by omega), shortS]
    cases decide (60 < (y.length : Int)) <;> rfl
  · rw [e_L_impl_areShort_1]; simp
theorem l_boxes {a : List (List UInt8)} {s : List UInt8} {o : Bool} (h : a.length ≤ maxLen) : L_spec_BoxOk_1 fuel ((s, a, o), 0) = each shortS 0 a () := by
  rw [each_loop (L := L_spec_BoxOk_1) a (fun (_ : Unit) c => ((s, a, o), c)) (fun _ => ()) shortS (fun n t i y hy => ?_) (fun n s => ?_) h ()]
  · rcases each_short a 0 with h1 | h1 <;> rw [h1] <;> rfl
  · have hlt := (List.getElem?_eq_some_iff.1 hy).1
    rw [maxLen_eq] at h
    rw [e_L_spec_BoxOk_1]
    simp only [show ((i : Int) < (a.length : Int)) by omega, decide_true, cond_true, Int.natCast_nonneg, if_true, Int.toNat_natCast, hy, Option.bind_some, wrap_ok (n := (i : Int) + 1) (by omega) (by omega), shortS]
    cases decide (60 < (y.length : Int)) <;> rfl
  · rw [e_L_spec_BoxOk_1]; simp
theorem x_BoxOk {x : List UInt8 × List (List UInt8) × Bool} (h : (ET.pair .str (.pair (.sl false .str) .bool)).small x) : ∃ v, T_spec_BoxOk x = some v ∧ T_impl_BoxOk x = some v := by
  obtain ⟨a, b, c⟩ := x
  obtain ⟨h1, h2, h3⟩ := h
  obtain ⟨v, h4, h5⟩ := x_NameOk (small_len h1)
  rw [e_T_spec_BoxOk, e_T_impl_BoxOk, h4, h5, e_T_impl_areShort, l_short (smallL_len h2)]
  simp only [Option.bind_some, ← Int.not_le, decide_not]
  rcases each_short b 0 with h6 | h6 <;> rw [h6] <;> cases v <;> cases c <;> by_cases h7 : (b.length : Int) ≤ 5 <;> by_cases h8 : (b.length : Int) ≤ 0 <;>
    simp [h7, h8, l_boxes (smallL_len h2), h6, -Int.not_le] <;>
    (cases decide (b = []) <;> rfl)
theorem x_markTextL : ∀ (m n : Nat) (a : Int) (b : List UInt8), m < n → a < 10 ^ m → a ≤ 9223372036854775807 → b.length + m ≤ 1000 → ∃ s, L_laws_markText_1 n (a, b) = some (.inl s) ∧ s.length ≤ 1000
  | 0, n, a, b, hn, ha, hb, hl => by
    obtain ⟨n, rfl⟩ : ∃ j, n = j + 1 := ⟨n - 1, by omega⟩
    rw [e_L_laws_markText_1, decide_eq_false (by simp at ha; omega)]
    exact ⟨b, rfl, by omega⟩
  | m + 1, n, a, b, hn, ha, hb, hl => by
    obtain ⟨n, rfl⟩ : ∃ j, n = j + 1 := ⟨n - 1, by omega⟩
    rw [e_L_laws_markText_1]
    by_cases h0 : 0 < a
    · rw [decide_eq_true h0, cond_true, if_neg (by simp only [List.length_map, List.length_cons, List.length_nil]; omega)]
      have h1 : a.tdiv 10 = a / 10 := Int.tdiv_eq_ediv_of_nonneg (by omega)
      rw [Int.pow_succ] at ha
      rw [h1, wrap_ok (by omega) (by omega)]
      exact x_markTextL m n (a / 10) _ (by omega) (by omega) (by omega) (by simp only [List.length_append, List.length_map, List.length_cons, List.length_nil]; omega)
    · rw [decide_eq_false h0]
      exact ⟨b, rfl, by omega⟩
theorem x_markText (k : Int) (h : k ≤ 9223372036854775807) : ∃ s, T_laws_markText k = some s := by
  rw [e_T_laws_markText]
  by_cases h0 : k ≤ 0
  · rw [decide_eq_true h0]; exact ⟨_, rfl⟩
  · rw [decide_eq_false h0, cond_false]
    obtain ⟨s, h1, h2⟩ := x_markTextL 19 fuel k [] (by decide) (by have : (10 : Int) ^ 19 = 10000000000000000000 := rfl; omega) h (by simp)
    rw [h1]
    simp only [Option.bind_some, Sum.elim_inl]
    rw [if_neg (by omega)]
    exact ⟨_, rfl⟩
theorem mk_markStringS : MkOk (.sl true .str) T_laws_markStringS (fun y k k' => T_laws_heldStringS (y, k) = some k') := by
  refine MkOk.mono (mk_sl (e := .str) (L := L_laws_markStringS_1) (Q := (fun y b b' => ∀ n a (i : Nat), a[i]? = some y → i ≤ 1048576 → L_laws_heldStringS_1 (n + 1) (a, b, (i : Int)) = L_laws_heldStringS_1 n (a, b', (i : Int) + 1))) e_T_laws_markStringS (fun a b i v1 hy h_v1 h0 hW hi => ?_) (fun n a b => by rw [e_L_laws_markStringS_1]; simp)) (fun l k k' hh => ?_)
  · have hlt := (List.getElem?_eq_some_iff.1 hy).1
    simp only [ET.W] at hW ⊢
    obtain ⟨s1, t1⟩ := x_markText (b) (by omega)
    have w2 : IntKind.i64.wrap (b + 1) = b + 1 := wrap_ok (by omega) (by omega)
    refine ⟨b + 1, s1, fun n => ?_, fun n a i hy hi => ?_, by omega, by omega⟩
    · rw [e_L_laws_markStringS_1]
      simp only [show ((i : Int) < (a.length : Int)) by omega, decide_true, cond_true, Int.natCast_nonneg, if_true, Int.toNat_natCast, hlt, List.length_set, hy, Option.bind_some, List.getElem?_set_self, List.set_set, eq_self, t1, w2]
      rw [wrap_ok (by omega) (by omega)]
    · rw [e_L_laws_heldStringS_1]
      have hlt := (List.getElem?_eq_some_iff.1 hy).1
      simp only [show ((i : Int) < (a.length : Int)) by omega, decide_true, cond_true, Int.natCast_nonneg, if_true, Int.toNat_natCast, hy, Option.bind_some, beq_self_eq_true, Bool.not_true, cond_false, t1, w2]
      rw [wrap_ok (by omega) (by omega)]
  · exact hd_sl (L := L_laws_heldStringS_1) e_T_laws_heldStringS (fun a b b' i y hy hq hi n => hq n a i hy hi) (fun n a b => by rw [e_L_laws_heldStringS_1]; simp) hh.1 hh.2
theorem mk_markBox : MkOk (.pair .str (.pair (.sl true .str) .bool)) T_laws_markBox (fun y k k' => T_laws_heldBox (y, k) = some k') := by
  rintro ⟨v1, ⟨v2, v3⟩⟩ b ⟨h_v1, ⟨h_v2, h_v3⟩⟩ h0 hW
  simp only [ET.W] at hW ⊢
  obtain ⟨k1, z1, m1, q1, l1, u1⟩ := mk_markStringS v2 (b) h_v2 (by omega) (by simp only [ET.W]; omega)
  simp only [ET.W] at u1
  have n1 : decide (k1 < 0) = false := decide_eq_false (by omega)
  refine ⟨k1, (v1, (z1, v3)), ?_, ?_, by omega, by omega⟩
  · rw [e_T_laws_markBox]
    simp only [Option.bind_some, m1]
  · rw [e_T_laws_heldBox]
    simp only [Option.bind_some, cond_false, q1, n1]
theorem x_CloneS {a : List (List UInt8)} (h : a.length ≤ 1048576) : T_slices_Clone___string_string_ a = some a := by
  rw [e_T_slices_Clone___string_string_, if_pos ⟨by omega, by omega⟩]
  cases a with
  | nil => exact both_same
  | cons x l => rfl
theorem x_l18Copy (x : List UInt8 × List (List UInt8) × Bool) (h : x.2.1.length ≤ 1048576) : T_spec_l18Copy x = some x := by
  obtain ⟨a, b, c⟩ := x
  have hb : b.length ≤ 1048576 := h
  rw [e_T_spec_l18Copy, if_pos ⟨by omega, by omega⟩]
theorem x_copyBox (x : List UInt8 × List (List UInt8) × Bool) (h : x.2.1.length ≤ 1048576) : T_impl_copyBox x = some x := by
  obtain ⟨a, b, c⟩ := x
  have hb : b.length ≤ 1048576 := h
  rw [e_T_impl_copyBox, x_CloneS hb]; rfl
theorem x_BoxLen {a : List UInt8} {b : List (List UInt8)} {c : Bool} (h : T_impl_BoxOk (a, b, c) = some true) : b.length ≤ 5 := by
  rw [e_T_impl_BoxOk] at h
  by_cases hb : (b.length : Int) ≤ 5
  · omega
  · rw [decide_eq_false hb] at h
    cases hn : T_impl_NameOk a with
    | none => rw [hn] at h; cases h
    | some r => rw [hn] at h; cases r <;> cases h
theorem x_Fetch {a : List UInt8} {b : List (List UInt8)} {c : Bool} (h : (ET.pair .str (.pair (.sl false .str) .bool)).small (a, b, c)) : ∃ v1 v2 v3 s o, T_spec_Fetch (a, b, c) = some ((v1, v2, v3), s, o) ∧ T_impl_Fetch (a, b, c) = some ((v1, v2, v3), s, o) ∧ (ET.pair .str (.pair (.sl false .str) .bool)).small (v1, v2, v3) ∧
    (o = true → v1 = a ∧ b = s :: v2 ∧ v3 = c) ∧ (o = false → v1 = a ∧ v2 = b ∧ v3 = c) ∧ (T_impl_BoxOk (a, b, c) = some true → b ≠ [] → o = true) := by
  obtain ⟨v, h1, h2⟩ := x_BoxOk h
  have hl : b.length ≤ 1048576 := h.2.1.1
  have hL := x_l18Copy (a, b, c) hl
  rw [e_T_spec_Fetch, e_T_impl_Fetch, x_copyBox _ hl, h1, h2]
  simp only [Option.bind_some]
  cases b with
  | nil =>
    refine ⟨a, [], c, [], false, ?_, ?_, h, fun h => (by cases h), fun _ => ⟨rfl, rfl, rfl⟩, fun _ h => absurd rfl h⟩
    · cases v <;> simp [hL]
    · simp
  | cons s b =>
    have hz : (((s :: b).length : Int) == 0) = false := by simp; omega
    cases v
    · refine ⟨a, s :: b, c, [], false, ?_, ?_, h, fun h => (by cases h), fun _ => ⟨rfl, rfl, rfl⟩, fun h => (by cases h)⟩
      · simp only [Bool.not_false, cond_true, Option.bind_some, Sum.elim_inl, hL]
      · simp only [hz, Bool.not_false, cond_true, cond_false, Option.bind_some, Sum.elim_inl]
    · refine ⟨a, b, c, s, true, ?_, ?_, ⟨h.1, ⟨(by simp only [List.length_cons] at hl; show b.length ≤ 1048576; omega), fun x hx => h.2.1.2 x (by simp [hx])⟩, h.2.2⟩, fun _ => ⟨rfl, rfl, rfl⟩, fun h => (by cases h), fun _ _ => rfl⟩
      · simp only [hz, Bool.not_true, cond_false, Option.bind_some, Sum.elim_inl, hL]
        have hd : List.drop 1 (List.take (s :: b).length (s :: b)) = b := by simp
        simp only [List.length_cons] at hl hd
        simp only [hd, List.length_cons, List.getElem?_cons_zero, Option.bind_some]
        rw [if_pos (by omega), if_pos (by omega), if_pos (by omega)]
      · simp only [hz, Bool.not_true, cond_false, Option.bind_some, Sum.elim_inl]
        rw [T_slices_Delete___string_string_, if_pos (by simp; omega)]
        rfl
theorem law_FnExactFetch (x : List UInt8 × List (List UInt8) × Bool) (h : (ET.pair .str (.pair (.sl false .str) .bool)).ok x) : T_laws_FnExactFetch x = some true := by
  obtain ⟨r, h1, h2, h3⟩ := z_szBox x 1048576 h (by decide) (by decide)
  obtain ⟨a, b, c⟩ := x
  rw [e_T_laws_FnExactFetch, h1]
  simp only [Option.bind_some]
  by_cases hr : r < 0
  · simp [hr]
  · have hs := h3 (by omega)
    obtain ⟨v1, v2, v3, s, o, h4, h5, hs2, _⟩ := x_Fetch hs
    obtain ⟨k1, x1, m1, _, l1, _⟩ := mk_markBox (a, b, c) 1 hs (by decide) (by decide)
    obtain ⟨k2, ⟨z1, z2, z3⟩, m2, d2, l2, _⟩ := mk_markBox (v1, v2, v3) 1 hs2 (by decide) (by decide)
    have e2 := m2
    rw [e_T_laws_markBox] at e2
    obtain ⟨⟨k, zz⟩, e3, e4⟩ := Option.bind_eq_some_iff.1 e2
    simp only [Option.some.injEq, Prod.mk.injEq] at e4
    obtain ⟨rfl, rfl, rfl, rfl⟩ := e4
    have n1 : decide (k1 < 0) = false := decide_eq_false (by omega)
    have n2 : decide (k < 0) = false := decide_eq_false (by omega)
    simp only [hr, decide_false, cond_false, c_toBox hs, h4, h5, q_eqBox hs2, q_eqBox hs, m1, m2, d2, n1, n2, Option.bind_some, Sum.elim_inl, beq_self_eq_true, Bool.not_true]
end Xs
end Go.Proofs.Ytfepabohinkpgaa
