/- What the reference's function answers, and the program's: the same. -/
import Derived.Test.YtfepabohinkpgaaT9
import Derived.Test.YtfepabohinkpgaaXMembersOfE
namespace Go.Proofs.Ytfepabohinkpgaa
open Go Vm
set_option linter.unusedVariables false
set_option linter.unusedSimpArgs false
namespace Xs
theorem z_szStringS : SzOk (.sl false .str) T_laws_szStringS :=
  sz_sl (e := .str) (fun y b => some (IntKind.i64.wrap (b - (y.length : Int)))) e_T_laws_szStringS e_L_laws_szStringS_1 sz_str
theorem z_szGroup : SzOk (.pair .str (.sl false .str)) T_laws_szGroup := by
  rintro ⟨a, b⟩ n ⟨h_a, h_b⟩ h0 hn
  rw [e_T_laws_szGroup]
  refine Sz.str h_a (by omega) (by omega) (by omega) fun p1 w1 s_a => ?_
  try rw [w1]
  refine Sz.call z_szStringS h_b (by omega) (by omega) (by omega) fun r2 p2 q2 s2 => ?_
  exact Sz.fin (by omega) ⟨s_a, s2⟩
theorem z_szGroupS : SzOk (.sl false (.pair .str (.sl false .str))) T_laws_szGroupS :=
  sz_sl (e := (.pair .str (.sl false .str))) (fun y b => T_laws_szGroup (y, b)) e_T_laws_szGroupS e_L_laws_szGroupS_1 z_szGroup
theorem z_szTable : SzOk (.sl false (.pair .str (.sl false .str))) T_laws_szTable := by
  rintro a n h_a h0 hn
  rw [e_T_laws_szTable]
  refine Sz.call z_szGroupS h_a (by omega) (by omega) (by omega) fun r1 p1 q1 s1 => ?_
  exact Sz.fin (by omega) s1
theorem c_toStringS {a : (ET.sl false (.str)).den} (h : (ET.sl false (.str)).small a) : T_laws_toStringS a = some a := by
  have h1 : a.length ≤ 1048576 := h.1
  refine to_sl (L := L_laws_toStringS_1) [] h1 ?_ (fun n b i y hy hi => ?_) (fun n b => ?_)
  · rw [e_T_laws_toStringS, if_pos ⟨by omega, rfl, by omega, by omega⟩]; rfl
  · have hlt := (List.getElem?_eq_some_iff.1 hy).1
    rw [e_L_laws_toStringS_1]
    simp only [show ((i : Int) < (a.length : Int)) by omega, decide_true, cond_true, Int.natCast_nonneg, if_true, Int.toNat_natCast, hy, Option.bind_some, hi, List.getElem?_eq_getElem hi]
    rw [wrap_ok (by omega) (by omega)]
  · rw [e_L_laws_toStringS_1]; simp
theorem c_toGroup {x : (ET.pair .str (.sl false .str)).den} (h : (ET.pair .str (.sl false .str)).small x) : T_laws_toGroup x = some x := by
  obtain ⟨a, b⟩ := x
  obtain ⟨h_a, h_b⟩ := h
  simp only [e_T_laws_toGroup, c_toStringS h_b, Option.bind_some]
theorem c_toGroupS {a : (ET.sl false (.pair .str (.sl false .str))).den} (h : (ET.sl false (.pair .str (.sl false .str))).small a) : T_laws_toGroupS a = some a := by
  have h1 : a.length ≤ 1048576 := h.1
  refine to_sl (L := L_laws_toGroupS_1) ([], []) h1 ?_ (fun n b i y hy hi => ?_) (fun n b => ?_)
  · rw [e_T_laws_toGroupS, if_pos ⟨by omega, rfl, by omega, by omega⟩]; rfl
  · have hlt := (List.getElem?_eq_some_iff.1 hy).1
    rw [e_L_laws_toGroupS_1]
    simp only [show ((i : Int) < (a.length : Int)) by omega, decide_true, cond_true, Int.natCast_nonneg, if_true, Int.toNat_natCast, hy, Option.bind_some, hi, List.getElem?_eq_getElem hi, c_toGroup (h.2 y (List.mem_of_getElem? hy))]
    rw [wrap_ok (by omega) (by omega)]
  · rw [e_L_laws_toGroupS_1]; simp
theorem c_toTable {a : (ET.sl false (.pair .str (.sl false .str))).den} (h_a : (ET.sl false (.pair .str (.sl false .str))).small a) : T_laws_toTable a = some a := by
  simp only [e_T_laws_toTable, c_toGroupS h_a, Option.bind_some]
theorem q_eqStringS {a : (ET.sl false (.str)).den} (h : (ET.sl false (.str)).small a) : T_laws_eqStringS (a, a) = some true := by
  have h1 : a.length ≤ 1048576 := h.1
  rw [e_T_laws_eqStringS, eq_sl (L := L_laws_eqStringS_1) (Nat.le_trans h1 (by decide)) (fun n i y hy => ?_) (fun n => ?_)]
  · simp
  · have hlt := (List.getElem?_eq_some_iff.1 hy).1
    rw [e_L_laws_eqStringS_1]
    simp only [show ((i : Int) < (a.length : Int)) by omega, decide_true, cond_true, Int.natCast_nonneg, if_true, Int.toNat_natCast, hy, Option.bind_some, beq_self_eq_true, Bool.not_true, cond_false]
    rw [wrap_ok (by omega) (by omega)]
  · rw [e_L_laws_eqStringS_1]; simp
theorem q_eqGroup {x : (ET.pair .str (.sl false .str)).den} (h : (ET.pair .str (.sl false .str)).small x) : T_laws_eqGroup (x, x) = some true := by
  obtain ⟨a, b⟩ := x
  obtain ⟨h_a, h_b⟩ := h
  simp only [e_T_laws_eqGroup, q_eqStringS h_b, Option.bind_some, beq_self_eq_true, Bool.not_true, cond_false]
theorem q_eqGroupS {a : (ET.sl false (.pair .str (.sl false .str))).den} (h : (ET.sl false (.pair .str (.sl false .str))).small a) : T_laws_eqGroupS (a, a) = some true := by
  have h1 : a.length ≤ 1048576 := h.1
  rw [e_T_laws_eqGroupS, eq_sl (L := L_laws_eqGroupS_1) (Nat.le_trans h1 (by decide)) (fun n i y hy => ?_) (fun n => ?_)]
  · simp
  · have hlt := (List.getElem?_eq_some_iff.1 hy).1
    rw [e_L_laws_eqGroupS_1]
    simp only [show ((i : Int) < (a.length : Int)) by omega, decide_true, cond_true, Int.natCast_nonneg, if_true, Int.toNat_natCast, hy, Option.bind_some, beq_self_eq_true, Bool.not_true, cond_false, q_eqGroup (h.2 y (List.mem_of_getElem? hy))]
    rw [wrap_ok (by omega) (by omega)]
  · rw [e_L_laws_eqGroupS_1]; simp
theorem q_eqTable {a : (ET.sl false (.pair .str (.sl false .str))).den} (h_a : (ET.sl false (.pair .str (.sl false .str))).small a) : T_laws_eqTable (a, a) = some true := by
  simp only [e_T_laws_eqTable, q_eqGroupS h_a, Option.bind_some, beq_self_eq_true, Bool.not_true, cond_false]
theorem small_len {s : List UInt8} (h : ET.str.small s) : s.length ≤ maxLen := Nat.le_trans h (by decide)
theorem smallL_len {e : ET} {o : Bool} {s : List e.den} (h : (ET.sl o e).small s) : s.length ≤ maxLen := Nat.le_trans h.1 (by decide)
theorem x_markTextL : ∀ (m n : Nat) (a : Int) (b : List UInt8), m < n → a < 10 ^ m → a ≤ 9223372036854775807 → b.length + m ≤ 1000 → ∃ s, L_laws_markText_1 n (a, b) = some (.inl s) ∧ s.length ≤ 1000
  | 0, n, a, b, hn, ha, hb, hl => by
    obtain ⟨n, rfl⟩ : ∃ j, n = j + 1 := ⟨n - 1, by omega⟩
    rw [e_L_laws_markText_1, decide_eq_false (by simp at ha; omega)]
    exact ⟨b, rfl, by omega⟩
  | m + 1, n, a, b, hn, ha, hb, hl => by
    obtain ⟨n, rfl⟩ : ∃ j, n = j + 1 := ⟨n - 1, by omega⟩
    rw [e_L_laws_markText_1]
    by_cases h0 : 0 < a
    · rw [decide_eq_true h0, cond_true, if_neg (by simp only [List.length_map, List.length_cons, List.length_nil]; omega)]
      have h1 : a.tdiv 10 = a / 10 := Int.tdiv_eq_ediv_of_nonneg (by omega)
      rw [Int.pow_succ] at ha
      rw [h1, wrap_ok (by omega) (by omega)]
      exact x_markTextL m n (a / 10) _ (by omega) (by omega) (by omega) (by simp only [List.length_append, List.length_map, List.length_cons, List.length_nil]; omega)
    · rw [decide_eq_false h0]
      exact ⟨b, rfl, by omega⟩
theorem x_markText (k : Int) (h : k ≤ 9223372036854775807) : ∃ s, T_laws_markText k = some s := by
  rw [e_T_laws_markText]
  by_cases h0 : k ≤ 0
  · rw [decide_eq_true h0]; exact ⟨_, rfl⟩
  · rw [decide_eq_false h0, cond_false]
    obtain ⟨s, h1, h2⟩ := x_markTextL 19 fuel k [] (by decide) (by have : (10 : Int) ^ 19 = 10000000000000000000 := rfl; omega) h (by simp)
    rw [h1]
    simp only [Option.bind_some, Sum.elim_inl]
    rw [if_neg (by omega)]
    exact ⟨_, rfl⟩
theorem mk_markStringS : MkOk (.sl true .str) T_laws_markStringS (fun y k k' => T_laws_heldStringS (y, k) = some k') := by
  refine MkOk.mono (mk_sl (e := .str) (L := L_laws_markStringS_1) (Q := (fun y b b' => ∀ n a (i : Nat), a[i]? = some y → i ≤ 1048576 → L_laws_heldStringS_1 (n + 1) (a, b, (i : Int)) = L_laws_heldStringS_1 n (a, b', (i : Int) + 1))) e_T_laws_markStringS (fun a b i v1 hy h_v1 h0 hW hi => ?_) (fun n a b => by rw [e_L_laws_markStringS_1]; simp)) (fun l k k' hh => ?_)
  · have hlt := (List.getElem?_eq_some_iff.1 hy).1
    simp only [ET.W] at hW ⊢
    obtain ⟨s1, t1⟩ := x_markText (b) (by omega)
    have w2 : IntKind.i64.wrap (b + 1) = b + 1 := wrap_ok (by omega) (by omega)
    refine ⟨b + 1, s1, fun n => ?_, fun n a i hy hi => ?_, by omega, by omega⟩
    · rw [e_L_laws_markStringS_1]
      simp only [show ((i : Int) < (a.length : Int)) by omega, decide_true, cond_true, Int.natCast_nonneg, if_true, Int.toNat_natCast, hlt, List.length_set, hy, Option.bind_some, List.getElem?_set_self, List.set_set, eq_self, t1, w2]
      rw [wrap_ok (by omega) (by omega)]
    · rw [e_L_laws_heldStringS_1]
      have hlt := (List.getElem?_eq_some_iff.1 hy).1
      simp only [show ((i : Int) < (a.length : Int)) by omega, decide_true, cond_true, Int.natCast_nonneg, if_true, Int.toNat_natCast, hy, Option.bind_some, beq_self_eq_true, Bool.not_true, cond_false, t1, w2]
      rw [wrap_ok (by omega) (by omega)]
  · exact hd_sl (L := L_laws_heldStringS_1) e_T_laws_heldStringS (fun a b b' i y hy hq hi n => hq n a i hy hi) (fun n a b => by rw [e_L_laws_heldStringS_1]; simp) hh.1 hh.2
theorem mk_markGroupS : MkOk (.sl true (.pair .str (.sl true .str))) T_laws_markGroupS (fun _ _ _ => True) := by
  refine MkOk.mono (mk_sl (e := .pair .str (.sl true .str)) (L := L_laws_markGroupS_1) (Q := (fun _ _ _ => True)) e_T_laws_markGroupS (fun a b i y hy hs h0 hW hi => ?_) (fun n a b => by rw [e_L_laws_markGroupS_1]; simp)) (fun l k k' hh => ?_)
  · have hlt := (List.getElem?_eq_some_iff.1 hy).1
    obtain ⟨v1, v2⟩ := y
    obtain ⟨h_v1, h_v2⟩ := hs
    simp only [ET.W] at hW ⊢
    obtain ⟨s1, t1⟩ := x_markText (b) (by omega)
    have w2 : IntKind.i64.wrap (b + 1) = b + 1 := wrap_ok (by omega) (by omega)
    obtain ⟨k3, z3, m3, q3, l3, u3⟩ := mk_markStringS v2 (b + 1) h_v2 (by omega) (by simp only [ET.W]; omega)
    simp only [ET.W] at u3
    have n3 : decide (k3 < 0) = false := decide_eq_false (by omega)
    refine ⟨k3, (s1, z3), fun n => ?_, trivial, by omega, by omega⟩
    · rw [e_L_laws_markGroupS_1]
      simp only [show ((i : Int) < (a.length : Int)) by omega, decide_true, cond_true, Int.natCast_nonneg, if_true, Int.toNat_natCast, hlt, List.length_set, hy, Option.bind_some, List.getElem?_set_self, List.set_set, eq_self, t1, w2, m3]
      rw [wrap_ok (by omega) (by omega)]
  · trivial
theorem mk_markTable : MkOk (.sl true (.pair .str (.sl true .str))) T_laws_markTable (fun _ _ _ => True) := by
  rintro v1 b h_v1 h0 hW
  simp only [ET.W] at hW ⊢
  obtain ⟨k1, z1, m1, q1, l1, u1⟩ := mk_markGroupS v1 (b) h_v1 (by omega) (by simp only [ET.W]; omega)
  simp only [ET.W] at u1
  have n1 : decide (k1 < 0) = false := decide_eq_false (by omega)
  refine ⟨k1, z1, ?_, ?_, by omega, by omega⟩
  · rw [e_T_laws_markTable]
    simp only [Option.bind_some, m1]
  · trivial
theorem x_CloneS {a : List (List UInt8)} (h : a.length ≤ 1048576) : T_slices_Clone___string_string_ a = some a := by
  rw [e_T_slices_Clone___string_string_, if_pos ⟨by omega, by omega⟩]
  cases a with
  | nil => exact both_same
  | cons x l => rfl
theorem x_MembersOf (a : List (List UInt8 × List (List UInt8))) (b : List UInt8) (h : (ET.sl false (.pair .str (.sl false .str))).small a) : ∃ v, T_spec_MembersOf (a, b) = some v ∧ T_impl_MembersOf (a, b) = some v ∧ (ET.sl false .str).small v := by
  have hl : a.length ≤ 1048576 := h.1
  let st : Nat → (List UInt8 × List (List UInt8)) → Unit → Option (Unit ⊕ List (List UInt8)) := fun _ y _ => some (bif y.1 == b then .inr y.2 else .inl ())
  rw [e_T_spec_MembersOf, e_T_impl_MembersOf]
  have h1 := each_loop (L := L_spec_MembersOf_1) a (fun (_ : Unit) c => (b, a, c)) (fun _ => ()) st (fun n s i y hy => by
    have hi := (List.getElem?_eq_some_iff.1 hy).1
    have hs := (h.2 y (List.mem_of_getElem? hy)).2
    rw [e_L_spec_MembersOf_1]
    simp only [show ((i : Int) < (a.length : Int)) by omega, decide_true, cond_true, Int.natCast_nonneg, if_true, Int.toNat_natCast, hy, Option.bind_some, st]
    have hy2 : List.length y.2 ≤ 1048576 := hs.1
    rw [wrap_ok (by omega) (by omega), if_pos ⟨by omega, by omega⟩]
    cases y.1 == b <;> rfl) (fun n s => by rw [e_L_spec_MembersOf_1]; simp) (by rw [maxLen_eq]; omega) ()
  have h2 := each_loop (L := L_impl_MembersOf_1) a (fun (_ : Unit) c => (b, a, (a.length : Int), c)) (fun _ => ()) st (fun n s i y hy => by
    have hi := (List.getElem?_eq_some_iff.1 hy).1
    have hs := (h.2 y (List.mem_of_getElem? hy)).2
    rw [e_L_impl_MembersOf_1]
    simp only [show ((i : Int) < (a.length : Int)) by omega, decide_true, cond_true, Int.natCast_nonneg, if_true, Int.toNat_natCast, hy, Option.bind_some, st]
    rw [wrap_ok (by omega) (by omega), x_CloneS hs.1]
    cases y.1 == b <;> rfl) (fun n s => by rw [e_L_impl_MembersOf_1]; simp) (by rw [maxLen_eq]; omega) ()
  rw [h1, h2]
  rcases each_rule (step := st) (fun _ _ => True) (fun r => (ET.sl false .str).small r) a 0 () trivial (fun i y s hy _ => by
    cases hb : y.1 == b
    · exact .inl ⟨(), by simp [st, hb], trivial⟩
    · exact .inr ⟨y.2, by simp [st, hb], (h.2 y (List.mem_of_getElem? hy)).2⟩) with ⟨s, h3, _⟩ | ⟨r, h3, h4⟩
  · rw [h3]; exact ⟨[], rfl, rfl, by decide, fun x hx => by cases hx⟩
  · rw [h3]; exact ⟨r, rfl, rfl, h4⟩
theorem law2_FnExactMembersOf (x : List (List UInt8 × List (List UInt8))) (b : List UInt8) (h : (ET.sl false (.pair .str (.sl false .str))).ok x) : T_laws_FnExactMembersOf (x, b) = some true := by
  obtain ⟨r, h1, h2, h3⟩ := z_szTable x 1048576 h (by decide) (by decide)
  rw [e_T_laws_FnExactMembersOf, h1]
  simp only [Option.bind_some]
  by_cases hb : 1048576 < (b.length : Int)
  · simp [hb]
  by_cases hr : r < 0
  · simp [hr]
  · have hs := h3 (by omega)
    obtain ⟨v, h4, h5, hs2⟩ := x_MembersOf x b hs
    obtain ⟨k1, x1, m1, _, l1, _⟩ := mk_markTable x 1 hs (by decide) (by decide)
    obtain ⟨k2, x2, m2, d2, l2, _⟩ := mk_markStringS v 1 hs2 (by decide) (by decide)
    have n1 : decide (k1 < 0) = false := decide_eq_false (by omega)
    have n2 : decide (k2 < 0) = false := decide_eq_false (by omega)
    simp only [hb, hr, decide_false, cond_false, c_toTable hs, h4, h5, q_eqStringS hs2, q_eqTable hs, m1, m2, d2, n1, n2, Option.bind_some, Sum.elim_inl, beq_self_eq_true, Bool.not_true]
theorem law_FnExactMembersOf (a : Den [.agg (.sl false (.pair .str (.sl false .str))), .cell .str]) (h : okL [.agg (.sl false (.pair .str (.sl false .str))), .cell .str] a) : T_laws_FnExactMembersOf a = some true := law2_FnExactMembersOf a.1 a.2 h.1
end Xs
end Go.Proofs.Ytfepabohinkpgaa
