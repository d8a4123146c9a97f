/- What the reference's function answers, and the program's: the same. -/
import Derived.Test.YtceeeagdjphbnaaDoorXRSPd
namespace Go.Proofs.YtceeeagdjphbnaaDoor
open Go Vm
set_option linter.unusedVariables false
set_option linter.unusedSimpArgs false
namespace Xs
theorem x_markTextL : ∀ (m n : Nat) (a : Int) (b : List UInt8), m < n → a < 10 ^ m → a ≤ 9223372036854775807 → b.length + m ≤ 1000 → ∃ s, L_laws_markText_1 n (a, b) = some (.inl s) ∧ s.length ≤ 1000
  | 0, n, a, b, hn, ha, hb, hl => by
    obtain ⟨n, rfl⟩ : ∃ j, n = j + 1 := ⟨n - 1, by omega⟩
    rw [e_L_laws_markText_1, decide_eq_false (by simp at ha; omega)]
    exact ⟨b, rfl, by omega⟩
  | m + 1, n, a, b, hn, ha, hb, hl => by
    obtain ⟨n, rfl⟩ : ∃ j, n = j + 1 := ⟨n - 1, by omega⟩
    rw [e_L_laws_markText_1]
    by_cases h0 : 0 < a
    · rw [decide_eq_true h0, cond_true, if_neg (by simp only [List.length_map, List.length_cons, List.length_nil]; omega)]
      have h1 : a.tdiv 10 = a / 10 := Int.tdiv_eq_ediv_of_nonneg (by omega)
      rw [Int.pow_succ] at ha
      rw [h1, wrap_ok (by omega) (by omega)]
      exact x_markTextL m n (a / 10) _ (by omega) (by omega) (by omega) (by simp only [List.length_append, List.length_map, List.length_cons, List.length_nil]; omega)
    · rw [decide_eq_false h0]
      exact ⟨b, rfl, by omega⟩
theorem x_markText (k : Int) (h : k ≤ 9223372036854775807) : ∃ s, T_laws_markText k = some s := by
  rw [e_T_laws_markText]
  by_cases h0 : k ≤ 0
  · rw [decide_eq_true h0]; exact ⟨_, rfl⟩
  · rw [decide_eq_false h0, cond_false]
    obtain ⟨s, h1, h2⟩ := x_markTextL 19 fuel k [] (by decide) (by have : (10 : Int) ^ 19 = 10000000000000000000 := rfl; omega) h (by simp)
    rw [h1]
    simp only [Option.bind_some, Sum.elim_inl]
    rw [if_neg (by omega)]
    exact ⟨_, rfl⟩
set_option maxHeartbeats 4000000 in
set_option maxRecDepth 100000 in
theorem mk_markIntS : MkW (.sl true (.int .i64)) T_laws_markIntS (fun y k k' => T_laws_heldIntS (y, k) = some k') := by
  refine MkW.mono (mkw_sl (e := .int .i64) (L := L_laws_markIntS_1) (Q := (fun y b b' => ∀ n a (i : Nat), a[i]? = some y → i ≤ 1048576 → L_laws_heldIntS_1 (n + 1) (a, b, (i : Int)) = L_laws_heldIntS_1 n (a, b', (i : Int) + 1))) e_T_laws_markIntS (fun a b i v1 hy h_v1 h0 hW hi => ?_) (fun n a b => by rw [e_L_laws_markIntS_1]; simp)) (fun l k k' hh => ?_)
  · have hlt := (List.getElem?_eq_some_iff.1 hy).1
    try simp -implicitDefEqProofs only [wt_pair, wt_int, wt_bool, wt_str] at hW ⊢
    have w1 : IntKind.i64.wrap (b + 1) = b + 1 := wrap_ok (by omega) (by omega)
    refine ⟨b + 1, b, fun n => ?_, fun n a i hy hi => ?_, by omega⟩
    · rw [e_L_laws_markIntS_1]
      simp only [show ((i : Int) < (a.length : Int)) by omega, decide_true, cond_true, Int.natCast_nonneg, if_true, Int.toNat_natCast, hlt, List.length_set, hy, Option.bind_some, List.getElem?_set_self, List.set_set, eq_self, un_mk, Sum.elim_inl, w1]
      rw [wrap_ok (by omega) (by omega)]
    · rw [e_L_laws_heldIntS_1]
      have hlt := (List.getElem?_eq_some_iff.1 hy).1
      simp only [show ((i : Int) < (a.length : Int)) by omega, decide_true, cond_true, Int.natCast_nonneg, if_true, Int.toNat_natCast, hy, Option.bind_some, beq_self_eq_true, Bool.not_true, cond_false, un_mk, Sum.elim_inl, Sum.elim_inr, w1]
      rw [wrap_ok (by omega) (by omega)]
  · exact hd_sl (L := L_laws_heldIntS_1) e_T_laws_heldIntS (fun a b b' i y hy hq hi n => hq n a i hy hi) (fun n a b => by rw [e_L_laws_heldIntS_1]; simp) hh.1 hh.2
set_option maxHeartbeats 4000000 in
set_option maxRecDepth 100000 in
theorem mk_markRingS : MkW (.sl true (.pair (.int .i64) (.sl true (.int .i64)))) T_laws_markRingS (fun y k k' => T_laws_heldRingS (y, k) = some k') := by
  refine MkW.mono (mkw_sl (e := .pair (.int .i64) (.sl true (.int .i64))) (L := L_laws_markRingS_1) (Q := (fun y b b' => ∀ n a (i : Nat), a[i]? = some y → i ≤ 1048576 → L_laws_heldRingS_1 (n + 1) (a, b, (i : Int)) = L_laws_heldRingS_1 n (a, b', (i : Int) + 1))) e_T_laws_markRingS (fun a b i y hy hs h0 hW hi => ?_) (fun n a b => by rw [e_L_laws_markRingS_1]; simp)) (fun l k k' hh => ?_)
  · have hlt := (List.getElem?_eq_some_iff.1 hy).1
    obtain ⟨v1, v2⟩ := y
    obtain ⟨h_v1, h_v2⟩ := hs
    try simp -implicitDefEqProofs only [wt_pair, wt_int, wt_bool, wt_str] at hW ⊢
    have g_v2 := wt_nn (.sl true (.int .i64)) v2
    have w1 : IntKind.i64.wrap (b + 1) = b + 1 := wrap_ok (by omega) (by omega)
    obtain ⟨k2, z2, m2, q2, u2⟩ := mk_markIntS v2 (b + 1) h_v2 (by omega) (by (try simp -implicitDefEqProofs only [wt_pair, wt_int, wt_bool, wt_str]); omega)
    try simp -implicitDefEqProofs only [wt_pair, wt_int, wt_bool, wt_str] at u2
    have n2 : decide (k2 < 0) = false := decide_eq_false (by omega)
    refine ⟨k2, (b, z2), fun n => ?_, fun n a i hy hi => ?_, by omega⟩
    · rw [e_L_laws_markRingS_1]
      simp only [show ((i : Int) < (a.length : Int)) by omega, decide_true, cond_true, Int.natCast_nonneg, if_true, Int.toNat_natCast, hlt, List.length_set, hy, Option.bind_some, List.getElem?_set_self, List.set_set, eq_self, un_mk, Sum.elim_inl, w1, m2]
      rw [wrap_ok (by omega) (by omega)]
    · rw [e_L_laws_heldRingS_1]
      have hlt := (List.getElem?_eq_some_iff.1 hy).1
      simp only [show ((i : Int) < (a.length : Int)) by omega, decide_true, cond_true, Int.natCast_nonneg, if_true, Int.toNat_natCast, hy, Option.bind_some, beq_self_eq_true, Bool.not_true, cond_false, un_mk, Sum.elim_inl, Sum.elim_inr, w1, q2, n2]
      rw [wrap_ok (by omega) (by omega)]
  · exact hd_sl (L := L_laws_heldRingS_1) e_T_laws_heldRingS (fun a b b' i y hy hq hi n => hq n a i hy hi) (fun n a b => by rw [e_L_laws_heldRingS_1]; simp) hh.1 hh.2
set_option maxHeartbeats 4000000 in
set_option maxRecDepth 100000 in
theorem mk_markDeedS : MkW (.sl true (.pair (.int .i64) (.pair (.int .i64) (.pair (.int .i64) (.pair (.int .i64) .str))))) T_laws_markDeedS (fun y k k' => T_laws_heldDeedS (y, k) = some k') := by
  refine MkW.mono (mkw_sl (e := .pair (.int .i64) (.pair (.int .i64) (.pair (.int .i64) (.pair (.int .i64) .str)))) (L := L_laws_markDeedS_1) (Q := (fun y b b' => ∀ n a (i : Nat), a[i]? = some y → i ≤ 1048576 → L_laws_heldDeedS_1 (n + 1) (a, b, (i : Int)) = L_laws_heldDeedS_1 n (a, b', (i : Int) + 1))) e_T_laws_markDeedS (fun a b i y hy hs h0 hW hi => ?_) (fun n a b => by rw [e_L_laws_markDeedS_1]; simp)) (fun l k k' hh => ?_)
  · have hlt := (List.getElem?_eq_some_iff.1 hy).1
    obtain ⟨v1, ⟨v2, ⟨v3, ⟨v4, v5⟩⟩⟩⟩ := y
    obtain ⟨h_v1, ⟨h_v2, ⟨h_v3, ⟨h_v4, h_v5⟩⟩⟩⟩ := hs
    try simp -implicitDefEqProofs only [wt_pair, wt_int, wt_bool, wt_str] at hW ⊢
    have w1 : IntKind.i64.wrap (b + 1) = b + 1 := wrap_ok (by omega) (by omega)
    have w2 : IntKind.i64.wrap (b + 1 + 1) = b + 1 + 1 := wrap_ok (by omega) (by omega)
    have w3 : IntKind.i64.wrap (b + 1 + 1 + 1) = b + 1 + 1 + 1 := wrap_ok (by omega) (by omega)
    have w4 : IntKind.i64.wrap (b + 1 + 1 + 1 + 1) = b + 1 + 1 + 1 + 1 := wrap_ok (by omega) (by omega)
    obtain ⟨s5, t5⟩ := x_markText (b + 1 + 1 + 1 + 1) (by omega)
    have w6 : IntKind.i64.wrap (b + 1 + 1 + 1 + 1 + 1) = b + 1 + 1 + 1 + 1 + 1 := wrap_ok (by omega) (by omega)
    refine ⟨b + 1 + 1 + 1 + 1 + 1, (b, (b + 1, (b + 1 + 1, (b + 1 + 1 + 1, s5)))), fun n => ?_, fun n a i hy hi => ?_, by omega⟩
    · rw [e_L_laws_markDeedS_1]
      simp only [show ((i : Int) < (a.length : Int)) by omega, decide_true, cond_true, Int.natCast_nonneg, if_true, Int.toNat_natCast, hlt, List.length_set, hy, Option.bind_some, List.getElem?_set_self, List.set_set, eq_self, un_mk, Sum.elim_inl, w1, w2, w3, w4, t5, w6]
      rw [wrap_ok (by omega) (by omega)]
    · rw [e_L_laws_heldDeedS_1]
      have hlt := (List.getElem?_eq_some_iff.1 hy).1
      simp only [show ((i : Int) < (a.length : Int)) by omega, decide_true, cond_true, Int.natCast_nonneg, if_true, Int.toNat_natCast, hy, Option.bind_some, beq_self_eq_true, Bool.not_true, cond_false, un_mk, Sum.elim_inl, Sum.elim_inr, w1, w2, w3, w4, t5, w6]
      rw [wrap_ok (by omega) (by omega)]
  · exact hd_sl (L := L_laws_heldDeedS_1) e_T_laws_heldDeedS (fun a b b' i y hy hq hi n => hq n a i hy hi) (fun n a b => by rw [e_L_laws_heldDeedS_1]; simp) hh.1 hh.2
theorem sumI_le {α : Type} {f : α → Int} {B : Int} : ∀ (l : List α), (∀ x ∈ l, f x ≤ B) → sumI f l ≤ B * (l.length : Int)
  | [], _ => by simp [sumI]
  | x :: l, h => by
    have h1 := h x List.mem_cons_self
    have h2 := sumI_le l (fun y hy => h y (List.mem_cons_of_mem _ hy))
    rw [List.length_cons, Int.natCast_add, Int.natCast_one, Int.mul_add, Int.mul_one]
    simp only [sumI]; omega
abbrev RingSE (o : Bool) : ET := .sl o (.pair (.int .i64) (.sl o (.int .i64)))
abbrev DeedSE (o : Bool) : ET := .sl o (.pair (.int .i64) (.pair (.int .i64) (.pair (.int .i64) (.pair (.int .i64) .str))))
theorem sc_ms {R : List RingU} {D : List DeedU} (h : scOk R D) (o : Bool) : (RingSE o).ms R ≤ 70000 ∧ (DeedSE o).ms D ≤ 70000 := by
  obtain ⟨h1, h2, h3, h4⟩ := h
  constructor
  · have hs : sumI (ET.pair (.int .i64) (.sl o (.int .i64))).ms R ≤ 601 * (R.length : Int) := sumI_le R (fun y hy => by
      have h0 := sumI_le (f := (ET.int .i64).ms) (B := 0) y.2 (fun _ _ => Int.le_refl 0)
      have := h2 y hy
      simp only [ET.ms] at h0 ⊢
      omega)
    have : (RingSE o).ms R = (R.length : Int) + sumI (ET.pair (.int .i64) (.sl o (.int .i64))).ms R := rfl
    omega
  · have hs : sumI (ET.pair (.int .i64) (.pair (.int .i64) (.pair (.int .i64) (.pair (.int .i64) .str)))).ms D ≤ 600 * (D.length : Int) := sumI_le D (fun y hy => by
      have := h4 y hy
      simp only [ET.ms]
      omega)
    have : (DeedSE o).ms D = (D.length : Int) + sumI (ET.pair (.int .i64) (.pair (.int .i64) (.pair (.int .i64) (.pair (.int .i64) .str)))).ms D := rfl
    omega
theorem law_FnExactReadScript (w : Den [.cell .str]) (h : okL [.cell .str] w) : T_laws_FnExactReadScript w = some true := by
  rw [e_T_laws_FnExactReadScript]
  by_cases hr : 1048576 < (List.length (α := UInt8) w)
  · simp only [decide_eq_true (show (1048576 : Int) < ((List.length (α := UInt8) w) : Int) by omega), cond_true]
  · obtain ⟨R, D, k, h4, h5, h6⟩ := x_ReadScript (a := w) (by omega)
    obtain ⟨b1, b2⟩ := sc_ms h6 true
    obtain ⟨c1, c2⟩ := sc_ms h6 false
    have s1 : (RingSE true).small R := ms_small _ _ (by omega)
    have s2 : (DeedSE true).small D := ms_small _ _ (by omega)
    have s3 : (RingSE false).small R := ms_small _ _ (by omega)
    have s4 : (DeedSE false).small D := ms_small _ _ (by omega)
    have w1 := wt_top (e := RingSE true) (x := R) (by omega)
    have w2 : (RingSE true).fw + (RingSE true).mw * 1048576 ≤ 100000000 := by decide +kernel
    have w3 := wt_top (e := DeedSE true) (x := D) (by omega)
    have w4 : (DeedSE true).fw + (DeedSE true).mw * 1048576 ≤ 100000000 := by decide +kernel
    have w5 := wt_nn (RingSE true) R
    have w6 := wt_nn (DeedSE true) D
    obtain ⟨k1, x1, m1, d1, l1⟩ := (show MkW (RingSE true) T_laws_markRingS _ from mk_markRingS) R 1 s1 (by decide) (by omega)
    obtain ⟨k2, x2, m2, d2, l2⟩ := (show MkW (DeedSE true) T_laws_markDeedS _ from mk_markDeedS) D k1 s2 (by omega) (by omega)
    have n1 : decide (k1 < 0) = false := decide_eq_false (by omega)
    have n2 : decide (k2 < 0) = false := decide_eq_false (by omega)
    simp only [decide_eq_false (show ¬ (1048576 : Int) < ((List.length (α := UInt8) w) : Int) by omega), cond_false, h4, h5, q_eqRingS s3, q_eqDeedS s4, m1, m2, d1, d2, n1, n2, Option.bind_some, Sum.elim_inl, beq_self_eq_true, Bool.not_true]
end Xs
end Go.Proofs.YtceeeagdjphbnaaDoor
