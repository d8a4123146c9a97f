/- What the reference's function answers, and the program's: the same. -/
import Derived.Test.YtdbhnefcmnglnaaDoorXHNPb
namespace Go.Proofs.YtdbhnefcmnglnaaDoor
open Go Vm
set_option linter.unusedVariables false
set_option linter.unusedSimpArgs false
namespace Xs
theorem x_markTextL : ∀ (m n : Nat) (a : Int) (b : List UInt8), m < n → a < 10 ^ m → a ≤ 9223372036854775807 → b.length + m ≤ 1000 → ∃ s, L_laws_markText_1 n (a, b) = some (.inl s) ∧ s.length ≤ 1000
  | 0, n, a, b, hn, ha, hb, hl => by
    obtain ⟨n, rfl⟩ : ∃ j, n = j + 1 := ⟨n - 1, by omega⟩
    rw [e_L_laws_markText_1, decide_eq_false (by simp at ha; omega)]
    exact ⟨b, rfl, by omega⟩
  | m + 1, n, a, b, hn, ha, hb, hl => by
    obtain ⟨n, rfl⟩ : ∃ j, n = j + 1 := ⟨n - 1, by omega⟩
    rw [e_L_laws_markText_1]
    by_cases h0 : 0 < a
    · rw [decide_eq_true h0, cond_true, if_neg (by simp only [List.length_map, List.length_cons, List.length_nil]; omega)]
      have h1 : a.tdiv 10 = a / 10 := Int.tdiv_eq_ediv_of_nonneg (by omega)
      rw [Int.pow_succ] at ha
      rw [h1, wrap_ok (by omega) (by omega)]
      exact x_markTextL m n (a / 10) _ (by omega) (by omega) (by omega) (by simp only [List.length_append, List.length_map, List.length_cons, List.length_nil]; omega)
    · rw [decide_eq_false h0]
      exact ⟨b, rfl, by omega⟩
theorem x_markText (k : Int) (h : k ≤ 9223372036854775807) : ∃ s, T_laws_markText k = some s := by
  rw [e_T_laws_markText]
  by_cases h0 : k ≤ 0
  · rw [decide_eq_true h0]; exact ⟨_, rfl⟩
  · rw [decide_eq_false h0, cond_false]
    obtain ⟨s, h1, h2⟩ := x_markTextL 19 fuel k [] (by decide) (by have : (10 : Int) ^ 19 = 10000000000000000000 := rfl; omega) h (by simp)
    rw [h1]
    simp only [Option.bind_some, Sum.elim_inl]
    rw [if_neg (by omega)]
    exact ⟨_, rfl⟩
set_option maxHeartbeats 4000000 in
set_option maxRecDepth 100000 in
theorem mk_markIntS : MkW (.sl true (.int .i64)) T_laws_markIntS (fun y k k' => T_laws_heldIntS (y, k) = some k') := by
  refine MkW.mono (mkw_sl (e := .int .i64) (L := L_laws_markIntS_1) (Q := (fun y b b' => ∀ n a (i : Nat), a[i]? = some y → i ≤ 1048576 → L_laws_heldIntS_1 (n + 1) (a, b, (i : Int)) = L_laws_heldIntS_1 n (a, b', (i : Int) + 1))) e_T_laws_markIntS (fun a b i v1 hy h_v1 h0 hW hi => ?_) (fun n a b => by rw [e_L_laws_markIntS_1]; simp)) (fun l k k' hh => ?_)
  · have hlt := (List.getElem?_eq_some_iff.1 hy).1
    try simp -implicitDefEqProofs only [wt_pair, wt_int, wt_bool, wt_str] at hW ⊢
    have w1 : IntKind.i64.wrap (b + 1) = b + 1 := wrap_ok (by omega) (by omega)
    refine ⟨b + 1, b, fun n => ?_, fun n a i hy hi => ?_, by omega⟩
    · rw [e_L_laws_markIntS_1]
      simp only [show ((i : Int) < (a.length : Int)) by omega, decide_true, cond_true, Int.natCast_nonneg, if_true, Int.toNat_natCast, hlt, List.length_set, hy, Option.bind_some, List.getElem?_set_self, List.set_set, eq_self, un_mk, Sum.elim_inl, w1]
      rw [wrap_ok (by omega) (by omega)]
    · rw [e_L_laws_heldIntS_1]
      have hlt := (List.getElem?_eq_some_iff.1 hy).1
      simp only [show ((i : Int) < (a.length : Int)) by omega, decide_true, cond_true, Int.natCast_nonneg, if_true, Int.toNat_natCast, hy, Option.bind_some, beq_self_eq_true, Bool.not_true, cond_false, un_mk, Sum.elim_inl, Sum.elim_inr, w1]
      rw [wrap_ok (by omega) (by omega)]
  · exact hd_sl (L := L_laws_heldIntS_1) e_T_laws_heldIntS (fun a b b' i y hy hq hi n => hq n a i hy hi) (fun n a b => by rw [e_L_laws_heldIntS_1]; simp) hh.1 hh.2
set_option maxHeartbeats 4000000 in
set_option maxRecDepth 100000 in
theorem mk_markRingS : MkW (.sl true (.pair (.int .i64) (.sl true (.int .i64)))) T_laws_markRingS (fun y k k' => T_laws_heldRingS (y, k) = some k') := by
  refine MkW.mono (mkw_sl (e := .pair (.int .i64) (.sl true (.int .i64))) (L := L_laws_markRingS_1) (Q := (fun y b b' => ∀ n a (i : Nat), a[i]? = some y → i ≤ 1048576 → L_laws_heldRingS_1 (n + 1) (a, b, (i : Int)) = L_laws_heldRingS_1 n (a, b', (i : Int) + 1))) e_T_laws_markRingS (fun a b i y hy hs h0 hW hi => ?_) (fun n a b => by rw [e_L_laws_markRingS_1]; simp)) (fun l k k' hh => ?_)
  · have hlt := (List.getElem?_eq_some_iff.1 hy).1
    obtain ⟨v1, v2⟩ := y
    obtain ⟨h_v1, h_v2⟩ := hs
    try simp -implicitDefEqProofs only [wt_pair, wt_int, wt_bool, wt_str] at hW ⊢
    have g_v2 := wt_nn (.sl true (.int .i64)) v2
    have w1 : IntKind.i64.wrap (b + 1) = b + 1 := wrap_ok (by omega) (by omega)
    obtain ⟨k2, z2, m2, q2, u2⟩ := mk_markIntS v2 (b + 1) h_v2 (by omega) (by (try simp -implicitDefEqProofs only [wt_pair, wt_int, wt_bool, wt_str]); omega)
    try simp -implicitDefEqProofs only [wt_pair, wt_int, wt_bool, wt_str] at u2
    have n2 : decide (k2 < 0) = false := decide_eq_false (by omega)
    refine ⟨k2, (b, z2), fun n => ?_, fun n a i hy hi => ?_, by omega⟩
    · rw [e_L_laws_markRingS_1]
      simp only [show ((i : Int) < (a.length : Int)) by omega, decide_true, cond_true, Int.natCast_nonneg, if_true, Int.toNat_natCast, hlt, List.length_set, hy, Option.bind_some, List.getElem?_set_self, List.set_set, eq_self, un_mk, Sum.elim_inl, w1, m2]
      rw [wrap_ok (by omega) (by omega)]
    · rw [e_L_laws_heldRingS_1]
      have hlt := (List.getElem?_eq_some_iff.1 hy).1
      simp only [show ((i : Int) < (a.length : Int)) by omega, decide_true, cond_true, Int.natCast_nonneg, if_true, Int.toNat_natCast, hy, Option.bind_some, beq_self_eq_true, Bool.not_true, cond_false, un_mk, Sum.elim_inl, Sum.elim_inr, w1, q2, n2]
      rw [wrap_ok (by omega) (by omega)]
  · exact hd_sl (L := L_laws_heldRingS_1) e_T_laws_heldRingS (fun a b b' i y hy hq hi n => hq n a i hy hi) (fun n a b => by rw [e_L_laws_heldRingS_1]; simp) hh.1 hh.2
set_option maxHeartbeats 4000000 in
set_option maxRecDepth 100000 in
theorem mk_markItemS : MkW (.sl true (.pair (.int .i64) (.pair (.int .i64) (.pair (.int .i64) .str)))) T_laws_markItemS (fun y k k' => T_laws_heldItemS (y, k) = some k') := by
  refine MkW.mono (mkw_sl (e := .pair (.int .i64) (.pair (.int .i64) (.pair (.int .i64) .str))) (L := L_laws_markItemS_1) (Q := (fun y b b' => ∀ n a (i : Nat), a[i]? = some y → i ≤ 1048576 → L_laws_heldItemS_1 (n + 1) (a, b, (i : Int)) = L_laws_heldItemS_1 n (a, b', (i : Int) + 1))) e_T_laws_markItemS (fun a b i y hy hs h0 hW hi => ?_) (fun n a b => by rw [e_L_laws_markItemS_1]; simp)) (fun l k k' hh => ?_)
  · have hlt := (List.getElem?_eq_some_iff.1 hy).1
    obtain ⟨v1, ⟨v2, ⟨v3, v4⟩⟩⟩ := y
    obtain ⟨h_v1, ⟨h_v2, ⟨h_v3, h_v4⟩⟩⟩ := hs
    try simp -implicitDefEqProofs only [wt_pair, wt_int, wt_bool, wt_str] at hW ⊢
    have w1 : IntKind.i64.wrap (b + 1) = b + 1 := wrap_ok (by omega) (by omega)
    have w2 : IntKind.i64.wrap (b + 1 + 1) = b + 1 + 1 := wrap_ok (by omega) (by omega)
    have w3 : IntKind.i64.wrap (b + 1 + 1 + 1) = b + 1 + 1 + 1 := wrap_ok (by omega) (by omega)
    obtain ⟨s4, t4⟩ := x_markText (b + 1 + 1 + 1) (by omega)
    have w5 : IntKind.i64.wrap (b + 1 + 1 + 1 + 1) = b + 1 + 1 + 1 + 1 := wrap_ok (by omega) (by omega)
    refine ⟨b + 1 + 1 + 1 + 1, (b, (b + 1, (b + 1 + 1, s4))), fun n => ?_, fun n a i hy hi => ?_, by omega⟩
    · rw [e_L_laws_markItemS_1]
      simp only [show ((i : Int) < (a.length : Int)) by omega, decide_true, cond_true, Int.natCast_nonneg, if_true, Int.toNat_natCast, hlt, List.length_set, hy, Option.bind_some, List.getElem?_set_self, List.set_set, eq_self, un_mk, Sum.elim_inl, w1, w2, w3, t4, w5]
      rw [wrap_ok (by omega) (by omega)]
    · rw [e_L_laws_heldItemS_1]
      have hlt := (List.getElem?_eq_some_iff.1 hy).1
      simp only [show ((i : Int) < (a.length : Int)) by omega, decide_true, cond_true, Int.natCast_nonneg, if_true, Int.toNat_natCast, hy, Option.bind_some, beq_self_eq_true, Bool.not_true, cond_false, un_mk, Sum.elim_inl, Sum.elim_inr, w1, w2, w3, t4, w5]
      rw [wrap_ok (by omega) (by omega)]
  · exact hd_sl (L := L_laws_heldItemS_1) e_T_laws_heldItemS (fun a b b' i y hy hq hi n => hq n a i hy hi) (fun n a b => by rw [e_L_laws_heldItemS_1]; simp) hh.1 hh.2
set_option maxHeartbeats 4000000 in
set_option maxRecDepth 100000 in
theorem mk_markStringS : MkW (.sl true .str) T_laws_markStringS (fun y k k' => T_laws_heldStringS (y, k) = some k') := by
  refine MkW.mono (mkw_sl (e := .str) (L := L_laws_markStringS_1) (Q := (fun y b b' => ∀ n a (i : Nat), a[i]? = some y → i ≤ 1048576 → L_laws_heldStringS_1 (n + 1) (a, b, (i : Int)) = L_laws_heldStringS_1 n (a, b', (i : Int) + 1))) e_T_laws_markStringS (fun a b i v1 hy h_v1 h0 hW hi => ?_) (fun n a b => by rw [e_L_laws_markStringS_1]; simp)) (fun l k k' hh => ?_)
  · have hlt := (List.getElem?_eq_some_iff.1 hy).1
    try simp -implicitDefEqProofs only [wt_pair, wt_int, wt_bool, wt_str] at hW ⊢
    obtain ⟨s1, t1⟩ := x_markText (b) (by omega)
    have w2 : IntKind.i64.wrap (b + 1) = b + 1 := wrap_ok (by omega) (by omega)
    refine ⟨b + 1, s1, fun n => ?_, fun n a i hy hi => ?_, by omega⟩
    · rw [e_L_laws_markStringS_1]
      simp only [show ((i : Int) < (a.length : Int)) by omega, decide_true, cond_true, Int.natCast_nonneg, if_true, Int.toNat_natCast, hlt, List.length_set, hy, Option.bind_some, List.getElem?_set_self, List.set_set, eq_self, un_mk, Sum.elim_inl, t1, w2]
      rw [wrap_ok (by omega) (by omega)]
    · rw [e_L_laws_heldStringS_1]
      have hlt := (List.getElem?_eq_some_iff.1 hy).1
      simp only [show ((i : Int) < (a.length : Int)) by omega, decide_true, cond_true, Int.natCast_nonneg, if_true, Int.toNat_natCast, hy, Option.bind_some, beq_self_eq_true, Bool.not_true, cond_false, un_mk, Sum.elim_inl, Sum.elim_inr, t1, w2]
      rw [wrap_ok (by omega) (by omega)]
  · exact hd_sl (L := L_laws_heldStringS_1) e_T_laws_heldStringS (fun a b b' i y hy hq hi n => hq n a i hy hi) (fun n a b => by rw [e_L_laws_heldStringS_1]; simp) hh.1 hh.2
set_option maxHeartbeats 4000000 in
set_option maxRecDepth 100000 in
theorem mk_markBundleS : MkW (.sl true (.pair (.int .i64) (.pair (.int .i64) (.pair (.int .i64) (.sl true (.pair (.int .i64) (.pair (.int .i64) (.pair (.int .i64) .str)))))))) T_laws_markBundleS (fun y k k' => T_laws_heldBundleS (y, k) = some k') := by
  refine MkW.mono (mkw_sl (e := .pair (.int .i64) (.pair (.int .i64) (.pair (.int .i64) (.sl true (.pair (.int .i64) (.pair (.int .i64) (.pair (.int .i64) .str))))))) (L := L_laws_markBundleS_1) (Q := (fun y b b' => ∀ n a (i : Nat), a[i]? = some y → i ≤ 1048576 → L_laws_heldBundleS_1 (n + 1) (a, b, (i : Int)) = L_laws_heldBundleS_1 n (a, b', (i : Int) + 1))) e_T_laws_markBundleS (fun a b i y hy hs h0 hW hi => ?_) (fun n a b => by rw [e_L_laws_markBundleS_1]; simp)) (fun l k k' hh => ?_)
  · have hlt := (List.getElem?_eq_some_iff.1 hy).1
    obtain ⟨v1, ⟨v2, ⟨v3, v4⟩⟩⟩ := y
    obtain ⟨h_v1, ⟨h_v2, ⟨h_v3, h_v4⟩⟩⟩ := hs
    try simp -implicitDefEqProofs only [wt_pair, wt_int, wt_bool, wt_str] at hW ⊢
    have g_v4 := wt_nn (.sl true (.pair (.int .i64) (.pair (.int .i64) (.pair (.int .i64) .str)))) v4
    have w1 : IntKind.i64.wrap (b + 1) = b + 1 := wrap_ok (by omega) (by omega)
    have w2 : IntKind.i64.wrap (b + 1 + 1) = b + 1 + 1 := wrap_ok (by omega) (by omega)
    have w3 : IntKind.i64.wrap (b + 1 + 1 + 1) = b + 1 + 1 + 1 := wrap_ok (by omega) (by omega)
    obtain ⟨k4, z4, m4, q4, u4⟩ := mk_markItemS v4 (b + 1 + 1 + 1) h_v4 (by omega) (by (try simp -implicitDefEqProofs only [wt_pair, wt_int, wt_bool, wt_str]); omega)
    try simp -implicitDefEqProofs only [wt_pair, wt_int, wt_bool, wt_str] at u4
    have n4 : decide (k4 < 0) = false := decide_eq_false (by omega)
    refine ⟨k4, (b, (b + 1, (b + 1 + 1, z4))), fun n => ?_, fun n a i hy hi => ?_, by omega⟩
    · rw [e_L_laws_markBundleS_1]
      simp only [show ((i : Int) < (a.length : Int)) by omega, decide_true, cond_true, Int.natCast_nonneg, if_true, Int.toNat_natCast, hlt, List.length_set, hy, Option.bind_some, List.getElem?_set_self, List.set_set, eq_self, un_mk, Sum.elim_inl, w1, w2, w3, m4]
      rw [wrap_ok (by omega) (by omega)]
    · rw [e_L_laws_heldBundleS_1]
      have hlt := (List.getElem?_eq_some_iff.1 hy).1
      simp only [show ((i : Int) < (a.length : Int)) by omega, decide_true, cond_true, Int.natCast_nonneg, if_true, Int.toNat_natCast, hy, Option.bind_some, beq_self_eq_true, Bool.not_true, cond_false, un_mk, Sum.elim_inl, Sum.elim_inr, w1, w2, w3, q4, n4]
      rw [wrap_ok (by omega) (by omega)]
  · exact hd_sl (L := L_laws_heldBundleS_1) e_T_laws_heldBundleS (fun a b b' i y hy hq hi n => hq n a i hy hi) (fun n a b => by rw [e_L_laws_heldBundleS_1]; simp) hh.1 hh.2
set_option maxHeartbeats 4000000 in
set_option maxRecDepth 100000 in
theorem mk_markEventS : MkW (.sl true (.pair (.int .i64) (.pair (.pair (.int .i64) (.sl true (.int .i64))) (.pair (.pair (.int .i64) (.pair (.int .i64) (.pair (.int .i64) .str))) (.sl true (.int .i64)))))) T_laws_markEventS (fun y k k' => T_laws_heldEventS (y, k) = some k') := by
  refine MkW.mono (mkw_sl (e := .pair (.int .i64) (.pair (.pair (.int .i64) (.sl true (.int .i64))) (.pair (.pair (.int .i64) (.pair (.int .i64) (.pair (.int .i64) .str))) (.sl true (.int .i64))))) (L := L_laws_markEventS_1) (Q := (fun y b b' => ∀ n a (i : Nat), a[i]? = some y → i ≤ 1048576 → L_laws_heldEventS_1 (n + 1) (a, b, (i : Int)) = L_laws_heldEventS_1 n (a, b', (i : Int) + 1))) e_T_laws_markEventS (fun a b i y hy hs h0 hW hi => ?_) (fun n a b => by rw [e_L_laws_markEventS_1]; simp)) (fun l k k' hh => ?_)
  · have hlt := (List.getElem?_eq_some_iff.1 hy).1
    obtain ⟨v1, ⟨⟨v2, v3⟩, ⟨⟨v4, ⟨v5, ⟨v6, v7⟩⟩⟩, v8⟩⟩⟩ := y
    obtain ⟨h_v1, ⟨⟨h_v2, h_v3⟩, ⟨⟨h_v4, ⟨h_v5, ⟨h_v6, h_v7⟩⟩⟩, h_v8⟩⟩⟩ := hs
    try simp -implicitDefEqProofs only [wt_pair, wt_int, wt_bool, wt_str] at hW ⊢
    have g_v3 := wt_nn (.sl true (.int .i64)) v3
    have g_v8 := wt_nn (.sl true (.int .i64)) v8
    have w1 : IntKind.i64.wrap (b + 1) = b + 1 := wrap_ok (by omega) (by omega)
    have w2 : IntKind.i64.wrap (b + 1 + 1) = b + 1 + 1 := wrap_ok (by omega) (by omega)
    obtain ⟨k3, z3, m3, q3, u3⟩ := mk_markIntS v3 (b + 1 + 1) h_v3 (by omega) (by (try simp -implicitDefEqProofs only [wt_pair, wt_int, wt_bool, wt_str]); omega)
    try simp -implicitDefEqProofs only [wt_pair, wt_int, wt_bool, wt_str] at u3
    have n3 : decide (k3 < 0) = false := decide_eq_false (by omega)
    have w4 : IntKind.i64.wrap (k3 + 1) = k3 + 1 := wrap_ok (by omega) (by omega)
    have w5 : IntKind.i64.wrap (k3 + 1 + 1) = k3 + 1 + 1 := wrap_ok (by omega) (by omega)
    have w6 : IntKind.i64.wrap (k3 + 1 + 1 + 1) = k3 + 1 + 1 + 1 := wrap_ok (by omega) (by omega)
    obtain ⟨s7, t7⟩ := x_markText (k3 + 1 + 1 + 1) (by omega)
    have w8 : IntKind.i64.wrap (k3 + 1 + 1 + 1 + 1) = k3 + 1 + 1 + 1 + 1 := wrap_ok (by omega) (by omega)
    obtain ⟨k9, z9, m9, q9, u9⟩ := mk_markIntS v8 (k3 + 1 + 1 + 1 + 1) h_v8 (by omega) (by (try simp -implicitDefEqProofs only [wt_pair, wt_int, wt_bool, wt_str]); omega)
    try simp -implicitDefEqProofs only [wt_pair, wt_int, wt_bool, wt_str] at u9
    have n9 : decide (k9 < 0) = false := decide_eq_false (by omega)
    refine ⟨k9, (b, ((b + 1, z3), ((k3, (k3 + 1, (k3 + 1 + 1, s7))), z9))), fun n => ?_, fun n a i hy hi => ?_, by omega⟩
    · rw [e_L_laws_markEventS_1]
      simp only [show ((i : Int) < (a.length : Int)) by omega, decide_true, cond_true, Int.natCast_nonneg, if_true, Int.toNat_natCast, hlt, List.length_set, hy, Option.bind_some, List.getElem?_set_self, List.set_set, eq_self, un_mk, Sum.elim_inl, w1, w2, m3, w4, w5, w6, t7, w8, m9]
      rw [wrap_ok (by omega) (by omega)]
    · rw [e_L_laws_heldEventS_1]
      have hlt := (List.getElem?_eq_some_iff.1 hy).1
      simp only [show ((i : Int) < (a.length : Int)) by omega, decide_true, cond_true, Int.natCast_nonneg, if_true, Int.toNat_natCast, hy, Option.bind_some, beq_self_eq_true, Bool.not_true, cond_false, un_mk, Sum.elim_inl, Sum.elim_inr, w1, w2, w4, w5, w6, t7, w8, q3, n3, q9, n9]
      rw [wrap_ok (by omega) (by omega)]
  · exact hd_sl (L := L_laws_heldEventS_1) e_T_laws_heldEventS (fun a b b' i y hy hq hi n => hq n a i hy hi) (fun n a b => by rw [e_L_laws_heldEventS_1]; simp) hh.1 hh.2
set_option maxHeartbeats 4000000 in
set_option maxRecDepth 100000 in
theorem mk_markDaemonS : MkW (.sl true (.pair (.int .i64) (.pair .bool (.pair (.pair (.int .i64) (.pair (.pair (.int .i64) (.sl true (.int .i64))) (.pair (.sl true (.pair (.int .i64) (.pair (.int .i64) (.pair (.int .i64) .str)))) (.pair (.sl true (.int .i64)) (.pair (.sl true .str) (.pair (.int .i64) (.pair (.int .i64) (.pair (.int .i64) (.pair (.int .i64) (.pair (.int .i64) (.pair (.int .i64) (.pair (.int .i64) (.pair (.int .i64) (.pair (.int .i64) (.sl true (.int .i64)))))))))))))))) (.pair (.int .i64) (.pair (.int .i64) (.pair (.pair (.int .i64) (.sl true (.int .i64))) (.pair (.sl true (.pair (.int .i64) (.pair (.int .i64) (.pair (.int .i64) (.sl true (.pair (.int .i64) (.pair (.int .i64) (.pair (.int .i64) .str)))))))) (.sl true (.pair (.int .i64) (.pair (.pair (.int .i64) (.sl true (.int .i64))) (.pair (.pair (.int .i64) (.pair (.int .i64) (.pair (.int .i64) .str))) (.sl true (.int .i64)))))))))))))) T_laws_markDaemonS (fun y k k' => T_laws_heldDaemonS (y, k) = some k') := by
  refine MkW.mono (mkw_sl (e := .pair (.int .i64) (.pair .bool (.pair (.pair (.int .i64) (.pair (.pair (.int .i64) (.sl true (.int .i64))) (.pair (.sl true (.pair (.int .i64) (.pair (.int .i64) (.pair (.int .i64) .str)))) (.pair (.sl true (.int .i64)) (.pair (.sl true .str) (.pair (.int .i64) (.pair (.int .i64) (.pair (.int .i64) (.pair (.int .i64) (.pair (.int .i64) (.pair (.int .i64) (.pair (.int .i64) (.pair (.int .i64) (.pair (.int .i64) (.sl true (.int .i64)))))))))))))))) (.pair (.int .i64) (.pair (.int .i64) (.pair (.pair (.int .i64) (.sl true (.int .i64))) (.pair (.sl true (.pair (.int .i64) (.pair (.int .i64) (.pair (.int .i64) (.sl true (.pair (.int .i64) (.pair (.int .i64) (.pair (.int .i64) .str)))))))) (.sl true (.pair (.int .i64) (.pair (.pair (.int .i64) (.sl true (.int .i64))) (.pair (.pair (.int .i64) (.pair (.int .i64) (.pair (.int .i64) .str))) (.sl true (.int .i64))))))))))))) (L := L_laws_markDaemonS_1) (Q := (fun y b b' => ∀ n a (i : Nat), a[i]? = some y → i ≤ 1048576 → L_laws_heldDaemonS_1 (n + 1) (a, b, (i : Int)) = L_laws_heldDaemonS_1 n (a, b', (i : Int) + 1))) e_T_laws_markDaemonS (fun a b i y hy hs h0 hW hi => ?_) (fun n a b => by rw [e_L_laws_markDaemonS_1]; simp)) (fun l k k' hh => ?_)
  · have hlt := (List.getElem?_eq_some_iff.1 hy).1
    obtain ⟨v1, ⟨v2, ⟨⟨v3, ⟨⟨v4, v5⟩, ⟨v6, ⟨v7, ⟨v8, ⟨v9, ⟨v10, ⟨v11, ⟨v12, ⟨v13, ⟨v14, ⟨v15, ⟨v16, ⟨v17, v18⟩⟩⟩⟩⟩⟩⟩⟩⟩⟩⟩⟩⟩⟩, ⟨v19, ⟨v20, ⟨⟨v21, v22⟩, ⟨v23, v24⟩⟩⟩⟩⟩⟩⟩ := y
    obtain ⟨h_v1, ⟨h_v2, ⟨⟨h_v3, ⟨⟨h_v4, h_v5⟩, ⟨h_v6, ⟨h_v7, ⟨h_v8, ⟨h_v9, ⟨h_v10, ⟨h_v11, ⟨h_v12, ⟨h_v13, ⟨h_v14, ⟨h_v15, ⟨h_v16, ⟨h_v17, h_v18⟩⟩⟩⟩⟩⟩⟩⟩⟩⟩⟩⟩⟩⟩, ⟨h_v19, ⟨h_v20, ⟨⟨h_v21, h_v22⟩, ⟨h_v23, h_v24⟩⟩⟩⟩⟩⟩⟩ := hs
    try simp -implicitDefEqProofs only [wt_pair, wt_int, wt_bool, wt_str] at hW ⊢
    have g_v5 := wt_nn (.sl true (.int .i64)) v5
    have g_v6 := wt_nn (.sl true (.pair (.int .i64) (.pair (.int .i64) (.pair (.int .i64) .str)))) v6
    have g_v7 := wt_nn (.sl true (.int .i64)) v7
    have g_v8 := wt_nn (.sl true .str) v8
    have g_v18 := wt_nn (.sl true (.int .i64)) v18
    have g_v22 := wt_nn (.sl true (.int .i64)) v22
    have g_v23 := wt_nn (.sl true (.pair (.int .i64) (.pair (.int .i64) (.pair (.int .i64) (.sl true (.pair (.int .i64) (.pair (.int .i64) (.pair (.int .i64) .str)))))))) v23
    have g_v24 := wt_nn (.sl true (.pair (.int .i64) (.pair (.pair (.int .i64) (.sl true (.int .i64))) (.pair (.pair (.int .i64) (.pair (.int .i64) (.pair (.int .i64) .str))) (.sl true (.int .i64)))))) v24
    have w1 : IntKind.i64.wrap (b + 1) = b + 1 := wrap_ok (by omega) (by omega)
    have w2 : IntKind.i64.wrap (b + 1 + 1) = b + 1 + 1 := wrap_ok (by omega) (by omega)
    have w3 : IntKind.i64.wrap (b + 1 + 1 + 1) = b + 1 + 1 + 1 := wrap_ok (by omega) (by omega)
    have w4 : IntKind.i64.wrap (b + 1 + 1 + 1 + 1) = b + 1 + 1 + 1 + 1 := wrap_ok (by omega) (by omega)
    obtain ⟨k5, z5, m5, q5, u5⟩ := mk_markIntS v5 (b + 1 + 1 + 1 + 1) h_v5 (by omega) (by (try simp -implicitDefEqProofs only [wt_pair, wt_int, wt_bool, wt_str]); omega)
    try simp -implicitDefEqProofs only [wt_pair, wt_int, wt_bool, wt_str] at u5
    have n5 : decide (k5 < 0) = false := decide_eq_false (by omega)
    obtain ⟨k6, z6, m6, q6, u6⟩ := mk_markItemS v6 (k5) h_v6 (by omega) (by (try simp -implicitDefEqProofs only [wt_pair, wt_int, wt_bool, wt_str]); omega)
    try simp -implicitDefEqProofs only [wt_pair, wt_int, wt_bool, wt_str] at u6
    have n6 : decide (k6 < 0) = false := decide_eq_false (by omega)
    obtain ⟨k7, z7, m7, q7, u7⟩ := mk_markIntS v7 (k6) h_v7 (by omega) (by (try simp -implicitDefEqProofs only [wt_pair, wt_int, wt_bool, wt_str]); omega)
    try simp -implicitDefEqProofs only [wt_pair, wt_int, wt_bool, wt_str] at u7
    have n7 : decide (k7 < 0) = false := decide_eq_false (by omega)
    obtain ⟨k8, z8, m8, q8, u8⟩ := mk_markStringS v8 (k7) h_v8 (by omega) (by (try simp -implicitDefEqProofs only [wt_pair, wt_int, wt_bool, wt_str]); omega)
    try simp -implicitDefEqProofs only [wt_pair, wt_int, wt_bool, wt_str] at u8
    have n8 : decide (k8 < 0) = false := decide_eq_false (by omega)
    have w9 : IntKind.i64.wrap (k8 + 1) = k8 + 1 := wrap_ok (by omega) (by omega)
    have w10 : IntKind.i64.wrap (k8 + 1 + 1) = k8 + 1 + 1 := wrap_ok (by omega) (by omega)
    have w11 : IntKind.i64.wrap (k8 + 1 + 1 + 1) = k8 + 1 + 1 + 1 := wrap_ok (by omega) (by omega)
    have w12 : IntKind.i64.wrap (k8 + 1 + 1 + 1 + 1) = k8 + 1 + 1 + 1 + 1 := wrap_ok (by omega) (by omega)
    have w13 : IntKind.i64.wrap (k8 + 1 + 1 + 1 + 1 + 1) = k8 + 1 + 1 + 1 + 1 + 1 := wrap_ok (by omega) (by omega)
    have w14 : IntKind.i64.wrap (k8 + 1 + 1 + 1 + 1 + 1 + 1) = k8 + 1 + 1 + 1 + 1 + 1 + 1 := wrap_ok (by omega) (by omega)
    have w15 : IntKind.i64.wrap (k8 + 1 + 1 + 1 + 1 + 1 + 1 + 1) = k8 + 1 + 1 + 1 + 1 + 1 + 1 + 1 := wrap_ok (by omega) (by omega)
    have w16 : IntKind.i64.wrap (k8 + 1 + 1 + 1 + 1 + 1 + 1 + 1 + 1) = k8 + 1 + 1 + 1 + 1 + 1 + 1 + 1 + 1 := wrap_ok (by omega) (by omega)
    have w17 : IntKind.i64.wrap (k8 + 1 + 1 + 1 + 1 + 1 + 1 + 1 + 1 + 1) = k8 + 1 + 1 + 1 + 1 + 1 + 1 + 1 + 1 + 1 := wrap_ok (by omega) (by omega)
    obtain ⟨k18, z18, m18, q18, u18⟩ := mk_markIntS v18 (k8 + 1 + 1 + 1 + 1 + 1 + 1 + 1 + 1 + 1) h_v18 (by omega) (by (try simp -implicitDefEqProofs only [wt_pair, wt_int, wt_bool, wt_str]); omega)
    try simp -implicitDefEqProofs only [wt_pair, wt_int, wt_bool, wt_str] at u18
    have n18 : decide (k18 < 0) = false := decide_eq_false (by omega)
    have w19 : IntKind.i64.wrap (k18 + 1) = k18 + 1 := wrap_ok (by omega) (by omega)
    have w20 : IntKind.i64.wrap (k18 + 1 + 1) = k18 + 1 + 1 := wrap_ok (by omega) (by omega)
    have w21 : IntKind.i64.wrap (k18 + 1 + 1 + 1) = k18 + 1 + 1 + 1 := wrap_ok (by omega) (by omega)
    obtain ⟨k22, z22, m22, q22, u22⟩ := mk_markIntS v22 (k18 + 1 + 1 + 1) h_v22 (by omega) (by (try simp -implicitDefEqProofs only [wt_pair, wt_int, wt_bool, wt_str]); omega)
    try simp -implicitDefEqProofs only [wt_pair, wt_int, wt_bool, wt_str] at u22
    have n22 : decide (k22 < 0) = false := decide_eq_false (by omega)
    obtain ⟨k23, z23, m23, q23, u23⟩ := mk_markBundleS v23 (k22) h_v23 (by omega) (by (try simp -implicitDefEqProofs only [wt_pair, wt_int, wt_bool, wt_str]); omega)
    try simp -implicitDefEqProofs only [wt_pair, wt_int, wt_bool, wt_str] at u23
    have n23 : decide (k23 < 0) = false := decide_eq_false (by omega)
    obtain ⟨k24, z24, m24, q24, u24⟩ := mk_markEventS v24 (k23) h_v24 (by omega) (by (try simp -implicitDefEqProofs only [wt_pair, wt_int, wt_bool, wt_str]); omega)
    try simp -implicitDefEqProofs only [wt_pair, wt_int, wt_bool, wt_str] at u24
    have n24 : decide (k24 < 0) = false := decide_eq_false (by omega)
    refine ⟨k24, (b, (((b + 1).tmod 3 == 0), ((b + 1 + 1, ((b + 1 + 1 + 1, z5), (z6, (z7, (z8, (k8, (k8 + 1, (k8 + 1 + 1, (k8 + 1 + 1 + 1, (k8 + 1 + 1 + 1 + 1, (k8 + 1 + 1 + 1 + 1 + 1, (k8 + 1 + 1 + 1 + 1 + 1 + 1, (k8 + 1 + 1 + 1 + 1 + 1 + 1 + 1, (k8 + 1 + 1 + 1 + 1 + 1 + 1 + 1 + 1, z18)))))))))))))), (k18, (k18 + 1, ((k18 + 1 + 1, z22), (z23, z24))))))), fun n => ?_, fun n a i hy hi => ?_, by omega⟩
    · rw [e_L_laws_markDaemonS_1]
      simp only [show ((i : Int) < (a.length : Int)) by omega, decide_true, cond_true, Int.natCast_nonneg, if_true, Int.toNat_natCast, hlt, List.length_set, hy, Option.bind_some, List.getElem?_set_self, List.set_set, eq_self, un_mk, Sum.elim_inl, w1, w2, w3, w4, m5, m6, m7, m8, w9, w10, w11, w12, w13, w14, w15, w16, w17, m18, w19, w20, w21, m22, m23, m24]
      rw [wrap_ok (by omega) (by omega)]
    · rw [e_L_laws_heldDaemonS_1]
      have hlt := (List.getElem?_eq_some_iff.1 hy).1
      simp only [show ((i : Int) < (a.length : Int)) by omega, decide_true, cond_true, Int.natCast_nonneg, if_true, Int.toNat_natCast, hy, Option.bind_some, beq_self_eq_true, Bool.not_true, cond_false, un_mk, Sum.elim_inl, Sum.elim_inr, w1, w2, w3, w4, w9, w10, w11, w12, w13, w14, w15, w16, w17, w19, w20, w21, q5, n5, q6, n6, q7, n7, q8, n8, q18, n18, q22, n22, q23, n23, q24, n24]
      rw [wrap_ok (by omega) (by omega)]
  · exact hd_sl (L := L_laws_heldDaemonS_1) e_T_laws_heldDaemonS (fun a b b' i y hy hq hi n => hq n a i hy hi) (fun n a b => by rw [e_L_laws_heldDaemonS_1]; simp) hh.1 hh.2
set_option maxHeartbeats 4000000 in
set_option maxRecDepth 100000 in
theorem mk_markLetterS : MkW (.sl true (.pair (.int .i64) (.pair (.int .i64) (.pair (.int .i64) (.pair (.pair (.int .i64) (.pair (.int .i64) (.pair (.int .i64) .str))) (.pair (.pair (.int .i64) (.pair (.int .i64) (.pair (.int .i64) (.pair (.int .i64) (.pair (.int .i64) (.sl true (.int .i64))))))) (.pair (.int .i64) (.pair (.int .i64) (.pair (.int .i64) (.sl true (.pair (.int .i64) (.pair (.int .i64) (.pair (.int .i64) .str))))))))))))) T_laws_markLetterS (fun y k k' => T_laws_heldLetterS (y, k) = some k') := by
  refine MkW.mono (mkw_sl (e := .pair (.int .i64) (.pair (.int .i64) (.pair (.int .i64) (.pair (.pair (.int .i64) (.pair (.int .i64) (.pair (.int .i64) .str))) (.pair (.pair (.int .i64) (.pair (.int .i64) (.pair (.int .i64) (.pair (.int .i64) (.pair (.int .i64) (.sl true (.int .i64))))))) (.pair (.int .i64) (.pair (.int .i64) (.pair (.int .i64) (.sl true (.pair (.int .i64) (.pair (.int .i64) (.pair (.int .i64) .str)))))))))))) (L := L_laws_markLetterS_1) (Q := (fun y b b' => ∀ n a (i : Nat), a[i]? = some y → i ≤ 1048576 → L_laws_heldLetterS_1 (n + 1) (a, b, (i : Int)) = L_laws_heldLetterS_1 n (a, b', (i : Int) + 1))) e_T_laws_markLetterS (fun a b i y hy hs h0 hW hi => ?_) (fun n a b => by rw [e_L_laws_markLetterS_1]; simp)) (fun l k k' hh => ?_)
  · have hlt := (List.getElem?_eq_some_iff.1 hy).1
    obtain ⟨v1, ⟨v2, ⟨v3, ⟨⟨v4, ⟨v5, ⟨v6, v7⟩⟩⟩, ⟨⟨v8, ⟨v9, ⟨v10, ⟨v11, ⟨v12, v13⟩⟩⟩⟩⟩, ⟨v14, ⟨v15, ⟨v16, v17⟩⟩⟩⟩⟩⟩⟩⟩ := y
    obtain ⟨h_v1, ⟨h_v2, ⟨h_v3, ⟨⟨h_v4, ⟨h_v5, ⟨h_v6, h_v7⟩⟩⟩, ⟨⟨h_v8, ⟨h_v9, ⟨h_v10, ⟨h_v11, ⟨h_v12, h_v13⟩⟩⟩⟩⟩, ⟨h_v14, ⟨h_v15, ⟨h_v16, h_v17⟩⟩⟩⟩⟩⟩⟩⟩ := hs
    try simp -implicitDefEqProofs only [wt_pair, wt_int, wt_bool, wt_str] at hW ⊢
    have g_v13 := wt_nn (.sl true (.int .i64)) v13
    have g_v17 := wt_nn (.sl true (.pair (.int .i64) (.pair (.int .i64) (.pair (.int .i64) .str)))) v17
    have w1 : IntKind.i64.wrap (b + 1) = b + 1 := wrap_ok (by omega) (by omega)
    have w2 : IntKind.i64.wrap (b + 1 + 1) = b + 1 + 1 := wrap_ok (by omega) (by omega)
    have w3 : IntKind.i64.wrap (b + 1 + 1 + 1) = b + 1 + 1 + 1 := wrap_ok (by omega) (by omega)
    have w4 : IntKind.i64.wrap (b + 1 + 1 + 1 + 1) = b + 1 + 1 + 1 + 1 := wrap_ok (by omega) (by omega)
    have w5 : IntKind.i64.wrap (b + 1 + 1 + 1 + 1 + 1) = b + 1 + 1 + 1 + 1 + 1 := wrap_ok (by omega) (by omega)
    have w6 : IntKind.i64.wrap (b + 1 + 1 + 1 + 1 + 1 + 1) = b + 1 + 1 + 1 + 1 + 1 + 1 := wrap_ok (by omega) (by omega)
    obtain ⟨s7, t7⟩ := x_markText (b + 1 + 1 + 1 + 1 + 1 + 1) (by omega)
    have w8 : IntKind.i64.wrap (b + 1 + 1 + 1 + 1 + 1 + 1 + 1) = b + 1 + 1 + 1 + 1 + 1 + 1 + 1 := wrap_ok (by omega) (by omega)
    have w9 : IntKind.i64.wrap (b + 1 + 1 + 1 + 1 + 1 + 1 + 1 + 1) = b + 1 + 1 + 1 + 1 + 1 + 1 + 1 + 1 := wrap_ok (by omega) (by omega)
    have w10 : IntKind.i64.wrap (b + 1 + 1 + 1 + 1 + 1 + 1 + 1 + 1 + 1) = b + 1 + 1 + 1 + 1 + 1 + 1 + 1 + 1 + 1 := wrap_ok (by omega) (by omega)
    have w11 : IntKind.i64.wrap (b + 1 + 1 + 1 + 1 + 1 + 1 + 1 + 1 + 1 + 1) = b + 1 + 1 + 1 + 1 + 1 + 1 + 1 + 1 + 1 + 1 := wrap_ok (by omega) (by omega)
    have w12 : IntKind.i64.wrap (b + 1 + 1 + 1 + 1 + 1 + 1 + 1 + 1 + 1 + 1 + 1) = b + 1 + 1 + 1 + 1 + 1 + 1 + 1 + 1 + 1 + 1 + 1 := wrap_ok (by omega) (by omega)
    have w13 : IntKind.i64.wrap (b + 1 + 1 + 1 + 1 + 1 + 1 + 1 + 1 + 1 + 1 + 1 + 1) = b + 1 + 1 + 1 + 1 + 1 + 1 + 1 + 1 + 1 + 1 + 1 + 1 := wrap_ok (by omega) (by omega)
    obtain ⟨k14, z14, m14, q14, u14⟩ := mk_markIntS v13 (b + 1 + 1 + 1 + 1 + 1 + 1 + 1 + 1 + 1 + 1 + 1 + 1) h_v13 (by omega) (by (try simp -implicitDefEqProofs only [wt_pair, wt_int, wt_bool, wt_str]); omega)
    try simp -implicitDefEqProofs only [wt_pair, wt_int, wt_bool, wt_str] at u14
    have n14 : decide (k14 < 0) = false := decide_eq_false (by omega)
    have w15 : IntKind.i64.wrap (k14 + 1) = k14 + 1 := wrap_ok (by omega) (by omega)
    have w16 : IntKind.i64.wrap (k14 + 1 + 1) = k14 + 1 + 1 := wrap_ok (by omega) (by omega)
    have w17 : IntKind.i64.wrap (k14 + 1 + 1 + 1) = k14 + 1 + 1 + 1 := wrap_ok (by omega) (by omega)
    obtain ⟨k18, z18, m18, q18, u18⟩ := mk_markItemS v17 (k14 + 1 + 1 + 1) h_v17 (by omega) (by (try simp -implicitDefEqProofs only [wt_pair, wt_int, wt_bool, wt_str]); omega)
    try simp -implicitDefEqProofs only [wt_pair, wt_int, wt_bool, wt_str] at u18
    have n18 : decide (k18 < 0) = false := decide_eq_false (by omega)
    refine ⟨k18, (b, (b + 1, (b + 1 + 1, ((b + 1 + 1 + 1, (b + 1 + 1 + 1 + 1, (b + 1 + 1 + 1 + 1 + 1, s7))), ((b + 1 + 1 + 1 + 1 + 1 + 1 + 1, (b + 1 + 1 + 1 + 1 + 1 + 1 + 1 + 1, (b + 1 + 1 + 1 + 1 + 1 + 1 + 1 + 1 + 1, (b + 1 + 1 + 1 + 1 + 1 + 1 + 1 + 1 + 1 + 1, (b + 1 + 1 + 1 + 1 + 1 + 1 + 1 + 1 + 1 + 1 + 1, z14))))), (k14, (k14 + 1, (k14 + 1 + 1, z18)))))))), fun n => ?_, fun n a i hy hi => ?_, by omega⟩
    · rw [e_L_laws_markLetterS_1]
      simp only [show ((i : Int) < (a.length : Int)) by omega, decide_true, cond_true, Int.natCast_nonneg, if_true, Int.toNat_natCast, hlt, List.length_set, hy, Option.bind_some, List.getElem?_set_self, List.set_set, eq_self, un_mk, Sum.elim_inl, w1, w2, w3, w4, w5, w6, t7, w8, w9, w10, w11, w12, w13, m14, w15, w16, w17, m18]
      rw [wrap_ok (by omega) (by omega)]
    · rw [e_L_laws_heldLetterS_1]
      have hlt := (List.getElem?_eq_some_iff.1 hy).1
      simp only [show ((i : Int) < (a.length : Int)) by omega, decide_true, cond_true, Int.natCast_nonneg, if_true, Int.toNat_natCast, hy, Option.bind_some, beq_self_eq_true, Bool.not_true, cond_false, un_mk, Sum.elim_inl, Sum.elim_inr, w1, w2, w3, w4, w5, w6, t7, w8, w9, w10, w11, w12, w13, w15, w16, w17, q14, n14, q18, n18]
      rw [wrap_ok (by omega) (by omega)]
  · exact hd_sl (L := L_laws_heldLetterS_1) e_T_laws_heldLetterS (fun a b b' i y hy hq hi n => hq n a i hy hi) (fun n a b => by rw [e_L_laws_heldLetterS_1]; simp) hh.1 hh.2
set_option maxHeartbeats 4000000 in
set_option maxRecDepth 100000 in
theorem mk_markWorld : MkW (.pair (.sl true (.pair (.int .i64) (.sl true (.int .i64)))) (.pair (.sl true (.pair (.int .i64) (.pair .bool (.pair (.pair (.int .i64) (.pair (.pair (.int .i64) (.sl true (.int .i64))) (.pair (.sl true (.pair (.int .i64) (.pair (.int .i64) (.pair (.int .i64) .str)))) (.pair (.sl true (.int .i64)) (.pair (.sl true .str) (.pair (.int .i64) (.pair (.int .i64) (.pair (.int .i64) (.pair (.int .i64) (.pair (.int .i64) (.pair (.int .i64) (.pair (.int .i64) (.pair (.int .i64) (.pair (.int .i64) (.sl true (.int .i64)))))))))))))))) (.pair (.int .i64) (.pair (.int .i64) (.pair (.pair (.int .i64) (.sl true (.int .i64))) (.pair (.sl true (.pair (.int .i64) (.pair (.int .i64) (.pair (.int .i64) (.sl true (.pair (.int .i64) (.pair (.int .i64) (.pair (.int .i64) .str)))))))) (.sl true (.pair (.int .i64) (.pair (.pair (.int .i64) (.sl true (.int .i64))) (.pair (.pair (.int .i64) (.pair (.int .i64) (.pair (.int .i64) .str))) (.sl true (.int .i64)))))))))))))) (.pair (.sl true (.pair (.int .i64) (.pair (.int .i64) (.pair (.int .i64) (.pair (.pair (.int .i64) (.pair (.int .i64) (.pair (.int .i64) .str))) (.pair (.pair (.int .i64) (.pair (.int .i64) (.pair (.int .i64) (.pair (.int .i64) (.pair (.int .i64) (.sl true (.int .i64))))))) (.pair (.int .i64) (.pair (.int .i64) (.pair (.int .i64) (.sl true (.pair (.int .i64) (.pair (.int .i64) (.pair (.int .i64) .str))))))))))))) (.sl true (.pair (.int .i64) (.pair (.pair (.int .i64) (.sl true (.int .i64))) (.pair (.pair (.int .i64) (.pair (.int .i64) (.pair (.int .i64) .str))) (.sl true (.int .i64))))))))) T_laws_markWorld (fun y k k' => T_laws_heldWorld (y, k) = some k') := by
  rintro ⟨v1, ⟨v2, ⟨v3, v4⟩⟩⟩ b ⟨h_v1, ⟨h_v2, ⟨h_v3, h_v4⟩⟩⟩ h0 hW
  try simp -implicitDefEqProofs only [wt_pair, wt_int, wt_bool, wt_str] at hW ⊢
  have g_v1 := wt_nn (.sl true (.pair (.int .i64) (.sl true (.int .i64)))) v1
  have g_v2 := wt_nn (.sl true (.pair (.int .i64) (.pair .bool (.pair (.pair (.int .i64) (.pair (.pair (.int .i64) (.sl true (.int .i64))) (.pair (.sl true (.pair (.int .i64) (.pair (.int .i64) (.pair (.int .i64) .str)))) (.pair (.sl true (.int .i64)) (.pair (.sl true .str) (.pair (.int .i64) (.pair (.int .i64) (.pair (.int .i64) (.pair (.int .i64) (.pair (.int .i64) (.pair (.int .i64) (.pair (.int .i64) (.pair (.int .i64) (.pair (.int .i64) (.sl true (.int .i64)))))))))))))))) (.pair (.int .i64) (.pair (.int .i64) (.pair (.pair (.int .i64) (.sl true (.int .i64))) (.pair (.sl true (.pair (.int .i64) (.pair (.int .i64) (.pair (.int .i64) (.sl true (.pair (.int .i64) (.pair (.int .i64) (.pair (.int .i64) .str)))))))) (.sl true (.pair (.int .i64) (.pair (.pair (.int .i64) (.sl true (.int .i64))) (.pair (.pair (.int .i64) (.pair (.int .i64) (.pair (.int .i64) .str))) (.sl true (.int .i64)))))))))))))) v2
  have g_v3 := wt_nn (.sl true (.pair (.int .i64) (.pair (.int .i64) (.pair (.int .i64) (.pair (.pair (.int .i64) (.pair (.int .i64) (.pair (.int .i64) .str))) (.pair (.pair (.int .i64) (.pair (.int .i64) (.pair (.int .i64) (.pair (.int .i64) (.pair (.int .i64) (.sl true (.int .i64))))))) (.pair (.int .i64) (.pair (.int .i64) (.pair (.int .i64) (.sl true (.pair (.int .i64) (.pair (.int .i64) (.pair (.int .i64) .str))))))))))))) v3
  have g_v4 := wt_nn (.sl true (.pair (.int .i64) (.pair (.pair (.int .i64) (.sl true (.int .i64))) (.pair (.pair (.int .i64) (.pair (.int .i64) (.pair (.int .i64) .str))) (.sl true (.int .i64)))))) v4
  obtain ⟨k1, z1, m1, q1, u1⟩ := mk_markRingS v1 (b) h_v1 (by omega) (by (try simp -implicitDefEqProofs only [wt_pair, wt_int, wt_bool, wt_str]); omega)
  try simp -implicitDefEqProofs only [wt_pair, wt_int, wt_bool, wt_str] at u1
  have n1 : decide (k1 < 0) = false := decide_eq_false (by omega)
  obtain ⟨k2, z2, m2, q2, u2⟩ := mk_markDaemonS v2 (k1) h_v2 (by omega) (by (try simp -implicitDefEqProofs only [wt_pair, wt_int, wt_bool, wt_str]); omega)
  try simp -implicitDefEqProofs only [wt_pair, wt_int, wt_bool, wt_str] at u2
  have n2 : decide (k2 < 0) = false := decide_eq_false (by omega)
  obtain ⟨k3, z3, m3, q3, u3⟩ := mk_markLetterS v3 (k2) h_v3 (by omega) (by (try simp -implicitDefEqProofs only [wt_pair, wt_int, wt_bool, wt_str]); omega)
  try simp -implicitDefEqProofs only [wt_pair, wt_int, wt_bool, wt_str] at u3
  have n3 : decide (k3 < 0) = false := decide_eq_false (by omega)
  obtain ⟨k4, z4, m4, q4, u4⟩ := mk_markEventS v4 (k3) h_v4 (by omega) (by (try simp -implicitDefEqProofs only [wt_pair, wt_int, wt_bool, wt_str]); omega)
  try simp -implicitDefEqProofs only [wt_pair, wt_int, wt_bool, wt_str] at u4
  have n4 : decide (k4 < 0) = false := decide_eq_false (by omega)
  refine ⟨k4, (z1, (z2, (z3, z4))), ?_, ?_, by omega⟩
  · rw [e_T_laws_markWorld]
    simp only [Option.bind_some, m1, m2, m3, m4]
  · rw [e_T_laws_heldWorld]
    simp only [Option.bind_some, cond_false, q1, n1, q2, n2, q3, n3, q4, n4]
set_option maxHeartbeats 4000000 in
set_option maxRecDepth 100000 in
theorem mk_markCallerS : MkW (.sl true (.pair (.pair (.int .i64) (.pair .str (.pair (.pair .str .bool) (.pair .bool (.sl true .str))))) (.pair (.pair .str (.pair (.sl true .str) .bool)) (.pair .str (.sl true .str))))) T_laws_markCallerS (fun y k k' => T_laws_heldCallerS (y, k) = some k') := by
  refine MkW.mono (mkw_sl (e := .pair (.pair (.int .i64) (.pair .str (.pair (.pair .str .bool) (.pair .bool (.sl true .str))))) (.pair (.pair .str (.pair (.sl true .str) .bool)) (.pair .str (.sl true .str)))) (L := L_laws_markCallerS_1) (Q := (fun y b b' => ∀ n a (i : Nat), a[i]? = some y → i ≤ 1048576 → L_laws_heldCallerS_1 (n + 1) (a, b, (i : Int)) = L_laws_heldCallerS_1 n (a, b', (i : Int) + 1))) e_T_laws_markCallerS (fun a b i y hy hs h0 hW hi => ?_) (fun n a b => by rw [e_L_laws_markCallerS_1]; simp)) (fun l k k' hh => ?_)
  · have hlt := (List.getElem?_eq_some_iff.1 hy).1
    obtain ⟨⟨v1, ⟨v2, ⟨⟨v3, v4⟩, ⟨v5, v6⟩⟩⟩⟩, ⟨⟨v7, ⟨v8, v9⟩⟩, ⟨v10, v11⟩⟩⟩ := y
    obtain ⟨⟨h_v1, ⟨h_v2, ⟨⟨h_v3, h_v4⟩, ⟨h_v5, h_v6⟩⟩⟩⟩, ⟨⟨h_v7, ⟨h_v8, h_v9⟩⟩, ⟨h_v10, h_v11⟩⟩⟩ := hs
    try simp -implicitDefEqProofs only [wt_pair, wt_int, wt_bool, wt_str] at hW ⊢
    have g_v6 := wt_nn (.sl true .str) v6
    have g_v8 := wt_nn (.sl true .str) v8
    have g_v11 := wt_nn (.sl true .str) v11
    have w1 : IntKind.i64.wrap (b + 1) = b + 1 := wrap_ok (by omega) (by omega)
    obtain ⟨s2, t2⟩ := x_markText (b + 1) (by omega)
    have w3 : IntKind.i64.wrap (b + 1 + 1) = b + 1 + 1 := wrap_ok (by omega) (by omega)
    obtain ⟨s4, t4⟩ := x_markText (b + 1 + 1) (by omega)
    have w5 : IntKind.i64.wrap (b + 1 + 1 + 1) = b + 1 + 1 + 1 := wrap_ok (by omega) (by omega)
    have w6 : IntKind.i64.wrap (b + 1 + 1 + 1 + 1) = b + 1 + 1 + 1 + 1 := wrap_ok (by omega) (by omega)
    have w7 : IntKind.i64.wrap (b + 1 + 1 + 1 + 1 + 1) = b + 1 + 1 + 1 + 1 + 1 := wrap_ok (by omega) (by omega)
    obtain ⟨k8, z8, m8, q8, u8⟩ := mk_markStringS v6 (b + 1 + 1 + 1 + 1 + 1) h_v6 (by omega) (by (try simp -implicitDefEqProofs only [wt_pair, wt_int, wt_bool, wt_str]); omega)
    try simp -implicitDefEqProofs only [wt_pair, wt_int, wt_bool, wt_str] at u8
    have n8 : decide (k8 < 0) = false := decide_eq_false (by omega)
    obtain ⟨s9, t9⟩ := x_markText (k8) (by omega)
    have w10 : IntKind.i64.wrap (k8 + 1) = k8 + 1 := wrap_ok (by omega) (by omega)
    obtain ⟨k11, z11, m11, q11, u11⟩ := mk_markStringS v8 (k8 + 1) h_v8 (by omega) (by (try simp -implicitDefEqProofs only [wt_pair, wt_int, wt_bool, wt_str]); omega)
    try simp -implicitDefEqProofs only [wt_pair, wt_int, wt_bool, wt_str] at u11
    have n11 : decide (k11 < 0) = false := decide_eq_false (by omega)
    have w12 : IntKind.i64.wrap (k11 + 1) = k11 + 1 := wrap_ok (by omega) (by omega)
    obtain ⟨s13, t13⟩ := x_markText (k11 + 1) (by omega)
    have w14 : IntKind.i64.wrap (k11 + 1 + 1) = k11 + 1 + 1 := wrap_ok (by omega) (by omega)
    obtain ⟨k15, z15, m15, q15, u15⟩ := mk_markStringS v11 (k11 + 1 + 1) h_v11 (by omega) (by (try simp -implicitDefEqProofs only [wt_pair, wt_int, wt_bool, wt_str]); omega)
    try simp -implicitDefEqProofs only [wt_pair, wt_int, wt_bool, wt_str] at u15
    have n15 : decide (k15 < 0) = false := decide_eq_false (by omega)
    refine ⟨k15, ((b, (s2, ((s4, ((b + 1 + 1 + 1).tmod 3 == 0)), (((b + 1 + 1 + 1 + 1).tmod 3 == 0), z8)))), ((s9, (z11, ((k11).tmod 3 == 0))), (s13, z15))), fun n => ?_, fun n a i hy hi => ?_, by omega⟩
    · rw [e_L_laws_markCallerS_1]
      simp only [show ((i : Int) < (a.length : Int)) by omega, decide_true, cond_true, Int.natCast_nonneg, if_true, Int.toNat_natCast, hlt, List.length_set, hy, Option.bind_some, List.getElem?_set_self, List.set_set, eq_self, un_mk, Sum.elim_inl, w1, t2, w3, t4, w5, w6, w7, m8, t9, w10, m11, w12, t13, w14, m15]
      rw [wrap_ok (by omega) (by omega)]
    · rw [e_L_laws_heldCallerS_1]
      have hlt := (List.getElem?_eq_some_iff.1 hy).1
      simp only [show ((i : Int) < (a.length : Int)) by omega, decide_true, cond_true, Int.natCast_nonneg, if_true, Int.toNat_natCast, hy, Option.bind_some, beq_self_eq_true, Bool.not_true, cond_false, un_mk, Sum.elim_inl, Sum.elim_inr, w1, t2, w3, t4, w5, w6, w7, t9, w10, w12, t13, w14, q8, n8, q11, n11, q15, n15]
      rw [wrap_ok (by omega) (by omega)]
  · exact hd_sl (L := L_laws_heldCallerS_1) e_T_laws_heldCallerS (fun a b b' i y hy hq hi n => hq n a i hy hi) (fun n a b => by rw [e_L_laws_heldCallerS_1]; simp) hh.1 hh.2
set_option maxHeartbeats 4000000 in
set_option maxRecDepth 100000 in
theorem mk_markGroupS : MkW (.sl true (.pair .str (.sl true .str))) T_laws_markGroupS (fun y k k' => T_laws_heldGroupS (y, k) = some k') := by
  refine MkW.mono (mkw_sl (e := .pair .str (.sl true .str)) (L := L_laws_markGroupS_1) (Q := (fun y b b' => ∀ n a (i : Nat), a[i]? = some y → i ≤ 1048576 → L_laws_heldGroupS_1 (n + 1) (a, b, (i : Int)) = L_laws_heldGroupS_1 n (a, b', (i : Int) + 1))) e_T_laws_markGroupS (fun a b i y hy hs h0 hW hi => ?_) (fun n a b => by rw [e_L_laws_markGroupS_1]; simp)) (fun l k k' hh => ?_)
  · have hlt := (List.getElem?_eq_some_iff.1 hy).1
    obtain ⟨v1, v2⟩ := y
    obtain ⟨h_v1, h_v2⟩ := hs
    try simp -implicitDefEqProofs only [wt_pair, wt_int, wt_bool, wt_str] at hW ⊢
    have g_v2 := wt_nn (.sl true .str) v2
    obtain ⟨s1, t1⟩ := x_markText (b) (by omega)
    have w2 : IntKind.i64.wrap (b + 1) = b + 1 := wrap_ok (by omega) (by omega)
    obtain ⟨k3, z3, m3, q3, u3⟩ := mk_markStringS v2 (b + 1) h_v2 (by omega) (by (try simp -implicitDefEqProofs only [wt_pair, wt_int, wt_bool, wt_str]); omega)
    try simp -implicitDefEqProofs only [wt_pair, wt_int, wt_bool, wt_str] at u3
    have n3 : decide (k3 < 0) = false := decide_eq_false (by omega)
    refine ⟨k3, (s1, z3), fun n => ?_, fun n a i hy hi => ?_, by omega⟩
    · rw [e_L_laws_markGroupS_1]
      simp only [show ((i : Int) < (a.length : Int)) by omega, decide_true, cond_true, Int.natCast_nonneg, if_true, Int.toNat_natCast, hlt, List.length_set, hy, Option.bind_some, List.getElem?_set_self, List.set_set, eq_self, un_mk, Sum.elim_inl, t1, w2, m3]
      rw [wrap_ok (by omega) (by omega)]
    · rw [e_L_laws_heldGroupS_1]
      have hlt := (List.getElem?_eq_some_iff.1 hy).1
      simp only [show ((i : Int) < (a.length : Int)) by omega, decide_true, cond_true, Int.natCast_nonneg, if_true, Int.toNat_natCast, hy, Option.bind_some, beq_self_eq_true, Bool.not_true, cond_false, un_mk, Sum.elim_inl, Sum.elim_inr, t1, w2, q3, n3]
      rw [wrap_ok (by omega) (by omega)]
  · exact hd_sl (L := L_laws_heldGroupS_1) e_T_laws_heldGroupS (fun a b b' i y hy hq hi n => hq n a i hy hi) (fun n a b => by rw [e_L_laws_heldGroupS_1]; simp) hh.1 hh.2
set_option maxHeartbeats 4000000 in
set_option maxRecDepth 100000 in
theorem mk_markTableS : MkW (.sl true (.sl true (.pair .str (.sl true .str)))) T_laws_markTableS (fun y k k' => T_laws_heldTableS (y, k) = some k') := by
  refine MkW.mono (mkw_sl (e := .sl true (.pair .str (.sl true .str))) (L := L_laws_markTableS_1) (Q := (fun y b b' => ∀ n a (i : Nat), a[i]? = some y → i ≤ 1048576 → L_laws_heldTableS_1 (n + 1) (a, b, (i : Int)) = L_laws_heldTableS_1 n (a, b', (i : Int) + 1))) e_T_laws_markTableS (fun a b i v1 hy h_v1 h0 hW hi => ?_) (fun n a b => by rw [e_L_laws_markTableS_1]; simp)) (fun l k k' hh => ?_)
  · have hlt := (List.getElem?_eq_some_iff.1 hy).1
    try simp -implicitDefEqProofs only [wt_pair, wt_int, wt_bool, wt_str] at hW ⊢
    have g_v1 := wt_nn (.sl true (.pair .str (.sl true .str))) v1
    obtain ⟨k1, z1, m1, q1, u1⟩ := mk_markGroupS v1 (b) h_v1 (by omega) (by (try simp -implicitDefEqProofs only [wt_pair, wt_int, wt_bool, wt_str]); omega)
    try simp -implicitDefEqProofs only [wt_pair, wt_int, wt_bool, wt_str] at u1
    have n1 : decide (k1 < 0) = false := decide_eq_false (by omega)
    refine ⟨k1, z1, fun n => ?_, fun n a i hy hi => ?_, by omega⟩
    · rw [e_L_laws_markTableS_1]
      simp only [show ((i : Int) < (a.length : Int)) by omega, decide_true, cond_true, Int.natCast_nonneg, if_true, Int.toNat_natCast, hlt, List.length_set, hy, Option.bind_some, List.getElem?_set_self, List.set_set, eq_self, un_mk, Sum.elim_inl, m1]
      rw [wrap_ok (by omega) (by omega)]
    · rw [e_L_laws_heldTableS_1]
      have hlt := (List.getElem?_eq_some_iff.1 hy).1
      simp only [show ((i : Int) < (a.length : Int)) by omega, decide_true, cond_true, Int.natCast_nonneg, if_true, Int.toNat_natCast, hy, Option.bind_some, beq_self_eq_true, Bool.not_true, cond_false, un_mk, Sum.elim_inl, Sum.elim_inr, q1, n1]
      rw [wrap_ok (by omega) (by omega)]
  · exact hd_sl (L := L_laws_heldTableS_1) e_T_laws_heldTableS (fun a b b' i y hy hq hi n => hq n a i hy hi) (fun n a b => by rw [e_L_laws_heldTableS_1]; simp) hh.1 hh.2
set_option maxHeartbeats 4000000 in
set_option maxRecDepth 100000 in
theorem mk_markHall : MkW (.pair (.pair (.sl true (.pair (.int .i64) (.sl true (.int .i64)))) (.pair (.sl true (.pair (.int .i64) (.pair .bool (.pair (.pair (.int .i64) (.pair (.pair (.int .i64) (.sl true (.int .i64))) (.pair (.sl true (.pair (.int .i64) (.pair (.int .i64) (.pair (.int .i64) .str)))) (.pair (.sl true (.int .i64)) (.pair (.sl true .str) (.pair (.int .i64) (.pair (.int .i64) (.pair (.int .i64) (.pair (.int .i64) (.pair (.int .i64) (.pair (.int .i64) (.pair (.int .i64) (.pair (.int .i64) (.pair (.int .i64) (.sl true (.int .i64)))))))))))))))) (.pair (.int .i64) (.pair (.int .i64) (.pair (.pair (.int .i64) (.sl true (.int .i64))) (.pair (.sl true (.pair (.int .i64) (.pair (.int .i64) (.pair (.int .i64) (.sl true (.pair (.int .i64) (.pair (.int .i64) (.pair (.int .i64) .str)))))))) (.sl true (.pair (.int .i64) (.pair (.pair (.int .i64) (.sl true (.int .i64))) (.pair (.pair (.int .i64) (.pair (.int .i64) (.pair (.int .i64) .str))) (.sl true (.int .i64)))))))))))))) (.pair (.sl true (.pair (.int .i64) (.pair (.int .i64) (.pair (.int .i64) (.pair (.pair (.int .i64) (.pair (.int .i64) (.pair (.int .i64) .str))) (.pair (.pair (.int .i64) (.pair (.int .i64) (.pair (.int .i64) (.pair (.int .i64) (.pair (.int .i64) (.sl true (.int .i64))))))) (.pair (.int .i64) (.pair (.int .i64) (.pair (.int .i64) (.sl true (.pair (.int .i64) (.pair (.int .i64) (.pair (.int .i64) .str))))))))))))) (.sl true (.pair (.int .i64) (.pair (.pair (.int .i64) (.sl true (.int .i64))) (.pair (.pair (.int .i64) (.pair (.int .i64) (.pair (.int .i64) .str))) (.sl true (.int .i64))))))))) (.pair (.sl true (.pair (.pair (.int .i64) (.pair .str (.pair (.pair .str .bool) (.pair .bool (.sl true .str))))) (.pair (.pair .str (.pair (.sl true .str) .bool)) (.pair .str (.sl true .str))))) (.pair (.sl true (.sl true (.pair .str (.sl true .str)))) (.sl true (.int .i64))))) T_laws_markHall (fun y k k' => T_laws_heldHall (y, k) = some k') := by
  rintro ⟨⟨v1, ⟨v2, ⟨v3, v4⟩⟩⟩, ⟨v5, ⟨v6, v7⟩⟩⟩ b ⟨⟨h_v1, ⟨h_v2, ⟨h_v3, h_v4⟩⟩⟩, ⟨h_v5, ⟨h_v6, h_v7⟩⟩⟩ h0 hW
  try simp -implicitDefEqProofs only [wt_pair, wt_int, wt_bool, wt_str] at hW ⊢
  have g_v1 := wt_nn (.sl true (.pair (.int .i64) (.sl true (.int .i64)))) v1
  have g_v2 := wt_nn (.sl true (.pair (.int .i64) (.pair .bool (.pair (.pair (.int .i64) (.pair (.pair (.int .i64) (.sl true (.int .i64))) (.pair (.sl true (.pair (.int .i64) (.pair (.int .i64) (.pair (.int .i64) .str)))) (.pair (.sl true (.int .i64)) (.pair (.sl true .str) (.pair (.int .i64) (.pair (.int .i64) (.pair (.int .i64) (.pair (.int .i64) (.pair (.int .i64) (.pair (.int .i64) (.pair (.int .i64) (.pair (.int .i64) (.pair (.int .i64) (.sl true (.int .i64)))))))))))))))) (.pair (.int .i64) (.pair (.int .i64) (.pair (.pair (.int .i64) (.sl true (.int .i64))) (.pair (.sl true (.pair (.int .i64) (.pair (.int .i64) (.pair (.int .i64) (.sl true (.pair (.int .i64) (.pair (.int .i64) (.pair (.int .i64) .str)))))))) (.sl true (.pair (.int .i64) (.pair (.pair (.int .i64) (.sl true (.int .i64))) (.pair (.pair (.int .i64) (.pair (.int .i64) (.pair (.int .i64) .str))) (.sl true (.int .i64)))))))))))))) v2
  have g_v3 := wt_nn (.sl true (.pair (.int .i64) (.pair (.int .i64) (.pair (.int .i64) (.pair (.pair (.int .i64) (.pair (.int .i64) (.pair (.int .i64) .str))) (.pair (.pair (.int .i64) (.pair (.int .i64) (.pair (.int .i64) (.pair (.int .i64) (.pair (.int .i64) (.sl true (.int .i64))))))) (.pair (.int .i64) (.pair (.int .i64) (.pair (.int .i64) (.sl true (.pair (.int .i64) (.pair (.int .i64) (.pair (.int .i64) .str))))))))))))) v3
  have g_v4 := wt_nn (.sl true (.pair (.int .i64) (.pair (.pair (.int .i64) (.sl true (.int .i64))) (.pair (.pair (.int .i64) (.pair (.int .i64) (.pair (.int .i64) .str))) (.sl true (.int .i64)))))) v4
  have g_v5 := wt_nn (.sl true (.pair (.pair (.int .i64) (.pair .str (.pair (.pair .str .bool) (.pair .bool (.sl true .str))))) (.pair (.pair .str (.pair (.sl true .str) .bool)) (.pair .str (.sl true .str))))) v5
  have g_v6 := wt_nn (.sl true (.sl true (.pair .str (.sl true .str)))) v6
  have g_v7 := wt_nn (.sl true (.int .i64)) v7
  obtain ⟨k1, z1, m1, q1, u1⟩ := mk_markWorld (v1, (v2, (v3, v4))) (b) ⟨h_v1, ⟨h_v2, ⟨h_v3, h_v4⟩⟩⟩ (by omega) (by (try simp -implicitDefEqProofs only [wt_pair, wt_int, wt_bool, wt_str]); omega)
  try simp -implicitDefEqProofs only [wt_pair, wt_int, wt_bool, wt_str] at u1
  have n1 : decide (k1 < 0) = false := decide_eq_false (by omega)
  obtain ⟨z1v1, ⟨z1v2, ⟨z1v3, z1v4⟩⟩⟩ := z1
  obtain ⟨k2, z2, m2, q2, u2⟩ := mk_markCallerS v5 (k1) h_v5 (by omega) (by (try simp -implicitDefEqProofs only [wt_pair, wt_int, wt_bool, wt_str]); omega)
  try simp -implicitDefEqProofs only [wt_pair, wt_int, wt_bool, wt_str] at u2
  have n2 : decide (k2 < 0) = false := decide_eq_false (by omega)
  obtain ⟨k3, z3, m3, q3, u3⟩ := mk_markTableS v6 (k2) h_v6 (by omega) (by (try simp -implicitDefEqProofs only [wt_pair, wt_int, wt_bool, wt_str]); omega)
  try simp -implicitDefEqProofs only [wt_pair, wt_int, wt_bool, wt_str] at u3
  have n3 : decide (k3 < 0) = false := decide_eq_false (by omega)
  obtain ⟨k4, z4, m4, q4, u4⟩ := mk_markIntS v7 (k3) h_v7 (by omega) (by (try simp -implicitDefEqProofs only [wt_pair, wt_int, wt_bool, wt_str]); omega)
  try simp -implicitDefEqProofs only [wt_pair, wt_int, wt_bool, wt_str] at u4
  have n4 : decide (k4 < 0) = false := decide_eq_false (by omega)
  refine ⟨k4, ((z1v1, (z1v2, (z1v3, z1v4))), (z2, (z3, z4))), ?_, ?_, by omega⟩
  · rw [e_T_laws_markHall]
    simp only [Option.bind_some, m1, m2, m3, m4]
  · rw [e_T_laws_heldHall]
    simp only [Option.bind_some, cond_false, q1, n1, q2, n2, q3, n3, q4, n4]
end Xs
end Go.Proofs.YtdbhnefcmnglnaaDoor
