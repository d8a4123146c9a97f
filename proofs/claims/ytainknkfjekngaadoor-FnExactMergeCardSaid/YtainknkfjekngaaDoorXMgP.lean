/- What the reference's function answers, and the program's: the same. -/
import Derived.Test.YtainknkfjekngaaDoorXMgPe
namespace Go.Proofs.YtainknkfjekngaaDoor
open Go Vm
set_option linter.unusedVariables false
set_option linter.unusedSimpArgs false
namespace Xs
theorem x_markTextL : ∀ (m n : Nat) (a : Int) (b : List UInt8), m < n → a < 10 ^ m → a ≤ 9223372036854775807 → b.length + m ≤ 1000 → ∃ s, L_laws_markText_1 n (a, b) = some (.inl s) ∧ s.length ≤ 1000
  | 0, n, a, b, hn, ha, hb, hl => by
    obtain ⟨n, rfl⟩ : ∃ j, n = j + 1 := ⟨n - 1, by omega⟩
    rw [e_L_laws_markText_1, decide_eq_false (by simp at ha; omega)]
    exact ⟨b, rfl, by omega⟩
  | m + 1, n, a, b, hn, ha, hb, hl => by
    obtain ⟨n, rfl⟩ : ∃ j, n = j + 1 := ⟨n - 1, by omega⟩
    rw [e_L_laws_markText_1]
    by_cases h0 : 0 < a
    · rw [decide_eq_true h0, cond_true, if_neg (by simp only [List.length_map, List.length_cons, List.length_nil]; omega)]
      have h1 : a.tdiv 10 = a / 10 := Int.tdiv_eq_ediv_of_nonneg (by omega)
      rw [Int.pow_succ] at ha
      rw [h1, wrap_ok (by omega) (by omega)]
      exact x_markTextL m n (a / 10) _ (by omega) (by omega) (by omega) (by simp only [List.length_append, List.length_map, List.length_cons, List.length_nil]; omega)
    · rw [decide_eq_false h0]
      exact ⟨b, rfl, by omega⟩
theorem x_markText (k : Int) (h : k ≤ 9223372036854775807) : ∃ s, T_laws_markText k = some s := by
  rw [e_T_laws_markText]
  by_cases h0 : k ≤ 0
  · rw [decide_eq_true h0]; exact ⟨_, rfl⟩
  · rw [decide_eq_false h0, cond_false]
    obtain ⟨s, h1, h2⟩ := x_markTextL 19 fuel k [] (by decide) (by have : (10 : Int) ^ 19 = 10000000000000000000 := rfl; omega) h (by simp)
    rw [h1]
    simp only [Option.bind_some, Sum.elim_inl]
    rw [if_neg (by omega)]
    exact ⟨_, rfl⟩
set_option maxHeartbeats 4000000 in
set_option maxRecDepth 100000 in
theorem mk_markStringS : MkW (.sl true .str) T_laws_markStringS (fun y k k' => T_laws_heldStringS (y, k) = some k') := by
  refine MkW.mono (mkw_sl (e := .str) (L := L_laws_markStringS_1) (Q := (fun y b b' => ∀ n a (i : Nat), a[i]? = some y → i ≤ 1048576 → L_laws_heldStringS_1 (n + 1) (a, b, (i : Int)) = L_laws_heldStringS_1 n (a, b', (i : Int) + 1))) e_T_laws_markStringS (fun a b i v1 hy h_v1 h0 hW hi => ?_) (fun n a b => by rw [e_L_laws_markStringS_1]; simp)) (fun l k k' hh => ?_)
  · have hlt := (List.getElem?_eq_some_iff.1 hy).1
    try simp -implicitDefEqProofs only [wt_pair, wt_int, wt_bool, wt_str] at hW ⊢
    obtain ⟨s1, t1⟩ := x_markText (b) (by omega)
    have w2 : IntKind.i64.wrap (b + 1) = b + 1 := wrap_ok (by omega) (by omega)
    refine ⟨b + 1, s1, fun n => ?_, fun n a i hy hi => ?_, by omega⟩
    · rw [e_L_laws_markStringS_1]
      simp only [show ((i : Int) < (a.length : Int)) by omega, decide_true, cond_true, Int.natCast_nonneg, if_true, Int.toNat_natCast, hlt, List.length_set, hy, Option.bind_some, List.getElem?_set_self, List.set_set, eq_self, un_mk, Sum.elim_inl, t1, w2]
      rw [wrap_ok (by omega) (by omega)]
    · rw [e_L_laws_heldStringS_1]
      have hlt := (List.getElem?_eq_some_iff.1 hy).1
      simp only [show ((i : Int) < (a.length : Int)) by omega, decide_true, cond_true, Int.natCast_nonneg, if_true, Int.toNat_natCast, hy, Option.bind_some, beq_self_eq_true, Bool.not_true, cond_false, un_mk, Sum.elim_inl, Sum.elim_inr, t1, w2]
      rw [wrap_ok (by omega) (by omega)]
  · exact hd_sl (L := L_laws_heldStringS_1) e_T_laws_heldStringS (fun a b b' i y hy hq hi n => hq n a i hy hi) (fun n a b => by rw [e_L_laws_heldStringS_1]; simp) hh.1 hh.2
set_option maxHeartbeats 4000000 in
set_option maxRecDepth 100000 in
theorem mk_markGroupS : MkW (.sl true (.pair .str (.sl true .str))) T_laws_markGroupS (fun y k k' => T_laws_heldGroupS (y, k) = some k') := by
  refine MkW.mono (mkw_sl (e := .pair .str (.sl true .str)) (L := L_laws_markGroupS_1) (Q := (fun y b b' => ∀ n a (i : Nat), a[i]? = some y → i ≤ 1048576 → L_laws_heldGroupS_1 (n + 1) (a, b, (i : Int)) = L_laws_heldGroupS_1 n (a, b', (i : Int) + 1))) e_T_laws_markGroupS (fun a b i y hy hs h0 hW hi => ?_) (fun n a b => by rw [e_L_laws_markGroupS_1]; simp)) (fun l k k' hh => ?_)
  · have hlt := (List.getElem?_eq_some_iff.1 hy).1
    obtain ⟨v1, v2⟩ := y
    obtain ⟨h_v1, h_v2⟩ := hs
    try simp -implicitDefEqProofs only [wt_pair, wt_int, wt_bool, wt_str] at hW ⊢
    have g_v2 := wt_nn (.sl true .str) v2
    obtain ⟨s1, t1⟩ := x_markText (b) (by omega)
    have w2 : IntKind.i64.wrap (b + 1) = b + 1 := wrap_ok (by omega) (by omega)
    obtain ⟨k3, z3, m3, q3, u3⟩ := mk_markStringS v2 (b + 1) h_v2 (by omega) (by (try simp -implicitDefEqProofs only [wt_pair, wt_int, wt_bool, wt_str]); omega)
    try simp -implicitDefEqProofs only [wt_pair, wt_int, wt_bool, wt_str] at u3
    have n3 : decide (k3 < 0) = false := decide_eq_false (by omega)
    refine ⟨k3, (s1, z3), fun n => ?_, fun n a i hy hi => ?_, by omega⟩
    · rw [e_L_laws_markGroupS_1]
      simp only [show ((i : Int) < (a.length : Int)) by omega, decide_true, cond_true, Int.natCast_nonneg, if_true, Int.toNat_natCast, hlt, List.length_set, hy, Option.bind_some, List.getElem?_set_self, List.set_set, eq_self, un_mk, Sum.elim_inl, t1, w2, m3]
      rw [wrap_ok (by omega) (by omega)]
    · rw [e_L_laws_heldGroupS_1]
      have hlt := (List.getElem?_eq_some_iff.1 hy).1
      simp only [show ((i : Int) < (a.length : Int)) by omega, decide_true, cond_true, Int.natCast_nonneg, if_true, Int.toNat_natCast, hy, Option.bind_some, beq_self_eq_true, Bool.not_true, cond_false, un_mk, Sum.elim_inl, Sum.elim_inr, t1, w2, q3, n3]
      rw [wrap_ok (by omega) (by omega)]
  · exact hd_sl (L := L_laws_heldGroupS_1) e_T_laws_heldGroupS (fun a b b' i y hy hq hi n => hq n a i hy hi) (fun n a b => by rw [e_L_laws_heldGroupS_1]; simp) hh.1 hh.2
set_option maxHeartbeats 4000000 in
set_option maxRecDepth 100000 in
theorem mk_markTable : MkW (.sl true (.pair .str (.sl true .str))) T_laws_markTable (fun y k k' => T_laws_heldTable (y, k) = some k') := by
  rintro v1 b h_v1 h0 hW
  try simp -implicitDefEqProofs only [wt_pair, wt_int, wt_bool, wt_str] at hW ⊢
  have g_v1 := wt_nn (.sl true (.pair .str (.sl true .str))) v1
  obtain ⟨k1, z1, m1, q1, u1⟩ := mk_markGroupS v1 (b) h_v1 (by omega) (by (try simp -implicitDefEqProofs only [wt_pair, wt_int, wt_bool, wt_str]); omega)
  try simp -implicitDefEqProofs only [wt_pair, wt_int, wt_bool, wt_str] at u1
  have n1 : decide (k1 < 0) = false := decide_eq_false (by omega)
  refine ⟨k1, z1, ?_, ?_, by omega⟩
  · rw [e_T_laws_markTable]
    simp only [Option.bind_some, m1]
  · rw [e_T_laws_heldTable]
    simp only [Option.bind_some, cond_false, q1, n1]
theorem sumI_leM {α : Type} {f : α → Int} {B : Int} : ∀ (l : List α), (∀ x ∈ l, f x ≤ B) → sumI f l ≤ B * (l.length : Int)
  | [], _ => by simp [sumI]
  | x :: l, h => by
    have h1 := h x List.mem_cons_self
    have h2 := sumI_leM l (fun y hy => h y (List.mem_cons_of_mem _ hy))
    rw [List.length_cons, Int.natCast_add, Int.natCast_one, Int.mul_add, Int.mul_one]
    simp only [sumI]; omega
abbrev TabE (o : Bool) : ET := .sl o (.pair .str (.sl o .str))
theorem tab_wt {r : List GroupT} (h : TabOk 1000 1000 r) : (TabE true).wt r ≤ 2000000 := by
  have hs := sumI_leM (f := (ET.pair .str (.sl true .str)).wt) (B := 1001) r (fun y hy => by
    have h1 := sumI_leM (f := ET.str.wt) (B := 1) y.2 (fun _ _ => Int.le_refl _)
    have h2 := (h.2.1 y hy).2
    show (1 : Int) + sumI ET.str.wt y.2 ≤ 1001
    omega)
  have h3 := h.2.2
  show sumI (ET.pair .str (.sl true .str)).wt r ≤ 2000000
  omega
theorem law2_FnExactMerge (a b : List GroupT) (ha : (ET.sl false (.pair .str (.sl false .str))).ok a) (hb : (ET.sl false (.pair .str (.sl false .str))).ok b) : T_laws_FnExactMerge (a, b) = some true := by
  obtain ⟨r1, h1, h2, h3⟩ := zm_szTable a 1048576 ha (by decide) (by decide)
  rw [e_T_laws_FnExactMerge, h1]
  simp only [Option.bind_some]
  by_cases hr : r1 < 0
  · simp [hr]
  · obtain ⟨r2, g1, g2, g3⟩ := zm_szTable b r1 hb (by omega) (by omega)
    simp only [decide_eq_false hr, cond_false, g1, Option.bind_some]
    by_cases hr2 : r2 < 0
    · simp [hr2]
    · have h3' := h3 (by omega)
      have g3' := g3 (by omega)
      have hma : (TabE false).ms a ≤ 1048576 := Int.le_trans h3' (by omega)
      have hmb : (TabE false).ms b ≤ 1048576 := Int.le_trans g3' (by omega)
      have sa : (TabE false).small a := ms_small _ _ hma
      have sb : (TabE false).small b := ms_small _ _ hmb
      obtain ⟨r, p1, p2, p3⟩ := x_Merge sa sb sa.1 (fun y hy => (sa.2 y hy).2.1)
      have w1 := wt_top (e := TabE true) (x := a) hma
      have w2 : (TabE true).fw + (TabE true).mw * 1048576 ≤ 100000000 := by decide +kernel
      have w3 := wt_top (e := TabE true) (x := b) hmb
      have w5 := wt_nn (TabE true) a
      have w6 := wt_nn (TabE true) b
      have w7 := wt_nn (TabE true) r
      have hr3 : (TabE true).small r ∧ (TabE true).wt r ≤ 100000000 := by
        rcases p3 with rfl | ⟨p3, p4⟩
        · exact ⟨sa, by omega⟩
        · exact ⟨⟨Nat.le_trans p3.2.2 (by decide), fun y hy => ⟨(p4 y hy).1, Nat.le_trans (p3.2.1 y hy).2 (by decide), (p4 y hy).2⟩⟩, Int.le_trans (tab_wt p3) (by decide)⟩
      have sr : (TabE false).small r := hr3.1
      obtain ⟨k1, x1, m1, d1, l1⟩ := (show MkW (TabE true) T_laws_markTable _ from mk_markTable) a 1 sa (by decide) (by omega)
      obtain ⟨k2, x2, m2, d2, l2⟩ := (show MkW (TabE true) T_laws_markTable _ from mk_markTable) b k1 sb (by omega) (by omega)
      obtain ⟨k3, x3, m3, d3, l3⟩ := (show MkW (TabE true) T_laws_markTable _ from mk_markTable) r 1 hr3.1 (by decide) (by omega)
      have n2 : decide (k2 < 0) = false := decide_eq_false (by omega)
      have n3 : decide (k3 < 0) = false := decide_eq_false (by omega)
      simp only [decide_eq_false hr2, cond_false, c_toTable sa, c_toTable sb, p1, p2, q_eqTable sr, q_eqTable sa, q_eqTable sb, m1, m2, m3, d3, n2, n3, Option.bind_some, Sum.elim_inl, beq_self_eq_true, Bool.not_true]
theorem law_FnExactMerge (a : Den [.agg (.sl false (.pair .str (.sl false .str))), .agg (.sl false (.pair .str (.sl false .str)))]) (h : okL [.agg (.sl false (.pair .str (.sl false .str))), .agg (.sl false (.pair .str (.sl false .str)))] a) : T_laws_FnExactMerge a = some true := law2_FnExactMerge a.1 a.2 h.1 h.2
end Xs
end Go.Proofs.YtainknkfjekngaaDoor
