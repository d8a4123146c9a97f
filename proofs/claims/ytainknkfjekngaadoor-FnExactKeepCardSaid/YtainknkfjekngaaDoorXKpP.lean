/- What the reference's function answers, and the program's: the same. -/
import Derived.Test.YtainknkfjekngaaDoorXKpPe
namespace Go.Proofs.YtainknkfjekngaaDoor
open Go Vm
set_option linter.unusedVariables false
set_option linter.unusedSimpArgs false
namespace Xs
theorem x_markTextL : ∀ (m n : Nat) (a : Int) (b : List UInt8), m < n → a < 10 ^ m → a ≤ 9223372036854775807 → b.length + m ≤ 1000 → ∃ s, L_laws_markText_1 n (a, b) = some (.inl s) ∧ s.length ≤ 1000
  | 0, n, a, b, hn, ha, hb, hl => by
    obtain ⟨n, rfl⟩ : ∃ j, n = j + 1 := ⟨n - 1, by omega⟩
    rw [e_L_laws_markText_1, decide_eq_false (by simp at ha; omega)]
    exact ⟨b, rfl, by omega⟩
  | m + 1, n, a, b, hn, ha, hb, hl => by
    obtain ⟨n, rfl⟩ : ∃ j, n = j + 1 := ⟨n - 1, by omega⟩
    rw [e_L_laws_markText_1]
    by_cases h0 : 0 < a
    · rw [decide_eq_true h0, cond_true, if_neg (by simp only [List.length_map, List.length_cons, List.length_nil]; omega)]
      have h1 : a.tdiv 10 = a / 10 := Int.tdiv_eq_ediv_of_nonneg (by omega)
      rw [Int.pow_succ] at ha
      rw [h1, wrap_ok (by omega) (by omega)]
      exact x_markTextL m n (a / 10) _ (by omega) (by omega) (by omega) (by simp only [List.length_append, List.length_map, List.length_cons, List.length_nil]; omega)
    · rw [decide_eq_false h0]
      exact ⟨b, rfl, by omega⟩
theorem x_markText (k : Int) (h : k ≤ 9223372036854775807) : ∃ s, T_laws_markText k = some s := by
  rw [e_T_laws_markText]
  by_cases h0 : k ≤ 0
  · rw [decide_eq_true h0]; exact ⟨_, rfl⟩
  · rw [decide_eq_false h0, cond_false]
    obtain ⟨s, h1, h2⟩ := x_markTextL 19 fuel k [] (by decide) (by have : (10 : Int) ^ 19 = 10000000000000000000 := rfl; omega) h (by simp)
    rw [h1]
    simp only [Option.bind_some, Sum.elim_inl]
    rw [if_neg (by omega)]
    exact ⟨_, rfl⟩
set_option maxHeartbeats 4000000 in
set_option maxRecDepth 100000 in
theorem mk_markStringS : MkW (.sl true .str) T_laws_markStringS (fun y k k' => T_laws_heldStringS (y, k) = some k') := by
  refine MkW.mono (mkw_sl (e := .str) (L := L_laws_markStringS_1) (Q := (fun y b b' => ∀ n a (i : Nat), a[i]? = some y → i ≤ 1048576 → L_laws_heldStringS_1 (n + 1) (a, b, (i : Int)) = L_laws_heldStringS_1 n (a, b', (i : Int) + 1))) e_T_laws_markStringS (fun a b i v1 hy h_v1 h0 hW hi => ?_) (fun n a b => by rw [e_L_laws_markStringS_1]; simp)) (fun l k k' hh => ?_)
  · have hlt := (List.getElem?_eq_some_iff.1 hy).1
    try simp -implicitDefEqProofs only [wt_pair, wt_int, wt_bool, wt_str] at hW ⊢
    obtain ⟨s1, t1⟩ := x_markText (b) (by omega)
    have w2 : IntKind.i64.wrap (b + 1) = b + 1 := wrap_ok (by omega) (by omega)
    refine ⟨b + 1, s1, fun n => ?_, fun n a i hy hi => ?_, by omega⟩
    · rw [e_L_laws_markStringS_1]
      simp only [show ((i : Int) < (a.length : Int)) by omega, decide_true, cond_true, Int.natCast_nonneg, if_true, Int.toNat_natCast, hlt, List.length_set, hy, Option.bind_some, List.getElem?_set_self, List.set_set, eq_self, un_mk, Sum.elim_inl, t1, w2]
      rw [wrap_ok (by omega) (by omega)]
    · rw [e_L_laws_heldStringS_1]
      have hlt := (List.getElem?_eq_some_iff.1 hy).1
      simp only [show ((i : Int) < (a.length : Int)) by omega, decide_true, cond_true, Int.natCast_nonneg, if_true, Int.toNat_natCast, hy, Option.bind_some, beq_self_eq_true, Bool.not_true, cond_false, un_mk, Sum.elim_inl, Sum.elim_inr, t1, w2]
      rw [wrap_ok (by omega) (by omega)]
  · exact hd_sl (L := L_laws_heldStringS_1) e_T_laws_heldStringS (fun a b b' i y hy hq hi n => hq n a i hy hi) (fun n a b => by rw [e_L_laws_heldStringS_1]; simp) hh.1 hh.2
set_option maxHeartbeats 4000000 in
set_option maxRecDepth 100000 in
theorem mk_markGroupS : MkW (.sl true (.pair .str (.sl true .str))) T_laws_markGroupS (fun y k k' => T_laws_heldGroupS (y, k) = some k') := by
  refine MkW.mono (mkw_sl (e := .pair .str (.sl true .str)) (L := L_laws_markGroupS_1) (Q := (fun y b b' => ∀ n a (i : Nat), a[i]? = some y → i ≤ 1048576 → L_laws_heldGroupS_1 (n + 1) (a, b, (i : Int)) = L_laws_heldGroupS_1 n (a, b', (i : Int) + 1))) e_T_laws_markGroupS (fun a b i y hy hs h0 hW hi => ?_) (fun n a b => by rw [e_L_laws_markGroupS_1]; simp)) (fun l k k' hh => ?_)
  · have hlt := (List.getElem?_eq_some_iff.1 hy).1
    obtain ⟨v1, v2⟩ := y
    obtain ⟨h_v1, h_v2⟩ := hs
    try simp -implicitDefEqProofs only [wt_pair, wt_int, wt_bool, wt_str] at hW ⊢
    have g_v2 := wt_nn (.sl true .str) v2
    obtain ⟨s1, t1⟩ := x_markText (b) (by omega)
    have w2 : IntKind.i64.wrap (b + 1) = b + 1 := wrap_ok (by omega) (by omega)
    obtain ⟨k3, z3, m3, q3, u3⟩ := mk_markStringS v2 (b + 1) h_v2 (by omega) (by (try simp -implicitDefEqProofs only [wt_pair, wt_int, wt_bool, wt_str]); omega)
    try simp -implicitDefEqProofs only [wt_pair, wt_int, wt_bool, wt_str] at u3
    have n3 : decide (k3 < 0) = false := decide_eq_false (by omega)
    refine ⟨k3, (s1, z3), fun n => ?_, fun n a i hy hi => ?_, by omega⟩
    · rw [e_L_laws_markGroupS_1]
      simp only [show ((i : Int) < (a.length : Int)) by omega, decide_true, cond_true, Int.natCast_nonneg, if_true, Int.toNat_natCast, hlt, List.length_set, hy, Option.bind_some, List.getElem?_set_self, List.set_set, eq_self, un_mk, Sum.elim_inl, t1, w2, m3]
      rw [wrap_ok (by omega) (by omega)]
    · rw [e_L_laws_heldGroupS_1]
      have hlt := (List.getElem?_eq_some_iff.1 hy).1
      simp only [show ((i : Int) < (a.length : Int)) by omega, decide_true, cond_true, Int.natCast_nonneg, if_true, Int.toNat_natCast, hy, Option.bind_some, beq_self_eq_true, Bool.not_true, cond_false, un_mk, Sum.elim_inl, Sum.elim_inr, t1, w2, q3, n3]
      rw [wrap_ok (by omega) (by omega)]
  · exact hd_sl (L := L_laws_heldGroupS_1) e_T_laws_heldGroupS (fun a b b' i y hy hq hi n => hq n a i hy hi) (fun n a b => by rw [e_L_laws_heldGroupS_1]; simp) hh.1 hh.2
set_option maxHeartbeats 4000000 in
set_option maxRecDepth 100000 in
theorem mk_markTable : MkW (.sl true (.pair .str (.sl true .str))) T_laws_markTable (fun y k k' => T_laws_heldTable (y, k) = some k') := by
  rintro v1 b h_v1 h0 hW
  try simp -implicitDefEqProofs only [wt_pair, wt_int, wt_bool, wt_str] at hW ⊢
  have g_v1 := wt_nn (.sl true (.pair .str (.sl true .str))) v1
  obtain ⟨k1, z1, m1, q1, u1⟩ := mk_markGroupS v1 (b) h_v1 (by omega) (by (try simp -implicitDefEqProofs only [wt_pair, wt_int, wt_bool, wt_str]); omega)
  try simp -implicitDefEqProofs only [wt_pair, wt_int, wt_bool, wt_str] at u1
  have n1 : decide (k1 < 0) = false := decide_eq_false (by omega)
  refine ⟨k1, z1, ?_, ?_, by omega⟩
  · rw [e_T_laws_markTable]
    simp only [Option.bind_some, m1]
  · rw [e_T_laws_heldTable]
    simp only [Option.bind_some, cond_false, q1, n1]
set_option maxHeartbeats 4000000 in
set_option maxRecDepth 100000 in
theorem mk_markIntS : MkW (.sl true (.int .i64)) T_laws_markIntS (fun _ _ _ => True) := by
  refine MkW.mono (mkw_sl (e := .int .i64) (L := L_laws_markIntS_1) (Q := (fun _ _ _ => True)) e_T_laws_markIntS (fun a b i v1 hy h_v1 h0 hW hi => ?_) (fun n a b => by rw [e_L_laws_markIntS_1]; simp)) (fun l k k' hh => ?_)
  · have hlt := (List.getElem?_eq_some_iff.1 hy).1
    try simp -implicitDefEqProofs only [wt_pair, wt_int, wt_bool, wt_str] at hW ⊢
    have w1 : IntKind.i64.wrap (b + 1) = b + 1 := wrap_ok (by omega) (by omega)
    refine ⟨b + 1, b, fun n => ?_, trivial, by omega⟩
    · rw [e_L_laws_markIntS_1]
      simp only [show ((i : Int) < (a.length : Int)) by omega, decide_true, cond_true, Int.natCast_nonneg, if_true, Int.toNat_natCast, hlt, List.length_set, hy, Option.bind_some, List.getElem?_set_self, List.set_set, eq_self, un_mk, Sum.elim_inl, w1]
      rw [wrap_ok (by omega) (by omega)]
  · trivial
theorem sumI_filter {α : Type} {f : α → Int} (h : ∀ x, 0 ≤ f x) (p : α → Bool) : ∀ l : List α, sumI f (l.filter p) ≤ sumI f l
  | [] => Int.le_refl 0
  | x :: l => by
    have h1 := h x
    have h2 := sumI_filter h p l
    rw [List.filter_cons]
    cases p x with
    | true => rw [if_pos rfl]; simp only [sumI]; omega
    | false => rw [if_neg (by decide)]; simp only [sumI]; omega
theorem sumI_lohi {f : GroupT → Int} (h : ∀ x, 0 ≤ f x) (g : List UInt8) : ∀ l : List GroupT, sumI f (loF Prod.fst g l) + sumI f (hiF Prod.fst g l) ≤ sumI f l
  | [] => by simp [loF, hiF, sumI]
  | y :: l => by
    have h1 := h y
    have h2 := sumI_lohi h g l
    unfold loF hiF at h2 ⊢
    rw [List.filter_cons, List.filter_cons]
    cases Op.bytesLess y.1 g with
    | true => simp only [if_true, Bool.true_or, Bool.not_true, Bool.false_eq_true, if_false, sumI]; omega
    | false =>
      cases y.1 == g with
      | true => simp only [Bool.false_eq_true, if_false, Bool.or_true, Bool.not_true, sumI]; omega
      | false => simp only [Bool.false_eq_true, if_false, Bool.or_false, Bool.not_false, if_true, sumI]; omega
theorem sumI_put {f : GroupT → Int} (h : ∀ x, 0 ≤ f x) : ∀ (l t : List GroupT), sumI f (l.foldl putG t) ≤ sumI f t + sumI f l
  | [], t => by simp [sumI]
  | y :: l, t => by
    have h1 := sumI_put h l (putG t y)
    have h2 := sumI_lohi h y.1 t
    have h3 : sumI f (putG t y) = sumI f (loF Prod.fst y.1 t) + (f y + sumI f (hiF Prod.fst y.1 t)) := by unfold putG; rw [sumI_app]; rfl
    rw [List.foldl_cons]; simp only [sumI]; omega
theorem keepT_wt (p : List UInt8 → Bool) : ∀ t : List GroupT, (TabE true).wt (keepT p t) ≤ (TabE true).wt t
  | [] => Int.le_refl 0
  | y :: t => by
    have h1 := keepT_wt p t
    have h2 := sumI_filter (f := ET.str.wt) (fun _ => wt_nn ET.str _) p y.2
    have h3 := wt_nn (ET.sl true ET.str) y.2
    have e1 : (TabE true).wt (y :: t) = (1 + sumI ET.str.wt y.2) + (TabE true).wt t := rfl
    have e2 : (TabE true).wt (keepT p (y :: t)) = (bif decide (0 < ((y.2.filter p).length : Int)) then 1 + sumI ET.str.wt (y.2.filter p) else 0) + (TabE true).wt (keepT p t) := by
      rw [keepT_cons]
      show sumI _ _ = _ + sumI _ _
      rw [sumI_app]
      cases decide (0 < ((y.2.filter p).length : Int)) with
      | true => simp only [cond_true, sumI]; rw [Int.add_zero]; rfl
      | false => rfl
    have h4 : 0 ≤ sumI ET.str.wt y.2 := h3
    rw [e1, e2]
    cases decide (0 < ((y.2.filter p).length : Int)) with
    | true => simp only [cond_true]; omega
    | false => simp only [cond_false]; omega
theorem law2_FnExactKeep (a : List GroupT) (b : List Int) (ha : (ET.sl false (.pair .str (.sl false .str))).ok a) (hb : (ET.sl false (.int .i64)).ok b) : T_laws_FnExactKeep (a, b) = some true := by
  rw [e_T_laws_FnExactKeep]
  by_cases hbl : 1048576 < b.length
  · simp only [decide_eq_true (show (1048576 : Int) < (b.length : Int) by omega), cond_true]
  obtain ⟨r1, h1, h2, h3⟩ := zm_szTable a 1048576 ha (by decide) (by decide)
  rw [h1]
  simp only [decide_eq_false (show ¬ (1048576 : Int) < (b.length : Int) by omega), cond_false, Option.bind_some]
  by_cases hr : r1 < 0
  · simp [hr]
  · have h3' := h3 (by omega)
    have hma : (TabE false).ms a ≤ 1048576 := Int.le_trans h3' (by omega)
    have sa : (TabE false).small a := ms_small _ _ hma
    have hbl2 : b.length ≤ 1048576 := by omega
    have sb : (ET.sl false (.int .i64)).small b := ⟨hbl2, fun _ _ => trivial⟩
    have hta : TabS a := ⟨sa.1, fun y hy => ⟨(sa.2 y hy).2.1, (sa.2 y hy).2.2⟩⟩
    have p1 := x_KeepS hbl2 hta
    have p2 := x_KeepI hbl2 hta
    have hrl : (keepT (kpB b) (a.foldl putG [])).length ≤ a.length := by
      have e1 := keepT_len (kpB b) (a.foldl putG [])
      have : ∀ (l o : List GroupT), (l.foldl putG o).length ≤ o.length + l.length := by
        intro l
        induction l with
        | nil => intro o; exact Nat.le_refl _
        | cons y l ih => intro o; have := ih (putG o y); have := putG_len o y; rw [List.foldl_cons, List.length_cons]; omega
      have e2 := this a []
      rw [List.length_nil, Nat.zero_add] at e2
      omega
    have hrs : (TabE true).small (keepT (kpB b) (a.foldl putG [])) := by
      refine ⟨Nat.le_trans hrl sa.1, fun y hy => ?_⟩
      obtain ⟨z, hz, e1, e2⟩ := keepT_mem hy
      have hz' := sa.2 z ((putF_mem hz).resolve_right (by simp))
      have hl := List.length_filter_le (kpB b) z.2
      refine ⟨by rw [e1]; exact hz'.1, by rw [e2]; exact Nat.le_trans hl hz'.2.1, fun s hs => ?_⟩
      rw [e2] at hs
      exact hz'.2.2 s (List.mem_filter.1 hs).1
    have hrw : (TabE true).wt (keepT (kpB b) (a.foldl putG [])) ≤ (TabE true).wt a := by
      have e1 := keepT_wt (kpB b) (a.foldl putG [])
      have e2 := sumI_put (f := (ET.pair .str (.sl true .str)).wt) (fun x => wt_nn (ET.pair .str (.sl true .str)) x) a []
      have e3 : sumI (ET.pair .str (.sl true .str)).wt [] = 0 := rfl
      rw [e3] at e2
      have e4 : (TabE true).wt (a.foldl putG []) = sumI (ET.pair .str (.sl true .str)).wt (a.foldl putG []) := rfl
      have e5 : (TabE true).wt a = sumI (ET.pair .str (.sl true .str)).wt a := rfl
      omega
    generalize keepT (kpB b) (a.foldl putG []) = r at p1 p2 hrs hrw
    have w1 := wt_top (e := TabE true) (x := a) hma
    have w2 : (TabE true).fw + (TabE true).mw * 1048576 ≤ 100000000 := by decide +kernel
    have w3 : (ET.sl true (.int .i64)).wt b ≤ 1048576 := by
      have := sumI_le (f := (ET.int .i64).wt) (C := 1) (l := b) (fun _ _ => Int.le_refl _)
      have e : (ET.sl true (.int .i64)).wt b = sumI (ET.int .i64).wt b := rfl
      omega
    have w5 := wt_nn (TabE true) a
    have w6 := wt_nn (ET.sl true (.int .i64)) b
    have w7 := wt_nn (TabE true) r
    have sr : (TabE false).small r := hrs
    obtain ⟨k1, x1, m1, d1, l1⟩ := (show MkW (TabE true) T_laws_markTable _ from mk_markTable) a 1 sa (by decide) (by omega)
    obtain ⟨k2, x2, m2, d2, l2⟩ := (show MkW (ET.sl true (.int .i64)) T_laws_markIntS _ from mk_markIntS) b k1 sb (by omega) (by omega)
    obtain ⟨k3, x3, m3, d3, l3⟩ := (show MkW (TabE true) T_laws_markTable _ from mk_markTable) r 1 hrs (by decide) (by omega)
    have n2 : decide (k2 < 0) = false := decide_eq_false (by omega)
    have n3 : decide (k3 < 0) = false := decide_eq_false (by omega)
    simp only [decide_eq_false hr, cond_false, c_toTable sa, c_toIntS sb, p1, p2, q_eqTable sr, q_eqTable sa, q_eqIntS sb, m1, m2, m3, d3, n2, n3, Option.bind_some, Sum.elim_inl, beq_self_eq_true, Bool.not_true]
theorem law_FnExactKeep (a : Den [.agg (.sl false (.pair .str (.sl false .str))), .cell (.sl false (.int .i64))]) (h : okL [.agg (.sl false (.pair .str (.sl false .str))), .cell (.sl false (.int .i64))] a) : T_laws_FnExactKeep a = some true := law2_FnExactKeep a.1 a.2 h.1 h.2
end Xs
end Go.Proofs.YtainknkfjekngaaDoor
