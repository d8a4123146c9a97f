/- What the reference's function answers, and the program's: the same. -/
import Derived.Test.YtfepabohinkpgaaT9
import Derived.Test.YtfepabohinkpgaaXItemsOfE
namespace Go.Proofs.Ytfepabohinkpgaa
open Go Vm
set_option linter.unusedVariables false
set_option linter.unusedSimpArgs false
namespace Xs
theorem z_szIntS : SzOk (.sl false (.int .i64)) T_laws_szIntS :=
  sz_flat (e := (.int .i64)) (fun _ => trivial) e_T_laws_szIntS
theorem z_szRing : SzOk (.pair (.int .i64) (.sl false (.int .i64))) T_laws_szRing := by
  rintro ⟨a, b⟩ n ⟨h_a, h_b⟩ h0 hn
  rw [e_T_laws_szRing]
  refine Sz.call z_szIntS h_b (by omega) (by omega) (by omega) fun r1 p1 q1 s1 => ?_
  exact Sz.fin (by omega) ⟨trivial, s1⟩
theorem z_szItem : SzOk (.pair (.int .i64) (.pair (.int .i64) (.pair (.int .i64) .str))) T_laws_szItem := by
  rintro ⟨a, b, c, d⟩ n ⟨h_a, h_b, h_c, h_d⟩ h0 hn
  rw [e_T_laws_szItem]
  refine Sz.str h_d (by omega) (by omega) (by omega) fun p1 w1 s_d => ?_
  try rw [w1]
  exact Sz.fin (by omega) ⟨trivial, trivial, trivial, s_d⟩
theorem z_szEvent : SzOk (.pair (.int .i64) (.pair (.pair (.int .i64) (.sl false (.int .i64))) (.pair (.pair (.int .i64) (.pair (.int .i64) (.pair (.int .i64) .str))) (.sl false (.int .i64))))) T_laws_szEvent := by
  rintro ⟨a, ⟨b, c⟩, ⟨d, e, f, g⟩, h⟩ n ⟨h_a, ⟨h_b, h_c⟩, ⟨h_d, h_e, h_f, h_g⟩, h_h⟩ h0 hn
  rw [e_T_laws_szEvent]
  refine Sz.call z_szRing ⟨h_b, h_c⟩ (by omega) (by omega) (by omega) fun r1 p1 q1 s1 => ?_
  refine Sz.call z_szItem ⟨h_d, h_e, h_f, h_g⟩ (by omega) (by omega) (by omega) fun r2 p2 q2 s2 => ?_
  refine Sz.call z_szIntS h_h (by omega) (by omega) (by omega) fun r3 p3 q3 s3 => ?_
  exact Sz.fin (by omega) ⟨trivial, s1, s2, s3⟩
theorem z_szEventS : SzOk (.sl false (.pair (.int .i64) (.pair (.pair (.int .i64) (.sl false (.int .i64))) (.pair (.pair (.int .i64) (.pair (.int .i64) (.pair (.int .i64) .str))) (.sl false (.int .i64)))))) T_laws_szEventS :=
  sz_sl (e := (.pair (.int .i64) (.pair (.pair (.int .i64) (.sl false (.int .i64))) (.pair (.pair (.int .i64) (.pair (.int .i64) (.pair (.int .i64) .str))) (.sl false (.int .i64)))))) (fun y b => T_laws_szEvent (y, b)) e_T_laws_szEventS e_L_laws_szEventS_1 z_szEvent
theorem c_toIntS {a : (ET.sl false (.int .i64)).den} (h : (ET.sl false (.int .i64)).small a) : T_laws_toIntS a = some a := by
  have h1 : a.length ≤ 1048576 := h.1
  refine to_sl (L := L_laws_toIntS_1) 0 h1 ?_ (fun n b i y hy hi => ?_) (fun n b => ?_)
  · rw [e_T_laws_toIntS, if_pos ⟨by omega, rfl, by omega, by omega⟩]; rfl
  · have hlt := (List.getElem?_eq_some_iff.1 hy).1
    rw [e_L_laws_toIntS_1]
    simp only [show ((i : Int) < (a.length : Int)) by omega, decide_true, cond_true, Int.natCast_nonneg, if_true, Int.toNat_natCast, hy, Option.bind_some, hi, List.getElem?_eq_getElem hi]
    rw [wrap_ok (by omega) (by omega)]
  · rw [e_L_laws_toIntS_1]; simp
theorem c_toRing {x : (ET.pair (.int .i64) (.sl false (.int .i64))).den} (h : (ET.pair (.int .i64) (.sl false (.int .i64))).small x) : T_laws_toRing x = some x := by
  obtain ⟨a, b⟩ := x
  obtain ⟨h_a, h_b⟩ := h
  simp only [e_T_laws_toRing, c_toIntS h_b, Option.bind_some]
theorem c_toItem {x : (ET.pair (.int .i64) (.pair (.int .i64) (.pair (.int .i64) .str))).den} (h : (ET.pair (.int .i64) (.pair (.int .i64) (.pair (.int .i64) .str))).small x) : T_laws_toItem x = some x := by
  obtain ⟨a, b, c, d⟩ := x
  obtain ⟨h_a, h_b, h_c, h_d⟩ := h
  simp only [e_T_laws_toItem, Option.bind_some]
theorem c_toEvent {x : (ET.pair (.int .i64) (.pair (.pair (.int .i64) (.sl false (.int .i64))) (.pair (.pair (.int .i64) (.pair (.int .i64) (.pair (.int .i64) .str))) (.sl false (.int .i64))))).den} (h : (ET.pair (.int .i64) (.pair (.pair (.int .i64) (.sl false (.int .i64))) (.pair (.pair (.int .i64) (.pair (.int .i64) (.pair (.int .i64) .str))) (.sl false (.int .i64))))).small x) : T_laws_toEvent x = some x := by
  obtain ⟨a, ⟨b, c⟩, ⟨d, e, f, g⟩, h⟩ := x
  obtain ⟨h_a, ⟨h_b, h_c⟩, ⟨h_d, h_e, h_f, h_g⟩, h_h⟩ := h
  simp only [e_T_laws_toEvent, c_toRing ⟨h_b, h_c⟩, c_toItem ⟨h_d, h_e, h_f, h_g⟩, c_toIntS h_h, Option.bind_some]
theorem c_toEventS {a : (ET.sl false (.pair (.int .i64) (.pair (.pair (.int .i64) (.sl false (.int .i64))) (.pair (.pair (.int .i64) (.pair (.int .i64) (.pair (.int .i64) .str))) (.sl false (.int .i64)))))).den} (h : (ET.sl false (.pair (.int .i64) (.pair (.pair (.int .i64) (.sl false (.int .i64))) (.pair (.pair (.int .i64) (.pair (.int .i64) (.pair (.int .i64) .str))) (.sl false (.int .i64)))))).small a) : T_laws_toEventS a = some a := by
  have h1 : a.length ≤ 1048576 := h.1
  refine to_sl (L := L_laws_toEventS_1) (0, (0, []), (0, 0, 0, []), []) h1 ?_ (fun n b i y hy hi => ?_) (fun n b => ?_)
  · rw [e_T_laws_toEventS, if_pos ⟨by omega, rfl, by omega, by omega⟩]; rfl
  · have hlt := (List.getElem?_eq_some_iff.1 hy).1
    rw [e_L_laws_toEventS_1]
    simp only [show ((i : Int) < (a.length : Int)) by omega, decide_true, cond_true, Int.natCast_nonneg, if_true, Int.toNat_natCast, hy, Option.bind_some, hi, List.getElem?_eq_getElem hi, c_toEvent (h.2 y (List.mem_of_getElem? hy))]
    rw [wrap_ok (by omega) (by omega)]
  · rw [e_L_laws_toEventS_1]; simp
theorem q_eqItem {x : (ET.pair (.int .i64) (.pair (.int .i64) (.pair (.int .i64) .str))).den} (h : (ET.pair (.int .i64) (.pair (.int .i64) (.pair (.int .i64) .str))).small x) : T_laws_eqItem (x, x) = some true := by
  obtain ⟨a, b, c, d⟩ := x
  obtain ⟨h_a, h_b, h_c, h_d⟩ := h
  simp only [e_T_laws_eqItem, Option.bind_some, beq_self_eq_true, Bool.not_true, cond_false]
theorem q_eqItemS {a : (ET.sl false (.pair (.int .i64) (.pair (.int .i64) (.pair (.int .i64) .str)))).den} (h : (ET.sl false (.pair (.int .i64) (.pair (.int .i64) (.pair (.int .i64) .str)))).small a) : T_laws_eqItemS (a, a) = some true := by
  have h1 : a.length ≤ 1048576 := h.1
  rw [e_T_laws_eqItemS, eq_sl (L := L_laws_eqItemS_1) (Nat.le_trans h1 (by decide)) (fun n i y hy => ?_) (fun n => ?_)]
  · simp
  · have hlt := (List.getElem?_eq_some_iff.1 hy).1
    rw [e_L_laws_eqItemS_1]
    simp only [show ((i : Int) < (a.length : Int)) by omega, decide_true, cond_true, Int.natCast_nonneg, if_true, Int.toNat_natCast, hy, Option.bind_some, beq_self_eq_true, Bool.not_true, cond_false, q_eqItem (h.2 y (List.mem_of_getElem? hy))]
    rw [wrap_ok (by omega) (by omega)]
  · rw [e_L_laws_eqItemS_1]; simp
theorem q_eqIntS {a : (ET.sl false (.int .i64)).den} (h : (ET.sl false (.int .i64)).small a) : T_laws_eqIntS (a, a) = some true := by
  have h1 : a.length ≤ 1048576 := h.1
  rw [e_T_laws_eqIntS, eq_sl (L := L_laws_eqIntS_1) (Nat.le_trans h1 (by decide)) (fun n i y hy => ?_) (fun n => ?_)]
  · simp
  · have hlt := (List.getElem?_eq_some_iff.1 hy).1
    rw [e_L_laws_eqIntS_1]
    simp only [show ((i : Int) < (a.length : Int)) by omega, decide_true, cond_true, Int.natCast_nonneg, if_true, Int.toNat_natCast, hy, Option.bind_some, beq_self_eq_true, Bool.not_true, cond_false]
    rw [wrap_ok (by omega) (by omega)]
  · rw [e_L_laws_eqIntS_1]; simp
theorem q_eqRing {x : (ET.pair (.int .i64) (.sl false (.int .i64))).den} (h : (ET.pair (.int .i64) (.sl false (.int .i64))).small x) : T_laws_eqRing (x, x) = some true := by
  obtain ⟨a, b⟩ := x
  obtain ⟨h_a, h_b⟩ := h
  simp only [e_T_laws_eqRing, q_eqIntS h_b, Option.bind_some, beq_self_eq_true, Bool.not_true, cond_false]
theorem q_eqEvent {x : (ET.pair (.int .i64) (.pair (.pair (.int .i64) (.sl false (.int .i64))) (.pair (.pair (.int .i64) (.pair (.int .i64) (.pair (.int .i64) .str))) (.sl false (.int .i64))))).den} (h : (ET.pair (.int .i64) (.pair (.pair (.int .i64) (.sl false (.int .i64))) (.pair (.pair (.int .i64) (.pair (.int .i64) (.pair (.int .i64) .str))) (.sl false (.int .i64))))).small x) : T_laws_eqEvent (x, x) = some true := by
  obtain ⟨a, ⟨b, c⟩, ⟨d, e, f, g⟩, h⟩ := x
  obtain ⟨h_a, ⟨h_b, h_c⟩, ⟨h_d, h_e, h_f, h_g⟩, h_h⟩ := h
  simp only [e_T_laws_eqEvent, q_eqRing ⟨h_b, h_c⟩, q_eqItem ⟨h_d, h_e, h_f, h_g⟩, q_eqIntS h_h, Option.bind_some, beq_self_eq_true, Bool.not_true, cond_false]
theorem q_eqEventS {a : (ET.sl false (.pair (.int .i64) (.pair (.pair (.int .i64) (.sl false (.int .i64))) (.pair (.pair (.int .i64) (.pair (.int .i64) (.pair (.int .i64) .str))) (.sl false (.int .i64)))))).den} (h : (ET.sl false (.pair (.int .i64) (.pair (.pair (.int .i64) (.sl false (.int .i64))) (.pair (.pair (.int .i64) (.pair (.int .i64) (.pair (.int .i64) .str))) (.sl false (.int .i64)))))).small a) : T_laws_eqEventS (a, a) = some true := by
  have h1 : a.length ≤ 1048576 := h.1
  rw [e_T_laws_eqEventS, eq_sl (L := L_laws_eqEventS_1) (Nat.le_trans h1 (by decide)) (fun n i y hy => ?_) (fun n => ?_)]
  · simp
  · have hlt := (List.getElem?_eq_some_iff.1 hy).1
    rw [e_L_laws_eqEventS_1]
    simp only [show ((i : Int) < (a.length : Int)) by omega, decide_true, cond_true, Int.natCast_nonneg, if_true, Int.toNat_natCast, hy, Option.bind_some, beq_self_eq_true, Bool.not_true, cond_false, q_eqEvent (h.2 y (List.mem_of_getElem? hy))]
    rw [wrap_ok (by omega) (by omega)]
  · rw [e_L_laws_eqEventS_1]; simp
theorem small_len {s : List UInt8} (h : ET.str.small s) : s.length ≤ maxLen := Nat.le_trans h (by decide)
theorem smallL_len {e : ET} {o : Bool} {s : List e.den} (h : (ET.sl o e).small s) : s.length ≤ maxLen := Nat.le_trans h.1 (by decide)
theorem x_markTextL : ∀ (m n : Nat) (a : Int) (b : List UInt8), m < n → a < 10 ^ m → a ≤ 9223372036854775807 → b.length + m ≤ 1000 → ∃ s, L_laws_markText_1 n (a, b) = some (.inl s) ∧ s.length ≤ 1000
  | 0, n, a, b, hn, ha, hb, hl => by
    obtain ⟨n, rfl⟩ : ∃ j, n = j + 1 := ⟨n - 1, by omega⟩
    rw [e_L_laws_markText_1, decide_eq_false (by simp at ha; omega)]
    exact ⟨b, rfl, by omega⟩
  | m + 1, n, a, b, hn, ha, hb, hl => by
    obtain ⟨n, rfl⟩ : ∃ j, n = j + 1 := ⟨n - 1, by omega⟩
    rw [e_L_laws_markText_1]
    by_cases h0 : 0 < a
    · rw [decide_eq_true h0, cond_true, if_neg (by simp only [List.length_map, List.length_cons, List.length_nil]; omega)]
      have h1 : a.tdiv 10 = a / 10 := Int.tdiv_eq_ediv_of_nonneg (by omega)
      rw [Int.pow_succ] at ha
      rw [h1, wrap_ok (by omega) (by omega)]
      exact x_markTextL m n (a / 10) _ (by omega) (by omega) (by omega) (by simp only [List.length_append, List.length_map, List.length_cons, List.length_nil]; omega)
    · rw [decide_eq_false h0]
      exact ⟨b, rfl, by omega⟩
theorem x_markText (k : Int) (h : k ≤ 9223372036854775807) : ∃ s, T_laws_markText k = some s := by
  rw [e_T_laws_markText]
  by_cases h0 : k ≤ 0
  · rw [decide_eq_true h0]; exact ⟨_, rfl⟩
  · rw [decide_eq_false h0, cond_false]
    obtain ⟨s, h1, h2⟩ := x_markTextL 19 fuel k [] (by decide) (by have : (10 : Int) ^ 19 = 10000000000000000000 := rfl; omega) h (by simp)
    rw [h1]
    simp only [Option.bind_some, Sum.elim_inl]
    rw [if_neg (by omega)]
    exact ⟨_, rfl⟩
theorem mk_markIntS : MkOk (.sl true (.int .i64)) T_laws_markIntS (fun _ _ _ => True) := by
  refine MkOk.mono (mk_sl (e := .int .i64) (L := L_laws_markIntS_1) (Q := (fun _ _ _ => True)) e_T_laws_markIntS (fun a b i v1 hy h_v1 h0 hW hi => ?_) (fun n a b => by rw [e_L_laws_markIntS_1]; simp)) (fun l k k' hh => ?_)
  · have hlt := (List.getElem?_eq_some_iff.1 hy).1
    simp only [ET.W] at hW ⊢
    have w1 : IntKind.i64.wrap (b + 1) = b + 1 := wrap_ok (by omega) (by omega)
    refine ⟨b + 1, b, fun n => ?_, trivial, by omega, by omega⟩
    · rw [e_L_laws_markIntS_1]
      simp only [show ((i : Int) < (a.length : Int)) by omega, decide_true, cond_true, Int.natCast_nonneg, if_true, Int.toNat_natCast, hlt, List.length_set, hy, Option.bind_some, List.getElem?_set_self, List.set_set, eq_self, w1]
      rw [wrap_ok (by omega) (by omega)]
  · trivial
theorem mk_markEventS : MkOk (.sl true (.pair (.int .i64) (.pair (.pair (.int .i64) (.sl true (.int .i64))) (.pair (.pair (.int .i64) (.pair (.int .i64) (.pair (.int .i64) .str))) (.sl true (.int .i64)))))) T_laws_markEventS (fun _ _ _ => True) := by
  refine MkOk.mono (mk_sl (e := .pair (.int .i64) (.pair (.pair (.int .i64) (.sl true (.int .i64))) (.pair (.pair (.int .i64) (.pair (.int .i64) (.pair (.int .i64) .str))) (.sl true (.int .i64))))) (L := L_laws_markEventS_1) (Q := (fun _ _ _ => True)) e_T_laws_markEventS (fun a b i y hy hs h0 hW hi => ?_) (fun n a b => by rw [e_L_laws_markEventS_1]; simp)) (fun l k k' hh => ?_)
  · have hlt := (List.getElem?_eq_some_iff.1 hy).1
    obtain ⟨v1, ⟨⟨v2, v3⟩, ⟨⟨v4, ⟨v5, ⟨v6, v7⟩⟩⟩, v8⟩⟩⟩ := y
    obtain ⟨h_v1, ⟨⟨h_v2, h_v3⟩, ⟨⟨h_v4, ⟨h_v5, ⟨h_v6, h_v7⟩⟩⟩, h_v8⟩⟩⟩ := hs
    simp only [ET.W] at hW ⊢
    have w1 : IntKind.i64.wrap (b + 1) = b + 1 := wrap_ok (by omega) (by omega)
    have w2 : IntKind.i64.wrap (b + 1 + 1) = b + 1 + 1 := wrap_ok (by omega) (by omega)
    obtain ⟨k3, z3, m3, q3, l3, u3⟩ := mk_markIntS v3 (b + 1 + 1) h_v3 (by omega) (by simp only [ET.W]; omega)
    simp only [ET.W] at u3
    have n3 : decide (k3 < 0) = false := decide_eq_false (by omega)
    have w4 : IntKind.i64.wrap (k3 + 1) = k3 + 1 := wrap_ok (by omega) (by omega)
    have w5 : IntKind.i64.wrap (k3 + 1 + 1) = k3 + 1 + 1 := wrap_ok (by omega) (by omega)
    have w6 : IntKind.i64.wrap (k3 + 1 + 1 + 1) = k3 + 1 + 1 + 1 := wrap_ok (by omega) (by omega)
    obtain ⟨s7, t7⟩ := x_markText (k3 + 1 + 1 + 1) (by omega)
    have w8 : IntKind.i64.wrap (k3 + 1 + 1 + 1 + 1) = k3 + 1 + 1 + 1 + 1 := wrap_ok (by omega) (by omega)
    obtain ⟨k9, z9, m9, q9, l9, u9⟩ := mk_markIntS v8 (k3 + 1 + 1 + 1 + 1) h_v8 (by omega) (by simp only [ET.W]; omega)
    simp only [ET.W] at u9
    have n9 : decide (k9 < 0) = false := decide_eq_false (by omega)
    refine ⟨k9, (b, ((b + 1, z3), ((k3, (k3 + 1, (k3 + 1 + 1, s7))), z9))), fun n => ?_, trivial, by omega, by omega⟩
    · rw [e_L_laws_markEventS_1]
      simp only [show ((i : Int) < (a.length : Int)) by omega, decide_true, cond_true, Int.natCast_nonneg, if_true, Int.toNat_natCast, hlt, List.length_set, hy, Option.bind_some, List.getElem?_set_self, List.set_set, eq_self, w1, w2, m3, w4, w5, w6, t7, w8, m9]
      rw [wrap_ok (by omega) (by omega)]
  · trivial
theorem mk_markItemS : MkOk (.sl true (.pair (.int .i64) (.pair (.int .i64) (.pair (.int .i64) .str)))) T_laws_markItemS (fun y k k' => T_laws_heldItemS (y, k) = some k') := by
  refine MkOk.mono (mk_sl (e := .pair (.int .i64) (.pair (.int .i64) (.pair (.int .i64) .str))) (L := L_laws_markItemS_1) (Q := (fun y b b' => ∀ n a (i : Nat), a[i]? = some y → i ≤ 1048576 → L_laws_heldItemS_1 (n + 1) (a, b, (i : Int)) = L_laws_heldItemS_1 n (a, b', (i : Int) + 1))) e_T_laws_markItemS (fun a b i y hy hs h0 hW hi => ?_) (fun n a b => by rw [e_L_laws_markItemS_1]; simp)) (fun l k k' hh => ?_)
  · have hlt := (List.getElem?_eq_some_iff.1 hy).1
    obtain ⟨v1, ⟨v2, ⟨v3, v4⟩⟩⟩ := y
    obtain ⟨h_v1, ⟨h_v2, ⟨h_v3, h_v4⟩⟩⟩ := hs
    simp only [ET.W] at hW ⊢
    have w1 : IntKind.i64.wrap (b + 1) = b + 1 := wrap_ok (by omega) (by omega)
    have w2 : IntKind.i64.wrap (b + 1 + 1) = b + 1 + 1 := wrap_ok (by omega) (by omega)
    have w3 : IntKind.i64.wrap (b + 1 + 1 + 1) = b + 1 + 1 + 1 := wrap_ok (by omega) (by omega)
    obtain ⟨s4, t4⟩ := x_markText (b + 1 + 1 + 1) (by omega)
    have w5 : IntKind.i64.wrap (b + 1 + 1 + 1 + 1) = b + 1 + 1 + 1 + 1 := wrap_ok (by omega) (by omega)
    refine ⟨b + 1 + 1 + 1 + 1, (b, (b + 1, (b + 1 + 1, s4))), fun n => ?_, fun n a i hy hi => ?_, by omega, by omega⟩
    · rw [e_L_laws_markItemS_1]
      simp only [show ((i : Int) < (a.length : Int)) by omega, decide_true, cond_true, Int.natCast_nonneg, if_true, Int.toNat_natCast, hlt, List.length_set, hy, Option.bind_some, List.getElem?_set_self, List.set_set, eq_self, w1, w2, w3, t4, w5]
      rw [wrap_ok (by omega) (by omega)]
    · rw [e_L_laws_heldItemS_1]
      have hlt := (List.getElem?_eq_some_iff.1 hy).1
      simp only [show ((i : Int) < (a.length : Int)) by omega, decide_true, cond_true, Int.natCast_nonneg, if_true, Int.toNat_natCast, hy, Option.bind_some, beq_self_eq_true, Bool.not_true, cond_false, w1, w2, w3, t4, w5]
      rw [wrap_ok (by omega) (by omega)]
  · exact hd_sl (L := L_laws_heldItemS_1) e_T_laws_heldItemS (fun a b b' i y hy hq hi n => hq n a i hy hi) (fun n a b => by rw [e_L_laws_heldItemS_1]; simp) hh.1 hh.2
def itemsOf (a : List (Int × (Int × List Int) × (Int × Int × Int × List UInt8) × List Int)) (b : Int) : List (Int × Int × Int × List UInt8) := (a.filter fun e => (e.1 == 1) && (e.2.1.1 == b)).map fun e => e.2.2.1
theorem itemsOf_snoc (a : List (Int × (Int × List Int) × (Int × Int × Int × List UInt8) × List Int)) (b : Int) (y : Int × (Int × List Int) × (Int × Int × Int × List UInt8) × List Int) : itemsOf (a ++ [y]) b = bif (y.1 == 1) && (y.2.1.1 == b) then itemsOf a b ++ [y.2.2.1] else itemsOf a b := by
  simp only [itemsOf, List.filter_append, List.map_append, List.filter_cons, List.filter_nil]
  cases (y.1 == 1) && (y.2.1.1 == b) <;> simp
theorem itemsOf_len (a : List (Int × (Int × List Int) × (Int × Int × Int × List UInt8) × List Int)) (b : Int) : (itemsOf a b).length ≤ a.length := by
  simp only [itemsOf, List.length_map]; exact List.length_filter_le _ _
theorem itemsOf_mem {a : List (Int × (Int × List Int) × (Int × Int × Int × List UInt8) × List Int)} {b : Int} {x : Int × Int × Int × List UInt8} (h : x ∈ itemsOf a b) : ∃ e ∈ a, x = e.2.2.1 := by
  simp only [itemsOf, List.mem_map, List.mem_filter] at h
  obtain ⟨e, ⟨h1, _⟩, rfl⟩ := h
  exact ⟨e, h1, rfl⟩
theorem x_specItemsOf (a : List (Int × (Int × List Int) × (Int × Int × Int × List UInt8) × List Int)) (b : Int) (hl : a.length ≤ 1048576) : T_spec_ItemsOf (a, b) = some (itemsOf a b) := by
  rw [e_T_spec_ItemsOf]
  obtain ⟨s, h1, h2⟩ := loop_all (L := L_spec_ItemsOf_1) a (fun s d => (a, b, s, d)) (fun s => s) (fun i s => s = itemsOf (a.take i) b) (fun i y s hy hi hI => ⟨itemsOf (a.take (i + 1)) b, rfl, fun n => by
      have hlen := itemsOf_len (a.take i) b
      rw [List.length_take] at hlen
      rw [take_succ' hy, itemsOf_snoc]
      subst hI
      obtain ⟨y1, ⟨y2, y3⟩, ⟨y4, y5, y6, y7⟩, y8⟩ := y
      rw [e_L_spec_ItemsOf_1]
      simp only [show ((i : Int) < (a.length : Int)) by omega, decide_true, cond_true, Int.natCast_nonneg, if_true, Int.toNat_natCast, hy, Option.bind_some]
      cases y1 == 1
      · simp only [cond_false, Option.bind_some, Sum.elim_inl, Bool.false_and]
        rw [wrap_ok (by omega) (by omega)]
      · simp only [cond_true, Option.bind_some, Sum.elim_inl, Bool.true_and, Int.natCast_nonneg, if_true, Int.toNat_natCast, hy]
        cases y2 == b
        · simp only [cond_false, Option.bind_some, Sum.elim_inl]
          rw [wrap_ok (by omega) (by omega)]
        · simp only [cond_true, List.length_cons, List.length_nil]
          rw [if_pos ⟨by omega, by omega⟩]
          simp only [Option.bind_some, Sum.elim_inl]
          rw [wrap_ok (by omega) (by omega)]
          rfl⟩) (fun n s _ => by rw [e_L_spec_ItemsOf_1]; simp) (by rw [maxLen_eq]; omega) [] rfl
  rw [h2, h1, List.take_length]; rfl
theorem x_implItemsOf (a : List (Int × (Int × List Int) × (Int × Int × Int × List UInt8) × List Int)) (b : Int) (hl : a.length ≤ 1048576) : T_impl_ItemsOf (a, b) = some (itemsOf a b) := by
  rw [e_T_impl_ItemsOf]
  obtain ⟨s, h1, h2⟩ := loop_all (L := L_impl_ItemsOf_1) a (fun s d => (b, s, a, (a.length : Int), d)) (fun s => s) (fun i s => s = itemsOf (a.take i) b) (fun i y s hy hi hI => ⟨itemsOf (a.take (i + 1)) b, rfl, fun n => by
      have hlen := itemsOf_len (a.take i) b
      rw [List.length_take] at hlen
      rw [take_succ' hy, itemsOf_snoc]
      subst hI
      obtain ⟨y1, ⟨y2, y3⟩, ⟨y4, y5, y6, y7⟩, y8⟩ := y
      rw [e_L_impl_ItemsOf_1]
      simp only [show ((i : Int) < (a.length : Int)) by omega, decide_true, cond_true, Int.natCast_nonneg, if_true, Int.toNat_natCast, hy, Option.bind_some]
      cases y1 == 1
      · simp only [cond_false, Option.bind_some, Sum.elim_inl, Bool.false_and]
        rw [wrap_ok (by omega) (by omega)]
      · simp only [cond_true, Option.bind_some, Sum.elim_inl, Bool.true_and, Int.natCast_nonneg, if_true, Int.toNat_natCast, hy]
        cases y2 == b
        · simp only [cond_false, Option.bind_some, Sum.elim_inl]
          rw [wrap_ok (by omega) (by omega)]
        · simp only [cond_true, List.length_cons, List.length_nil]
          rw [if_pos ⟨by omega, by omega⟩]
          simp only [Option.bind_some, Sum.elim_inl]
          rw [wrap_ok (by omega) (by omega)]
          rfl⟩) (fun n s _ => by rw [e_L_impl_ItemsOf_1]; simp) (by rw [maxLen_eq]; omega) [] rfl
  rw [h2, h1, List.take_length]; rfl
theorem law2_FnExactItemsOf (x : (ET.sl false (.pair (.int .i64) (.pair (.pair (.int .i64) (.sl false (.int .i64))) (.pair (.pair (.int .i64) (.pair (.int .i64) (.pair (.int .i64) .str))) (.sl false (.int .i64)))))).den) (b : Int) (h : (ET.sl false (.pair (.int .i64) (.pair (.pair (.int .i64) (.sl false (.int .i64))) (.pair (.pair (.int .i64) (.pair (.int .i64) (.pair (.int .i64) .str))) (.sl false (.int .i64)))))).ok x) : T_laws_FnExactItemsOf (x, b) = some true := by
  obtain ⟨r, h1, h2, h3⟩ := z_szEventS x 1048576 h (by decide) (by decide)
  rw [e_T_laws_FnExactItemsOf, h1]
  simp only [Option.bind_some]
  by_cases hr : r < 0
  · simp [hr]
  · have hs := h3 (by omega)
    have hl : x.length ≤ 1048576 := hs.1
    have hs2 : (ET.sl false (.pair (.int .i64) (.pair (.int .i64) (.pair (.int .i64) .str)))).small (itemsOf x b) := ⟨Nat.le_trans (itemsOf_len x b) hl, fun y hy => by
      obtain ⟨e, he, rfl⟩ := itemsOf_mem hy
      exact (hs.2 e he).2.2.1⟩
    obtain ⟨k1, x1, m1, _, l1, _⟩ := mk_markEventS x 1 hs (by decide) (by decide)
    obtain ⟨k2, x2, m2, d2, l2, _⟩ := mk_markItemS (itemsOf x b) 1 hs2 (by decide) (by decide)
    have n1 : decide (k1 < 0) = false := decide_eq_false (by omega)
    have n2 : decide (k2 < 0) = false := decide_eq_false (by omega)
    simp only [hr, decide_false, cond_false, c_toEventS hs, x_specItemsOf x b hl, x_implItemsOf x b hl, q_eqItemS hs2, q_eqEventS hs, m1, m2, d2, n1, n2, Option.bind_some, Sum.elim_inl, beq_self_eq_true, Bool.not_true]
theorem law_FnExactItemsOf (a : Den [.cell (.sl false (.pair (.int .i64) (.pair (.pair (.int .i64) (.sl false (.int .i64))) (.pair (.pair (.int .i64) (.pair (.int .i64) (.pair (.int .i64) .str))) (.sl false (.int .i64)))))), .cell (.int .i64)]) (h : okL [.cell (.sl false (.pair (.int .i64) (.pair (.pair (.int .i64) (.sl false (.int .i64))) (.pair (.pair (.int .i64) (.pair (.int .i64) (.pair (.int .i64) .str))) (.sl false (.int .i64)))))), .cell (.int .i64)] a) : T_laws_FnExactItemsOf a = some true := law2_FnExactItemsOf a.1 a.2 h.1
end Xs
end Go.Proofs.Ytfepabohinkpgaa
