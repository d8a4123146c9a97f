/- What the reference's function answers, and the program's: the same. -/
import Derived.Test.YtkjpdhdmjjepfaaT9
import Derived.Test.YtkjpdhdmjjepfaaXSafeKeptE
namespace Go.Proofs.Ytkjpdhdmjjepfaa
open Go Vm
set_option linter.unusedVariables false
set_option linter.unusedSimpArgs false
namespace Xs
theorem z_szIntS : SzOk (.sl false (.int .i64)) T_laws_szIntS :=
  sz_flat (e := (.int .i64)) (fun _ => trivial) e_T_laws_szIntS
theorem z_szRing : SzOk (.pair (.int .i64) (.sl false (.int .i64))) T_laws_szRing := by
  rintro ⟨a, b⟩ n ⟨h_a, h_b⟩ h0 hn
  rw [e_T_laws_szRing]
  refine Sz.call z_szIntS h_b (by omega) (by omega) (by omega) fun r1 p1 q1 s1 => ?_
  exact Sz.fin (by omega) ⟨trivial, s1⟩
theorem z_szRingS : SzOk (.sl false (.pair (.int .i64) (.sl false (.int .i64)))) T_laws_szRingS :=
  sz_sl (e := (.pair (.int .i64) (.sl false (.int .i64)))) (fun y b => T_laws_szRing (y, b)) e_T_laws_szRingS e_L_laws_szRingS_1 z_szRing
theorem z_szItem : SzOk (.pair (.int .i64) (.pair (.int .i64) (.pair (.int .i64) .str))) T_laws_szItem := by
  rintro ⟨a, b, c, d⟩ n ⟨h_a, h_b, h_c, h_d⟩ h0 hn
  rw [e_T_laws_szItem]
  refine Sz.str h_d (by omega) (by omega) (by omega) fun p1 w1 s_d => ?_
  try rw [w1]
  exact Sz.fin (by omega) ⟨trivial, trivial, trivial, s_d⟩
theorem z_szItemS : SzOk (.sl false (.pair (.int .i64) (.pair (.int .i64) (.pair (.int .i64) .str)))) T_laws_szItemS :=
  sz_sl (e := (.pair (.int .i64) (.pair (.int .i64) (.pair (.int .i64) .str)))) (fun y b => T_laws_szItem (y, b)) e_T_laws_szItemS e_L_laws_szItemS_1 z_szItem
theorem z_szStringS : SzOk (.sl false .str) T_laws_szStringS :=
  sz_sl (e := .str) (fun y b => some (IntKind.i64.wrap (b - (y.length : Int)))) e_T_laws_szStringS e_L_laws_szStringS_1 sz_str
theorem z_szToken : SzOk (.pair (.int .i64) (.pair (.int .i64) (.pair (.int .i64) (.pair (.int .i64) (.pair (.int .i64) (.sl false (.int .i64))))))) T_laws_szToken := by
  rintro ⟨a, b, c, d, e, f⟩ n ⟨h_a, h_b, h_c, h_d, h_e, h_f⟩ h0 hn
  rw [e_T_laws_szToken]
  refine Sz.call z_szIntS h_f (by omega) (by omega) (by omega) fun r1 p1 q1 s1 => ?_
  exact Sz.fin (by omega) ⟨trivial, trivial, trivial, trivial, trivial, s1⟩
theorem z_szMate : SzOk (.pair (.int .i64) (.pair (.pair (.int .i64) (.sl false (.int .i64))) (.pair (.sl false (.pair (.int .i64) (.pair (.int .i64) (.pair (.int .i64) .str)))) (.pair (.sl false (.int .i64)) (.pair (.sl false .str) (.pair (.int .i64) (.pair (.int .i64) (.pair (.int .i64) (.pair (.int .i64) (.pair (.int .i64) (.pair (.int .i64) (.pair (.int .i64) (.pair (.int .i64) (.pair (.int .i64) (.sl false (.int .i64)))))))))))))))) T_laws_szMate := by
  rintro ⟨a, ⟨b, c⟩, d, e, f, g, h, i, j, k, l, m, o, p, q⟩ n ⟨h_a, ⟨h_b, h_c⟩, h_d, h_e, h_f, h_g, h_h, h_i, h_j, h_k, h_l, h_m, h_o, h_p, h_q⟩ h0 hn
  rw [e_T_laws_szMate]
  refine Sz.call z_szRing ⟨h_b, h_c⟩ (by omega) (by omega) (by omega) fun r1 p1 q1 s1 => ?_
  refine Sz.call z_szItemS h_d (by omega) (by omega) (by omega) fun r2 p2 q2 s2 => ?_
  refine Sz.call z_szIntS h_e (by omega) (by omega) (by omega) fun r3 p3 q3 s3 => ?_
  refine Sz.call z_szStringS h_f (by omega) (by omega) (by omega) fun r4 p4 q4 s4 => ?_
  refine Sz.call z_szToken ⟨h_k, h_l, h_m, h_o, h_p, h_q⟩ (by omega) (by omega) (by omega) fun r5 p5 q5 s5 => ?_
  exact Sz.fin (by omega) ⟨trivial, s1, s2, s3, s4, trivial, trivial, trivial, trivial, s5⟩
theorem z_szBundle : SzOk (.pair (.int .i64) (.pair (.int .i64) (.pair (.int .i64) (.sl false (.pair (.int .i64) (.pair (.int .i64) (.pair (.int .i64) .str))))))) T_laws_szBundle := by
  rintro ⟨a, b, c, d⟩ n ⟨h_a, h_b, h_c, h_d⟩ h0 hn
  rw [e_T_laws_szBundle]
  refine Sz.call z_szItemS h_d (by omega) (by omega) (by omega) fun r1 p1 q1 s1 => ?_
  exact Sz.fin (by omega) ⟨trivial, trivial, trivial, s1⟩
theorem z_szBundleS : SzOk (.sl false (.pair (.int .i64) (.pair (.int .i64) (.pair (.int .i64) (.sl false (.pair (.int .i64) (.pair (.int .i64) (.pair (.int .i64) .str)))))))) T_laws_szBundleS :=
  sz_sl (e := (.pair (.int .i64) (.pair (.int .i64) (.pair (.int .i64) (.sl false (.pair (.int .i64) (.pair (.int .i64) (.pair (.int .i64) .str)))))))) (fun y b => T_laws_szBundle (y, b)) e_T_laws_szBundleS e_L_laws_szBundleS_1 z_szBundle
theorem z_szEvent : SzOk (.pair (.int .i64) (.pair (.pair (.int .i64) (.sl false (.int .i64))) (.pair (.pair (.int .i64) (.pair (.int .i64) (.pair (.int .i64) .str))) (.sl false (.int .i64))))) T_laws_szEvent := by
  rintro ⟨a, ⟨b, c⟩, ⟨d, e, f, g⟩, h⟩ n ⟨h_a, ⟨h_b, h_c⟩, ⟨h_d, h_e, h_f, h_g⟩, h_h⟩ h0 hn
  rw [e_T_laws_szEvent]
  refine Sz.call z_szRing ⟨h_b, h_c⟩ (by omega) (by omega) (by omega) fun r1 p1 q1 s1 => ?_
  refine Sz.call z_szItem ⟨h_d, h_e, h_f, h_g⟩ (by omega) (by omega) (by omega) fun r2 p2 q2 s2 => ?_
  refine Sz.call z_szIntS h_h (by omega) (by omega) (by omega) fun r3 p3 q3 s3 => ?_
  exact Sz.fin (by omega) ⟨trivial, s1, s2, s3⟩
theorem z_szEventS : SzOk (.sl false (.pair (.int .i64) (.pair (.pair (.int .i64) (.sl false (.int .i64))) (.pair (.pair (.int .i64) (.pair (.int .i64) (.pair (.int .i64) .str))) (.sl false (.int .i64)))))) T_laws_szEventS :=
  sz_sl (e := (.pair (.int .i64) (.pair (.pair (.int .i64) (.sl false (.int .i64))) (.pair (.pair (.int .i64) (.pair (.int .i64) (.pair (.int .i64) .str))) (.sl false (.int .i64)))))) (fun y b => T_laws_szEvent (y, b)) e_T_laws_szEventS e_L_laws_szEventS_1 z_szEvent
theorem z_szDaemon : SzOk (.pair (.int .i64) (.pair .bool (.pair (.pair (.int .i64) (.pair (.pair (.int .i64) (.sl false (.int .i64))) (.pair (.sl false (.pair (.int .i64) (.pair (.int .i64) (.pair (.int .i64) .str)))) (.pair (.sl false (.int .i64)) (.pair (.sl false .str) (.pair (.int .i64) (.pair (.int .i64) (.pair (.int .i64) (.pair (.int .i64) (.pair (.int .i64) (.pair (.int .i64) (.pair (.int .i64) (.pair (.int .i64) (.pair (.int .i64) (.sl false (.int .i64)))))))))))))))) (.pair (.int .i64) (.pair (.int .i64) (.pair (.pair (.int .i64) (.sl false (.int .i64))) (.pair (.sl false (.pair (.int .i64) (.pair (.int .i64) (.pair (.int .i64) (.sl false (.pair (.int .i64) (.pair (.int .i64) (.pair (.int .i64) .str)))))))) (.sl false (.pair (.int .i64) (.pair (.pair (.int .i64) (.sl false (.int .i64))) (.pair (.pair (.int .i64) (.pair (.int .i64) (.pair (.int .i64) .str))) (.sl false (.int .i64))))))))))))) T_laws_szDaemon := by
  rintro ⟨a, b, ⟨c, ⟨d, e⟩, f, g, h, i, j, k, l, m, o, p, q, r, s⟩, t, u, ⟨v, w⟩, x, y⟩ n ⟨h_a, h_b, ⟨h_c, ⟨h_d, h_e⟩, h_f, h_g, h_h, h_i, h_j, h_k, h_l, h_m, h_o, h_p, h_q, h_r, h_s⟩, h_t, h_u, ⟨h_v, h_w⟩, h_x, h_y⟩ h0 hn
  rw [e_T_laws_szDaemon]
  refine Sz.call z_szMate ⟨h_c, ⟨h_d, h_e⟩, h_f, h_g, h_h, h_i, h_j, h_k, h_l, h_m, h_o, h_p, h_q, h_r, h_s⟩ (by omega) (by omega) (by omega) fun r1 p1 q1 s1 => ?_
  refine Sz.call z_szRing ⟨h_v, h_w⟩ (by omega) (by omega) (by omega) fun r2 p2 q2 s2 => ?_
  refine Sz.call z_szBundleS h_x (by omega) (by omega) (by omega) fun r3 p3 q3 s3 => ?_
  refine Sz.call z_szEventS h_y (by omega) (by omega) (by omega) fun r4 p4 q4 s4 => ?_
  exact Sz.fin (by omega) ⟨trivial, trivial, s1, trivial, trivial, s2, s3, s4⟩
theorem z_szDaemonS : SzOk (.sl false (.pair (.int .i64) (.pair .bool (.pair (.pair (.int .i64) (.pair (.pair (.int .i64) (.sl false (.int .i64))) (.pair (.sl false (.pair (.int .i64) (.pair (.int .i64) (.pair (.int .i64) .str)))) (.pair (.sl false (.int .i64)) (.pair (.sl false .str) (.pair (.int .i64) (.pair (.int .i64) (.pair (.int .i64) (.pair (.int .i64) (.pair (.int .i64) (.pair (.int .i64) (.pair (.int .i64) (.pair (.int .i64) (.pair (.int .i64) (.sl false (.int .i64)))))))))))))))) (.pair (.int .i64) (.pair (.int .i64) (.pair (.pair (.int .i64) (.sl false (.int .i64))) (.pair (.sl false (.pair (.int .i64) (.pair (.int .i64) (.pair (.int .i64) (.sl false (.pair (.int .i64) (.pair (.int .i64) (.pair (.int .i64) .str)))))))) (.sl false (.pair (.int .i64) (.pair (.pair (.int .i64) (.sl false (.int .i64))) (.pair (.pair (.int .i64) (.pair (.int .i64) (.pair (.int .i64) .str))) (.sl false (.int .i64)))))))))))))) T_laws_szDaemonS :=
  sz_sl (e := (.pair (.int .i64) (.pair .bool (.pair (.pair (.int .i64) (.pair (.pair (.int .i64) (.sl false (.int .i64))) (.pair (.sl false (.pair (.int .i64) (.pair (.int .i64) (.pair (.int .i64) .str)))) (.pair (.sl false (.int .i64)) (.pair (.sl false .str) (.pair (.int .i64) (.pair (.int .i64) (.pair (.int .i64) (.pair (.int .i64) (.pair (.int .i64) (.pair (.int .i64) (.pair (.int .i64) (.pair (.int .i64) (.pair (.int .i64) (.sl false (.int .i64)))))))))))))))) (.pair (.int .i64) (.pair (.int .i64) (.pair (.pair (.int .i64) (.sl false (.int .i64))) (.pair (.sl false (.pair (.int .i64) (.pair (.int .i64) (.pair (.int .i64) (.sl false (.pair (.int .i64) (.pair (.int .i64) (.pair (.int .i64) .str)))))))) (.sl false (.pair (.int .i64) (.pair (.pair (.int .i64) (.sl false (.int .i64))) (.pair (.pair (.int .i64) (.pair (.int .i64) (.pair (.int .i64) .str))) (.sl false (.int .i64)))))))))))))) (fun y b => T_laws_szDaemon (y, b)) e_T_laws_szDaemonS e_L_laws_szDaemonS_1 z_szDaemon
theorem z_szLetter : SzOk (.pair (.int .i64) (.pair (.int .i64) (.pair (.int .i64) (.pair (.pair (.int .i64) (.pair (.int .i64) (.pair (.int .i64) .str))) (.pair (.pair (.int .i64) (.pair (.int .i64) (.pair (.int .i64) (.pair (.int .i64) (.pair (.int .i64) (.sl false (.int .i64))))))) (.pair (.int .i64) (.pair (.int .i64) (.pair (.int .i64) (.sl false (.pair (.int .i64) (.pair (.int .i64) (.pair (.int .i64) .str)))))))))))) T_laws_szLetter := by
  rintro ⟨a, b, c, ⟨d, e, f, g⟩, ⟨h, i, j, k, l, m⟩, o, p, q, r⟩ n ⟨h_a, h_b, h_c, ⟨h_d, h_e, h_f, h_g⟩, ⟨h_h, h_i, h_j, h_k, h_l, h_m⟩, h_o, h_p, h_q, h_r⟩ h0 hn
  rw [e_T_laws_szLetter]
  refine Sz.call z_szItem ⟨h_d, h_e, h_f, h_g⟩ (by omega) (by omega) (by omega) fun r1 p1 q1 s1 => ?_
  refine Sz.call z_szToken ⟨h_h, h_i, h_j, h_k, h_l, h_m⟩ (by omega) (by omega) (by omega) fun r2 p2 q2 s2 => ?_
  refine Sz.call z_szBundle ⟨h_o, h_p, h_q, h_r⟩ (by omega) (by omega) (by omega) fun r3 p3 q3 s3 => ?_
  exact Sz.fin (by omega) ⟨trivial, trivial, trivial, s1, s2, s3⟩
theorem z_szLetterS : SzOk (.sl false (.pair (.int .i64) (.pair (.int .i64) (.pair (.int .i64) (.pair (.pair (.int .i64) (.pair (.int .i64) (.pair (.int .i64) .str))) (.pair (.pair (.int .i64) (.pair (.int .i64) (.pair (.int .i64) (.pair (.int .i64) (.pair (.int .i64) (.sl false (.int .i64))))))) (.pair (.int .i64) (.pair (.int .i64) (.pair (.int .i64) (.sl false (.pair (.int .i64) (.pair (.int .i64) (.pair (.int .i64) .str))))))))))))) T_laws_szLetterS :=
  sz_sl (e := (.pair (.int .i64) (.pair (.int .i64) (.pair (.int .i64) (.pair (.pair (.int .i64) (.pair (.int .i64) (.pair (.int .i64) .str))) (.pair (.pair (.int .i64) (.pair (.int .i64) (.pair (.int .i64) (.pair (.int .i64) (.pair (.int .i64) (.sl false (.int .i64))))))) (.pair (.int .i64) (.pair (.int .i64) (.pair (.int .i64) (.sl false (.pair (.int .i64) (.pair (.int .i64) (.pair (.int .i64) .str))))))))))))) (fun y b => T_laws_szLetter (y, b)) e_T_laws_szLetterS e_L_laws_szLetterS_1 z_szLetter
theorem z_szWorld : SzOk (.pair (.sl false (.pair (.int .i64) (.sl false (.int .i64)))) (.pair (.sl false (.pair (.int .i64) (.pair .bool (.pair (.pair (.int .i64) (.pair (.pair (.int .i64) (.sl false (.int .i64))) (.pair (.sl false (.pair (.int .i64) (.pair (.int .i64) (.pair (.int .i64) .str)))) (.pair (.sl false (.int .i64)) (.pair (.sl false .str) (.pair (.int .i64) (.pair (.int .i64) (.pair (.int .i64) (.pair (.int .i64) (.pair (.int .i64) (.pair (.int .i64) (.pair (.int .i64) (.pair (.int .i64) (.pair (.int .i64) (.sl false (.int .i64)))))))))))))))) (.pair (.int .i64) (.pair (.int .i64) (.pair (.pair (.int .i64) (.sl false (.int .i64))) (.pair (.sl false (.pair (.int .i64) (.pair (.int .i64) (.pair (.int .i64) (.sl false (.pair (.int .i64) (.pair (.int .i64) (.pair (.int .i64) .str)))))))) (.sl false (.pair (.int .i64) (.pair (.pair (.int .i64) (.sl false (.int .i64))) (.pair (.pair (.int .i64) (.pair (.int .i64) (.pair (.int .i64) .str))) (.sl false (.int .i64)))))))))))))) (.pair (.sl false (.pair (.int .i64) (.pair (.int .i64) (.pair (.int .i64) (.pair (.pair (.int .i64) (.pair (.int .i64) (.pair (.int .i64) .str))) (.pair (.pair (.int .i64) (.pair (.int .i64) (.pair (.int .i64) (.pair (.int .i64) (.pair (.int .i64) (.sl false (.int .i64))))))) (.pair (.int .i64) (.pair (.int .i64) (.pair (.int .i64) (.sl false (.pair (.int .i64) (.pair (.int .i64) (.pair (.int .i64) .str))))))))))))) (.sl false (.pair (.int .i64) (.pair (.pair (.int .i64) (.sl false (.int .i64))) (.pair (.pair (.int .i64) (.pair (.int .i64) (.pair (.int .i64) .str))) (.sl false (.int .i64))))))))) T_laws_szWorld := by
  rintro ⟨a, b, c, d⟩ n ⟨h_a, h_b, h_c, h_d⟩ h0 hn
  rw [e_T_laws_szWorld]
  refine Sz.call z_szRingS h_a (by omega) (by omega) (by omega) fun r1 p1 q1 s1 => ?_
  refine Sz.call z_szDaemonS h_b (by omega) (by omega) (by omega) fun r2 p2 q2 s2 => ?_
  refine Sz.call z_szLetterS h_c (by omega) (by omega) (by omega) fun r3 p3 q3 s3 => ?_
  refine Sz.call z_szEventS h_d (by omega) (by omega) (by omega) fun r4 p4 q4 s4 => ?_
  exact Sz.fin (by omega) ⟨s1, s2, s3, s4⟩
theorem c_toIntS {a : (ET.sl false (.int .i64)).den} (h : (ET.sl false (.int .i64)).small a) : T_laws_toIntS a = some a := by
  have h1 : a.length ≤ 1048576 := h.1
  refine to_sl (L := L_laws_toIntS_1) 0 h1 ?_ (fun n b i y hy hi => ?_) (fun n b => ?_)
  · rw [e_T_laws_toIntS, if_pos ⟨by omega, rfl, by omega, by omega⟩]; rfl
  · have hlt := (List.getElem?_eq_some_iff.1 hy).1
    rw [e_L_laws_toIntS_1]
    simp only [show ((i : Int) < (a.length : Int)) by omega, decide_true, cond_true, Int.natCast_nonneg, if_true, Int.toNat_natCast, hy, Option.bind_some, hi, List.getElem?_eq_getElem hi]
    rw [wrap_ok (by omega) (by omega)]
  · rw [e_L_laws_toIntS_1]; simp
theorem c_toRing {x : (ET.pair (.int .i64) (.sl false (.int .i64))).den} (h : (ET.pair (.int .i64) (.sl false (.int .i64))).small x) : T_laws_toRing x = some x := by
  obtain ⟨a, b⟩ := x
  obtain ⟨h_a, h_b⟩ := h
  simp only [e_T_laws_toRing, c_toIntS h_b, Option.bind_some]
theorem c_toRingS {a : (ET.sl false (.pair (.int .i64) (.sl false (.int .i64)))).den} (h : (ET.sl false (.pair (.int .i64) (.sl false (.int .i64)))).small a) : T_laws_toRingS a = some a := by
  have h1 : a.length ≤ 1048576 := h.1
  refine to_sl (L := L_laws_toRingS_1) (0, []) h1 ?_ (fun n b i y hy hi => ?_) (fun n b => ?_)
  · rw [e_T_laws_toRingS, if_pos ⟨by omega, rfl, by omega, by omega⟩]; rfl
  · have hlt := (List.getElem?_eq_some_iff.1 hy).1
    rw [e_L_laws_toRingS_1]
    simp only [show ((i : Int) < (a.length : Int)) by omega, decide_true, cond_true, Int.natCast_nonneg, if_true, Int.toNat_natCast, hy, Option.bind_some, hi, List.getElem?_eq_getElem hi, c_toRing (h.2 y (List.mem_of_getElem? hy))]
    rw [wrap_ok (by omega) (by omega)]
  · rw [e_L_laws_toRingS_1]; simp
theorem c_toItem {x : (ET.pair (.int .i64) (.pair (.int .i64) (.pair (.int .i64) .str))).den} (h : (ET.pair (.int .i64) (.pair (.int .i64) (.pair (.int .i64) .str))).small x) : T_laws_toItem x = some x := by
  obtain ⟨a, b, c, d⟩ := x
  obtain ⟨h_a, h_b, h_c, h_d⟩ := h
  simp only [e_T_laws_toItem, Option.bind_some]
theorem c_toItemS {a : (ET.sl false (.pair (.int .i64) (.pair (.int .i64) (.pair (.int .i64) .str)))).den} (h : (ET.sl false (.pair (.int .i64) (.pair (.int .i64) (.pair (.int .i64) .str)))).small a) : T_laws_toItemS a = some a := by
  have h1 : a.length ≤ 1048576 := h.1
  refine to_sl (L := L_laws_toItemS_1) (0, 0, 0, []) h1 ?_ (fun n b i y hy hi => ?_) (fun n b => ?_)
  · rw [e_T_laws_toItemS, if_pos ⟨by omega, rfl, by omega, by omega⟩]; rfl
  · have hlt := (List.getElem?_eq_some_iff.1 hy).1
    rw [e_L_laws_toItemS_1]
    simp only [show ((i : Int) < (a.length : Int)) by omega, decide_true, cond_true, Int.natCast_nonneg, if_true, Int.toNat_natCast, hy, Option.bind_some, hi, List.getElem?_eq_getElem hi, c_toItem (h.2 y (List.mem_of_getElem? hy))]
    rw [wrap_ok (by omega) (by omega)]
  · rw [e_L_laws_toItemS_1]; simp
theorem c_toStringS {a : (ET.sl false (.str)).den} (h : (ET.sl false (.str)).small a) : T_laws_toStringS a = some a := by
  have h1 : a.length ≤ 1048576 := h.1
  refine to_sl (L := L_laws_toStringS_1) [] h1 ?_ (fun n b i y hy hi => ?_) (fun n b => ?_)
  · rw [e_T_laws_toStringS, if_pos ⟨by omega, rfl, by omega, by omega⟩]; rfl
  · have hlt := (List.getElem?_eq_some_iff.1 hy).1
    rw [e_L_laws_toStringS_1]
    simp only [show ((i : Int) < (a.length : Int)) by omega, decide_true, cond_true, Int.natCast_nonneg, if_true, Int.toNat_natCast, hy, Option.bind_some, hi, List.getElem?_eq_getElem hi]
    rw [wrap_ok (by omega) (by omega)]
  · rw [e_L_laws_toStringS_1]; simp
theorem c_toToken {x : (ET.pair (.int .i64) (.pair (.int .i64) (.pair (.int .i64) (.pair (.int .i64) (.pair (.int .i64) (.sl false (.int .i64))))))).den} (h : (ET.pair (.int .i64) (.pair (.int .i64) (.pair (.int .i64) (.pair (.int .i64) (.pair (.int .i64) (.sl false (.int .i64))))))).small x) : T_laws_toToken x = some x := by
  obtain ⟨a, b, c, d, e, f⟩ := x
  obtain ⟨h_a, h_b, h_c, h_d, h_e, h_f⟩ := h
  simp only [e_T_laws_toToken, c_toIntS h_f, Option.bind_some]
theorem c_toMate {x : (ET.pair (.int .i64) (.pair (.pair (.int .i64) (.sl false (.int .i64))) (.pair (.sl false (.pair (.int .i64) (.pair (.int .i64) (.pair (.int .i64) .str)))) (.pair (.sl false (.int .i64)) (.pair (.sl false .str) (.pair (.int .i64) (.pair (.int .i64) (.pair (.int .i64) (.pair (.int .i64) (.pair (.int .i64) (.pair (.int .i64) (.pair (.int .i64) (.pair (.int .i64) (.pair (.int .i64) (.sl false (.int .i64)))))))))))))))).den} (h : (ET.pair (.int .i64) (.pair (.pair (.int .i64) (.sl false (.int .i64))) (.pair (.sl false (.pair (.int .i64) (.pair (.int .i64) (.pair (.int .i64) .str)))) (.pair (.sl false (.int .i64)) (.pair (.sl false .str) (.pair (.int .i64) (.pair (.int .i64) (.pair (.int .i64) (.pair (.int .i64) (.pair (.int .i64) (.pair (.int .i64) (.pair (.int .i64) (.pair (.int .i64) (.pair (.int .i64) (.sl false (.int .i64)))))))))))))))).small x) : T_laws_toMate x = some x := by
  obtain ⟨a, ⟨b, c⟩, d, e, f, g, h, i, j, k, l, m, o, p, q⟩ := x
  obtain ⟨h_a, ⟨h_b, h_c⟩, h_d, h_e, h_f, h_g, h_h, h_i, h_j, h_k, h_l, h_m, h_o, h_p, h_q⟩ := h
  simp only [e_T_laws_toMate, c_toRing ⟨h_b, h_c⟩, c_toItemS h_d, c_toIntS h_e, c_toStringS h_f, c_toToken ⟨h_k, h_l, h_m, h_o, h_p, h_q⟩, Option.bind_some]
theorem c_toBundle {x : (ET.pair (.int .i64) (.pair (.int .i64) (.pair (.int .i64) (.sl false (.pair (.int .i64) (.pair (.int .i64) (.pair (.int .i64) .str))))))).den} (h : (ET.pair (.int .i64) (.pair (.int .i64) (.pair (.int .i64) (.sl false (.pair (.int .i64) (.pair (.int .i64) (.pair (.int .i64) .str))))))).small x) : T_laws_toBundle x = some x := by
  obtain ⟨a, b, c, d⟩ := x
  obtain ⟨h_a, h_b, h_c, h_d⟩ := h
  simp only [e_T_laws_toBundle, c_toItemS h_d, Option.bind_some]
theorem c_toBundleS {a : (ET.sl false (.pair (.int .i64) (.pair (.int .i64) (.pair (.int .i64) (.sl false (.pair (.int .i64) (.pair (.int .i64) (.pair (.int .i64) .str)))))))).den} (h : (ET.sl false (.pair (.int .i64) (.pair (.int .i64) (.pair (.int .i64) (.sl false (.pair (.int .i64) (.pair (.int .i64) (.pair (.int .i64) .str)))))))).small a) : T_laws_toBundleS a = some a := by
  have h1 : a.length ≤ 1048576 := h.1
  refine to_sl (L := L_laws_toBundleS_1) (0, 0, 0, []) h1 ?_ (fun n b i y hy hi => ?_) (fun n b => ?_)
  · rw [e_T_laws_toBundleS, if_pos ⟨by omega, rfl, by omega, by omega⟩]; rfl
  · have hlt := (List.getElem?_eq_some_iff.1 hy).1
    rw [e_L_laws_toBundleS_1]
    simp only [show ((i : Int) < (a.length : Int)) by omega, decide_true, cond_true, Int.natCast_nonneg, if_true, Int.toNat_natCast, hy, Option.bind_some, hi, List.getElem?_eq_getElem hi, c_toBundle (h.2 y (List.mem_of_getElem? hy))]
    rw [wrap_ok (by omega) (by omega)]
  · rw [e_L_laws_toBundleS_1]; simp
theorem c_toEvent {x : (ET.pair (.int .i64) (.pair (.pair (.int .i64) (.sl false (.int .i64))) (.pair (.pair (.int .i64) (.pair (.int .i64) (.pair (.int .i64) .str))) (.sl false (.int .i64))))).den} (h : (ET.pair (.int .i64) (.pair (.pair (.int .i64) (.sl false (.int .i64))) (.pair (.pair (.int .i64) (.pair (.int .i64) (.pair (.int .i64) .str))) (.sl false (.int .i64))))).small x) : T_laws_toEvent x = some x := by
  obtain ⟨a, ⟨b, c⟩, ⟨d, e, f, g⟩, h⟩ := x
  obtain ⟨h_a, ⟨h_b, h_c⟩, ⟨h_d, h_e, h_f, h_g⟩, h_h⟩ := h
  simp only [e_T_laws_toEvent, c_toRing ⟨h_b, h_c⟩, c_toItem ⟨h_d, h_e, h_f, h_g⟩, c_toIntS h_h, Option.bind_some]
theorem c_toEventS {a : (ET.sl false (.pair (.int .i64) (.pair (.pair (.int .i64) (.sl false (.int .i64))) (.pair (.pair (.int .i64) (.pair (.int .i64) (.pair (.int .i64) .str))) (.sl false (.int .i64)))))).den} (h : (ET.sl false (.pair (.int .i64) (.pair (.pair (.int .i64) (.sl false (.int .i64))) (.pair (.pair (.int .i64) (.pair (.int .i64) (.pair (.int .i64) .str))) (.sl false (.int .i64)))))).small a) : T_laws_toEventS a = some a := by
  have h1 : a.length ≤ 1048576 := h.1
  refine to_sl (L := L_laws_toEventS_1) (0, (0, []), (0, 0, 0, []), []) h1 ?_ (fun n b i y hy hi => ?_) (fun n b => ?_)
  · rw [e_T_laws_toEventS, if_pos ⟨by omega, rfl, by omega, by omega⟩]; rfl
  · have hlt := (List.getElem?_eq_some_iff.1 hy).1
    rw [e_L_laws_toEventS_1]
    simp only [show ((i : Int) < (a.length : Int)) by omega, decide_true, cond_true, Int.natCast_nonneg, if_true, Int.toNat_natCast, hy, Option.bind_some, hi, List.getElem?_eq_getElem hi, c_toEvent (h.2 y (List.mem_of_getElem? hy))]
    rw [wrap_ok (by omega) (by omega)]
  · rw [e_L_laws_toEventS_1]; simp
theorem c_toDaemon {x : (ET.pair (.int .i64) (.pair .bool (.pair (.pair (.int .i64) (.pair (.pair (.int .i64) (.sl false (.int .i64))) (.pair (.sl false (.pair (.int .i64) (.pair (.int .i64) (.pair (.int .i64) .str)))) (.pair (.sl false (.int .i64)) (.pair (.sl false .str) (.pair (.int .i64) (.pair (.int .i64) (.pair (.int .i64) (.pair (.int .i64) (.pair (.int .i64) (.pair (.int .i64) (.pair (.int .i64) (.pair (.int .i64) (.pair (.int .i64) (.sl false (.int .i64)))))))))))))))) (.pair (.int .i64) (.pair (.int .i64) (.pair (.pair (.int .i64) (.sl false (.int .i64))) (.pair (.sl false (.pair (.int .i64) (.pair (.int .i64) (.pair (.int .i64) (.sl false (.pair (.int .i64) (.pair (.int .i64) (.pair (.int .i64) .str)))))))) (.sl false (.pair (.int .i64) (.pair (.pair (.int .i64) (.sl false (.int .i64))) (.pair (.pair (.int .i64) (.pair (.int .i64) (.pair (.int .i64) .str))) (.sl false (.int .i64))))))))))))).den} (h : (ET.pair (.int .i64) (.pair .bool (.pair (.pair (.int .i64) (.pair (.pair (.int .i64) (.sl false (.int .i64))) (.pair (.sl false (.pair (.int .i64) (.pair (.int .i64) (.pair (.int .i64) .str)))) (.pair (.sl false (.int .i64)) (.pair (.sl false .str) (.pair (.int .i64) (.pair (.int .i64) (.pair (.int .i64) (.pair (.int .i64) (.pair (.int .i64) (.pair (.int .i64) (.pair (.int .i64) (.pair (.int .i64) (.pair (.int .i64) (.sl false (.int .i64)))))))))))))))) (.pair (.int .i64) (.pair (.int .i64) (.pair (.pair (.int .i64) (.sl false (.int .i64))) (.pair (.sl false (.pair (.int .i64) (.pair (.int .i64) (.pair (.int .i64) (.sl false (.pair (.int .i64) (.pair (.int .i64) (.pair (.int .i64) .str)))))))) (.sl false (.pair (.int .i64) (.pair (.pair (.int .i64) (.sl false (.int .i64))) (.pair (.pair (.int .i64) (.pair (.int .i64) (.pair (.int .i64) .str))) (.sl false (.int .i64))))))))))))).small x) : T_laws_toDaemon x = some x := by
  obtain ⟨a, b, ⟨c, ⟨d, e⟩, f, g, h, i, j, k, l, m, o, p, q, r, s⟩, t, u, ⟨v, w⟩, x, y⟩ := x
  obtain ⟨h_a, h_b, ⟨h_c, ⟨h_d, h_e⟩, h_f, h_g, h_h, h_i, h_j, h_k, h_l, h_m, h_o, h_p, h_q, h_r, h_s⟩, h_t, h_u, ⟨h_v, h_w⟩, h_x, h_y⟩ := h
  simp only [e_T_laws_toDaemon, c_toMate ⟨h_c, ⟨h_d, h_e⟩, h_f, h_g, h_h, h_i, h_j, h_k, h_l, h_m, h_o, h_p, h_q, h_r, h_s⟩, c_toRing ⟨h_v, h_w⟩, c_toBundleS h_x, c_toEventS h_y, Option.bind_some]
theorem c_toDaemonS {a : (ET.sl false (.pair (.int .i64) (.pair .bool (.pair (.pair (.int .i64) (.pair (.pair (.int .i64) (.sl false (.int .i64))) (.pair (.sl false (.pair (.int .i64) (.pair (.int .i64) (.pair (.int .i64) .str)))) (.pair (.sl false (.int .i64)) (.pair (.sl false .str) (.pair (.int .i64) (.pair (.int .i64) (.pair (.int .i64) (.pair (.int .i64) (.pair (.int .i64) (.pair (.int .i64) (.pair (.int .i64) (.pair (.int .i64) (.pair (.int .i64) (.sl false (.int .i64)))))))))))))))) (.pair (.int .i64) (.pair (.int .i64) (.pair (.pair (.int .i64) (.sl false (.int .i64))) (.pair (.sl false (.pair (.int .i64) (.pair (.int .i64) (.pair (.int .i64) (.sl false (.pair (.int .i64) (.pair (.int .i64) (.pair (.int .i64) .str)))))))) (.sl false (.pair (.int .i64) (.pair (.pair (.int .i64) (.sl false (.int .i64))) (.pair (.pair (.int .i64) (.pair (.int .i64) (.pair (.int .i64) .str))) (.sl false (.int .i64)))))))))))))).den} (h : (ET.sl false (.pair (.int .i64) (.pair .bool (.pair (.pair (.int .i64) (.pair (.pair (.int .i64) (.sl false (.int .i64))) (.pair (.sl false (.pair (.int .i64) (.pair (.int .i64) (.pair (.int .i64) .str)))) (.pair (.sl false (.int .i64)) (.pair (.sl false .str) (.pair (.int .i64) (.pair (.int .i64) (.pair (.int .i64) (.pair (.int .i64) (.pair (.int .i64) (.pair (.int .i64) (.pair (.int .i64) (.pair (.int .i64) (.pair (.int .i64) (.sl false (.int .i64)))))))))))))))) (.pair (.int .i64) (.pair (.int .i64) (.pair (.pair (.int .i64) (.sl false (.int .i64))) (.pair (.sl false (.pair (.int .i64) (.pair (.int .i64) (.pair (.int .i64) (.sl false (.pair (.int .i64) (.pair (.int .i64) (.pair (.int .i64) .str)))))))) (.sl false (.pair (.int .i64) (.pair (.pair (.int .i64) (.sl false (.int .i64))) (.pair (.pair (.int .i64) (.pair (.int .i64) (.pair (.int .i64) .str))) (.sl false (.int .i64)))))))))))))).small a) : T_laws_toDaemonS a = some a := by
  have h1 : a.length ≤ 1048576 := h.1
  refine to_sl (L := L_laws_toDaemonS_1) (0, false, (0, (0, []), [], [], [], 0, 0, 0, 0, 0, 0, 0, 0, 0, []), 0, 0, (0, []), [], []) h1 ?_ (fun n b i y hy hi => ?_) (fun n b => ?_)
  · rw [e_T_laws_toDaemonS, if_pos ⟨by omega, rfl, by omega, by omega⟩]; rfl
  · have hlt := (List.getElem?_eq_some_iff.1 hy).1
    rw [e_L_laws_toDaemonS_1]
    simp only [show ((i : Int) < (a.length : Int)) by omega, decide_true, cond_true, Int.natCast_nonneg, if_true, Int.toNat_natCast, hy, Option.bind_some, hi, List.getElem?_eq_getElem hi, c_toDaemon (h.2 y (List.mem_of_getElem? hy))]
    rw [wrap_ok (by omega) (by omega)]
  · rw [e_L_laws_toDaemonS_1]; simp
theorem c_toLetter {x : (ET.pair (.int .i64) (.pair (.int .i64) (.pair (.int .i64) (.pair (.pair (.int .i64) (.pair (.int .i64) (.pair (.int .i64) .str))) (.pair (.pair (.int .i64) (.pair (.int .i64) (.pair (.int .i64) (.pair (.int .i64) (.pair (.int .i64) (.sl false (.int .i64))))))) (.pair (.int .i64) (.pair (.int .i64) (.pair (.int .i64) (.sl false (.pair (.int .i64) (.pair (.int .i64) (.pair (.int .i64) .str)))))))))))).den} (h : (ET.pair (.int .i64) (.pair (.int .i64) (.pair (.int .i64) (.pair (.pair (.int .i64) (.pair (.int .i64) (.pair (.int .i64) .str))) (.pair (.pair (.int .i64) (.pair (.int .i64) (.pair (.int .i64) (.pair (.int .i64) (.pair (.int .i64) (.sl false (.int .i64))))))) (.pair (.int .i64) (.pair (.int .i64) (.pair (.int .i64) (.sl false (.pair (.int .i64) (.pair (.int .i64) (.pair (.int .i64) .str)))))))))))).small x) : T_laws_toLetter x = some x := by
  obtain ⟨a, b, c, ⟨d, e, f, g⟩, ⟨h, i, j, k, l, m⟩, o, p, q, r⟩ := x
  obtain ⟨h_a, h_b, h_c, ⟨h_d, h_e, h_f, h_g⟩, ⟨h_h, h_i, h_j, h_k, h_l, h_m⟩, h_o, h_p, h_q, h_r⟩ := h
  simp only [e_T_laws_toLetter, c_toItem ⟨h_d, h_e, h_f, h_g⟩, c_toToken ⟨h_h, h_i, h_j, h_k, h_l, h_m⟩, c_toBundle ⟨h_o, h_p, h_q, h_r⟩, Option.bind_some]
theorem c_toLetterS {a : (ET.sl false (.pair (.int .i64) (.pair (.int .i64) (.pair (.int .i64) (.pair (.pair (.int .i64) (.pair (.int .i64) (.pair (.int .i64) .str))) (.pair (.pair (.int .i64) (.pair (.int .i64) (.pair (.int .i64) (.pair (.int .i64) (.pair (.int .i64) (.sl false (.int .i64))))))) (.pair (.int .i64) (.pair (.int .i64) (.pair (.int .i64) (.sl false (.pair (.int .i64) (.pair (.int .i64) (.pair (.int .i64) .str))))))))))))).den} (h : (ET.sl false (.pair (.int .i64) (.pair (.int .i64) (.pair (.int .i64) (.pair (.pair (.int .i64) (.pair (.int .i64) (.pair (.int .i64) .str))) (.pair (.pair (.int .i64) (.pair (.int .i64) (.pair (.int .i64) (.pair (.int .i64) (.pair (.int .i64) (.sl false (.int .i64))))))) (.pair (.int .i64) (.pair (.int .i64) (.pair (.int .i64) (.sl false (.pair (.int .i64) (.pair (.int .i64) (.pair (.int .i64) .str))))))))))))).small a) : T_laws_toLetterS a = some a := by
  have h1 : a.length ≤ 1048576 := h.1
  refine to_sl (L := L_laws_toLetterS_1) (0, 0, 0, (0, 0, 0, []), (0, 0, 0, 0, 0, []), 0, 0, 0, []) h1 ?_ (fun n b i y hy hi => ?_) (fun n b => ?_)
  · rw [e_T_laws_toLetterS, if_pos ⟨by omega, rfl, by omega, by omega⟩]; rfl
  · have hlt := (List.getElem?_eq_some_iff.1 hy).1
    rw [e_L_laws_toLetterS_1]
    simp only [show ((i : Int) < (a.length : Int)) by omega, decide_true, cond_true, Int.natCast_nonneg, if_true, Int.toNat_natCast, hy, Option.bind_some, hi, List.getElem?_eq_getElem hi, c_toLetter (h.2 y (List.mem_of_getElem? hy))]
    rw [wrap_ok (by omega) (by omega)]
  · rw [e_L_laws_toLetterS_1]; simp
theorem c_toWorld {x : (ET.pair (.sl false (.pair (.int .i64) (.sl false (.int .i64)))) (.pair (.sl false (.pair (.int .i64) (.pair .bool (.pair (.pair (.int .i64) (.pair (.pair (.int .i64) (.sl false (.int .i64))) (.pair (.sl false (.pair (.int .i64) (.pair (.int .i64) (.pair (.int .i64) .str)))) (.pair (.sl false (.int .i64)) (.pair (.sl false .str) (.pair (.int .i64) (.pair (.int .i64) (.pair (.int .i64) (.pair (.int .i64) (.pair (.int .i64) (.pair (.int .i64) (.pair (.int .i64) (.pair (.int .i64) (.pair (.int .i64) (.sl false (.int .i64)))))))))))))))) (.pair (.int .i64) (.pair (.int .i64) (.pair (.pair (.int .i64) (.sl false (.int .i64))) (.pair (.sl false (.pair (.int .i64) (.pair (.int .i64) (.pair (.int .i64) (.sl false (.pair (.int .i64) (.pair (.int .i64) (.pair (.int .i64) .str)))))))) (.sl false (.pair (.int .i64) (.pair (.pair (.int .i64) (.sl false (.int .i64))) (.pair (.pair (.int .i64) (.pair (.int .i64) (.pair (.int .i64) .str))) (.sl false (.int .i64)))))))))))))) (.pair (.sl false (.pair (.int .i64) (.pair (.int .i64) (.pair (.int .i64) (.pair (.pair (.int .i64) (.pair (.int .i64) (.pair (.int .i64) .str))) (.pair (.pair (.int .i64) (.pair (.int .i64) (.pair (.int .i64) (.pair (.int .i64) (.pair (.int .i64) (.sl false (.int .i64))))))) (.pair (.int .i64) (.pair (.int .i64) (.pair (.int .i64) (.sl false (.pair (.int .i64) (.pair (.int .i64) (.pair (.int .i64) .str))))))))))))) (.sl false (.pair (.int .i64) (.pair (.pair (.int .i64) (.sl false (.int .i64))) (.pair (.pair (.int .i64) (.pair (.int .i64) (.pair (.int .i64) .str))) (.sl false (.int .i64))))))))).den} (h : (ET.pair (.sl false (.pair (.int .i64) (.sl false (.int .i64)))) (.pair (.sl false (.pair (.int .i64) (.pair .bool (.pair (.pair (.int .i64) (.pair (.pair (.int .i64) (.sl false (.int .i64))) (.pair (.sl false (.pair (.int .i64) (.pair (.int .i64) (.pair (.int .i64) .str)))) (.pair (.sl false (.int .i64)) (.pair (.sl false .str) (.pair (.int .i64) (.pair (.int .i64) (.pair (.int .i64) (.pair (.int .i64) (.pair (.int .i64) (.pair (.int .i64) (.pair (.int .i64) (.pair (.int .i64) (.pair (.int .i64) (.sl false (.int .i64)))))))))))))))) (.pair (.int .i64) (.pair (.int .i64) (.pair (.pair (.int .i64) (.sl false (.int .i64))) (.pair (.sl false (.pair (.int .i64) (.pair (.int .i64) (.pair (.int .i64) (.sl false (.pair (.int .i64) (.pair (.int .i64) (.pair (.int .i64) .str)))))))) (.sl false (.pair (.int .i64) (.pair (.pair (.int .i64) (.sl false (.int .i64))) (.pair (.pair (.int .i64) (.pair (.int .i64) (.pair (.int .i64) .str))) (.sl false (.int .i64)))))))))))))) (.pair (.sl false (.pair (.int .i64) (.pair (.int .i64) (.pair (.int .i64) (.pair (.pair (.int .i64) (.pair (.int .i64) (.pair (.int .i64) .str))) (.pair (.pair (.int .i64) (.pair (.int .i64) (.pair (.int .i64) (.pair (.int .i64) (.pair (.int .i64) (.sl false (.int .i64))))))) (.pair (.int .i64) (.pair (.int .i64) (.pair (.int .i64) (.sl false (.pair (.int .i64) (.pair (.int .i64) (.pair (.int .i64) .str))))))))))))) (.sl false (.pair (.int .i64) (.pair (.pair (.int .i64) (.sl false (.int .i64))) (.pair (.pair (.int .i64) (.pair (.int .i64) (.pair (.int .i64) .str))) (.sl false (.int .i64))))))))).small x) : T_laws_toWorld x = some x := by
  obtain ⟨a, b, c, d⟩ := x
  obtain ⟨h_a, h_b, h_c, h_d⟩ := h
  simp only [e_T_laws_toWorld, c_toRingS h_a, c_toDaemonS h_b, c_toLetterS h_c, c_toEventS h_d, Option.bind_some]
theorem q_eqIntS {a : (ET.sl false (.int .i64)).den} (h : (ET.sl false (.int .i64)).small a) : T_laws_eqIntS (a, a) = some true := by
  have h1 : a.length ≤ 1048576 := h.1
  rw [e_T_laws_eqIntS, eq_sl (L := L_laws_eqIntS_1) (Nat.le_trans h1 (by decide)) (fun n i y hy => ?_) (fun n => ?_)]
  · simp
  · have hlt := (List.getElem?_eq_some_iff.1 hy).1
    rw [e_L_laws_eqIntS_1]
    simp only [show ((i : Int) < (a.length : Int)) by omega, decide_true, cond_true, Int.natCast_nonneg, if_true, Int.toNat_natCast, hy, Option.bind_some, beq_self_eq_true, Bool.not_true, cond_false]
    rw [wrap_ok (by omega) (by omega)]
  · rw [e_L_laws_eqIntS_1]; simp
theorem q_eqRing {x : (ET.pair (.int .i64) (.sl false (.int .i64))).den} (h : (ET.pair (.int .i64) (.sl false (.int .i64))).small x) : T_laws_eqRing (x, x) = some true := by
  obtain ⟨a, b⟩ := x
  obtain ⟨h_a, h_b⟩ := h
  simp only [e_T_laws_eqRing, q_eqIntS h_b, Option.bind_some, beq_self_eq_true, Bool.not_true, cond_false]
theorem q_eqRingS {a : (ET.sl false (.pair (.int .i64) (.sl false (.int .i64)))).den} (h : (ET.sl false (.pair (.int .i64) (.sl false (.int .i64)))).small a) : T_laws_eqRingS (a, a) = some true := by
  have h1 : a.length ≤ 1048576 := h.1
  rw [e_T_laws_eqRingS, eq_sl (L := L_laws_eqRingS_1) (Nat.le_trans h1 (by decide)) (fun n i y hy => ?_) (fun n => ?_)]
  · simp
  · have hlt := (List.getElem?_eq_some_iff.1 hy).1
    rw [e_L_laws_eqRingS_1]
    simp only [show ((i : Int) < (a.length : Int)) by omega, decide_true, cond_true, Int.natCast_nonneg, if_true, Int.toNat_natCast, hy, Option.bind_some, beq_self_eq_true, Bool.not_true, cond_false, q_eqRing (h.2 y (List.mem_of_getElem? hy))]
    rw [wrap_ok (by omega) (by omega)]
  · rw [e_L_laws_eqRingS_1]; simp
theorem q_eqItem {x : (ET.pair (.int .i64) (.pair (.int .i64) (.pair (.int .i64) .str))).den} (h : (ET.pair (.int .i64) (.pair (.int .i64) (.pair (.int .i64) .str))).small x) : T_laws_eqItem (x, x) = some true := by
  obtain ⟨a, b, c, d⟩ := x
  obtain ⟨h_a, h_b, h_c, h_d⟩ := h
  simp only [e_T_laws_eqItem, Option.bind_some, beq_self_eq_true, Bool.not_true, cond_false]
theorem q_eqItemS {a : (ET.sl false (.pair (.int .i64) (.pair (.int .i64) (.pair (.int .i64) .str)))).den} (h : (ET.sl false (.pair (.int .i64) (.pair (.int .i64) (.pair (.int .i64) .str)))).small a) : T_laws_eqItemS (a, a) = some true := by
  have h1 : a.length ≤ 1048576 := h.1
  rw [e_T_laws_eqItemS, eq_sl (L := L_laws_eqItemS_1) (Nat.le_trans h1 (by decide)) (fun n i y hy => ?_) (fun n => ?_)]
  · simp
  · have hlt := (List.getElem?_eq_some_iff.1 hy).1
    rw [e_L_laws_eqItemS_1]
    simp only [show ((i : Int) < (a.length : Int)) by omega, decide_true, cond_true, Int.natCast_nonneg, if_true, Int.toNat_natCast, hy, Option.bind_some, beq_self_eq_true, Bool.not_true, cond_false, q_eqItem (h.2 y (List.mem_of_getElem? hy))]
    rw [wrap_ok (by omega) (by omega)]
  · rw [e_L_laws_eqItemS_1]; simp
theorem q_eqStringS {a : (ET.sl false (.str)).den} (h : (ET.sl false (.str)).small a) : T_laws_eqStringS (a, a) = some true := by
  have h1 : a.length ≤ 1048576 := h.1
  rw [e_T_laws_eqStringS, eq_sl (L := L_laws_eqStringS_1) (Nat.le_trans h1 (by decide)) (fun n i y hy => ?_) (fun n => ?_)]
  · simp
  · have hlt := (List.getElem?_eq_some_iff.1 hy).1
    rw [e_L_laws_eqStringS_1]
    simp only [show ((i : Int) < (a.length : Int)) by omega, decide_true, cond_true, Int.natCast_nonneg, if_true, Int.toNat_natCast, hy, Option.bind_some, beq_self_eq_true, Bool.not_true, cond_false]
    rw [wrap_ok (by omega) (by omega)]
  · rw [e_L_laws_eqStringS_1]; simp
theorem q_eqToken {x : (ET.pair (.int .i64) (.pair (.int .i64) (.pair (.int .i64) (.pair (.int .i64) (.pair (.int .i64) (.sl false (.int .i64))))))).den} (h : (ET.pair (.int .i64) (.pair (.int .i64) (.pair (.int .i64) (.pair (.int .i64) (.pair (.int .i64) (.sl false (.int .i64))))))).small x) : T_laws_eqToken (x, x) = some true := by
  obtain ⟨a, b, c, d, e, f⟩ := x
  obtain ⟨h_a, h_b, h_c, h_d, h_e, h_f⟩ := h
  simp only [e_T_laws_eqToken, q_eqIntS h_f, Option.bind_some, beq_self_eq_true, Bool.not_true, cond_false]
theorem q_eqMate {x : (ET.pair (.int .i64) (.pair (.pair (.int .i64) (.sl false (.int .i64))) (.pair (.sl false (.pair (.int .i64) (.pair (.int .i64) (.pair (.int .i64) .str)))) (.pair (.sl false (.int .i64)) (.pair (.sl false .str) (.pair (.int .i64) (.pair (.int .i64) (.pair (.int .i64) (.pair (.int .i64) (.pair (.int .i64) (.pair (.int .i64) (.pair (.int .i64) (.pair (.int .i64) (.pair (.int .i64) (.sl false (.int .i64)))))))))))))))).den} (h : (ET.pair (.int .i64) (.pair (.pair (.int .i64) (.sl false (.int .i64))) (.pair (.sl false (.pair (.int .i64) (.pair (.int .i64) (.pair (.int .i64) .str)))) (.pair (.sl false (.int .i64)) (.pair (.sl false .str) (.pair (.int .i64) (.pair (.int .i64) (.pair (.int .i64) (.pair (.int .i64) (.pair (.int .i64) (.pair (.int .i64) (.pair (.int .i64) (.pair (.int .i64) (.pair (.int .i64) (.sl false (.int .i64)))))))))))))))).small x) : T_laws_eqMate (x, x) = some true := by
  obtain ⟨a, ⟨b, c⟩, d, e, f, g, h, i, j, k, l, m, o, p, q⟩ := x
  obtain ⟨h_a, ⟨h_b, h_c⟩, h_d, h_e, h_f, h_g, h_h, h_i, h_j, h_k, h_l, h_m, h_o, h_p, h_q⟩ := h
  simp only [e_T_laws_eqMate, q_eqRing ⟨h_b, h_c⟩, q_eqItemS h_d, q_eqIntS h_e, q_eqStringS h_f, q_eqToken ⟨h_k, h_l, h_m, h_o, h_p, h_q⟩, Option.bind_some, beq_self_eq_true, Bool.not_true, cond_false]
theorem q_eqBundle {x : (ET.pair (.int .i64) (.pair (.int .i64) (.pair (.int .i64) (.sl false (.pair (.int .i64) (.pair (.int .i64) (.pair (.int .i64) .str))))))).den} (h : (ET.pair (.int .i64) (.pair (.int .i64) (.pair (.int .i64) (.sl false (.pair (.int .i64) (.pair (.int .i64) (.pair (.int .i64) .str))))))).small x) : T_laws_eqBundle (x, x) = some true := by
  obtain ⟨a, b, c, d⟩ := x
  obtain ⟨h_a, h_b, h_c, h_d⟩ := h
  simp only [e_T_laws_eqBundle, q_eqItemS h_d, Option.bind_some, beq_self_eq_true, Bool.not_true, cond_false]
theorem q_eqBundleS {a : (ET.sl false (.pair (.int .i64) (.pair (.int .i64) (.pair (.int .i64) (.sl false (.pair (.int .i64) (.pair (.int .i64) (.pair (.int .i64) .str)))))))).den} (h : (ET.sl false (.pair (.int .i64) (.pair (.int .i64) (.pair (.int .i64) (.sl false (.pair (.int .i64) (.pair (.int .i64) (.pair (.int .i64) .str)))))))).small a) : T_laws_eqBundleS (a, a) = some true := by
  have h1 : a.length ≤ 1048576 := h.1
  rw [e_T_laws_eqBundleS, eq_sl (L := L_laws_eqBundleS_1) (Nat.le_trans h1 (by decide)) (fun n i y hy => ?_) (fun n => ?_)]
  · simp
  · have hlt := (List.getElem?_eq_some_iff.1 hy).1
    rw [e_L_laws_eqBundleS_1]
    simp only [show ((i : Int) < (a.length : Int)) by omega, decide_true, cond_true, Int.natCast_nonneg, if_true, Int.toNat_natCast, hy, Option.bind_some, beq_self_eq_true, Bool.not_true, cond_false, q_eqBundle (h.2 y (List.mem_of_getElem? hy))]
    rw [wrap_ok (by omega) (by omega)]
  · rw [e_L_laws_eqBundleS_1]; simp
theorem q_eqEvent {x : (ET.pair (.int .i64) (.pair (.pair (.int .i64) (.sl false (.int .i64))) (.pair (.pair (.int .i64) (.pair (.int .i64) (.pair (.int .i64) .str))) (.sl false (.int .i64))))).den} (h : (ET.pair (.int .i64) (.pair (.pair (.int .i64) (.sl false (.int .i64))) (.pair (.pair (.int .i64) (.pair (.int .i64) (.pair (.int .i64) .str))) (.sl false (.int .i64))))).small x) : T_laws_eqEvent (x, x) = some true := by
  obtain ⟨a, ⟨b, c⟩, ⟨d, e, f, g⟩, h⟩ := x
  obtain ⟨h_a, ⟨h_b, h_c⟩, ⟨h_d, h_e, h_f, h_g⟩, h_h⟩ := h
  simp only [e_T_laws_eqEvent, q_eqRing ⟨h_b, h_c⟩, q_eqItem ⟨h_d, h_e, h_f, h_g⟩, q_eqIntS h_h, Option.bind_some, beq_self_eq_true, Bool.not_true, cond_false]
theorem q_eqEventS {a : (ET.sl false (.pair (.int .i64) (.pair (.pair (.int .i64) (.sl false (.int .i64))) (.pair (.pair (.int .i64) (.pair (.int .i64) (.pair (.int .i64) .str))) (.sl false (.int .i64)))))).den} (h : (ET.sl false (.pair (.int .i64) (.pair (.pair (.int .i64) (.sl false (.int .i64))) (.pair (.pair (.int .i64) (.pair (.int .i64) (.pair (.int .i64) .str))) (.sl false (.int .i64)))))).small a) : T_laws_eqEventS (a, a) = some true := by
  have h1 : a.length ≤ 1048576 := h.1
  rw [e_T_laws_eqEventS, eq_sl (L := L_laws_eqEventS_1) (Nat.le_trans h1 (by decide)) (fun n i y hy => ?_) (fun n => ?_)]
  · simp
  · have hlt := (List.getElem?_eq_some_iff.1 hy).1
    rw [e_L_laws_eqEventS_1]
    simp only [show ((i : Int) < (a.length : Int)) by omega, decide_true, cond_true, Int.natCast_nonneg, if_true, Int.toNat_natCast, hy, Option.bind_some, beq_self_eq_true, Bool.not_true, cond_false, q_eqEvent (h.2 y (List.mem_of_getElem? hy))]
    rw [wrap_ok (by omega) (by omega)]
  · rw [e_L_laws_eqEventS_1]; simp
theorem q_eqDaemon {x : (ET.pair (.int .i64) (.pair .bool (.pair (.pair (.int .i64) (.pair (.pair (.int .i64) (.sl false (.int .i64))) (.pair (.sl false (.pair (.int .i64) (.pair (.int .i64) (.pair (.int .i64) .str)))) (.pair (.sl false (.int .i64)) (.pair (.sl false .str) (.pair (.int .i64) (.pair (.int .i64) (.pair (.int .i64) (.pair (.int .i64) (.pair (.int .i64) (.pair (.int .i64) (.pair (.int .i64) (.pair (.int .i64) (.pair (.int .i64) (.sl false (.int .i64)))))))))))))))) (.pair (.int .i64) (.pair (.int .i64) (.pair (.pair (.int .i64) (.sl false (.int .i64))) (.pair (.sl false (.pair (.int .i64) (.pair (.int .i64) (.pair (.int .i64) (.sl false (.pair (.int .i64) (.pair (.int .i64) (.pair (.int .i64) .str)))))))) (.sl false (.pair (.int .i64) (.pair (.pair (.int .i64) (.sl false (.int .i64))) (.pair (.pair (.int .i64) (.pair (.int .i64) (.pair (.int .i64) .str))) (.sl false (.int .i64))))))))))))).den} (h : (ET.pair (.int .i64) (.pair .bool (.pair (.pair (.int .i64) (.pair (.pair (.int .i64) (.sl false (.int .i64))) (.pair (.sl false (.pair (.int .i64) (.pair (.int .i64) (.pair (.int .i64) .str)))) (.pair (.sl false (.int .i64)) (.pair (.sl false .str) (.pair (.int .i64) (.pair (.int .i64) (.pair (.int .i64) (.pair (.int .i64) (.pair (.int .i64) (.pair (.int .i64) (.pair (.int .i64) (.pair (.int .i64) (.pair (.int .i64) (.sl false (.int .i64)))))))))))))))) (.pair (.int .i64) (.pair (.int .i64) (.pair (.pair (.int .i64) (.sl false (.int .i64))) (.pair (.sl false (.pair (.int .i64) (.pair (.int .i64) (.pair (.int .i64) (.sl false (.pair (.int .i64) (.pair (.int .i64) (.pair (.int .i64) .str)))))))) (.sl false (.pair (.int .i64) (.pair (.pair (.int .i64) (.sl false (.int .i64))) (.pair (.pair (.int .i64) (.pair (.int .i64) (.pair (.int .i64) .str))) (.sl false (.int .i64))))))))))))).small x) : T_laws_eqDaemon (x, x) = some true := by
  obtain ⟨a, b, ⟨c, ⟨d, e⟩, f, g, h, i, j, k, l, m, o, p, q, r, s⟩, t, u, ⟨v, w⟩, x, y⟩ := x
  obtain ⟨h_a, h_b, ⟨h_c, ⟨h_d, h_e⟩, h_f, h_g, h_h, h_i, h_j, h_k, h_l, h_m, h_o, h_p, h_q, h_r, h_s⟩, h_t, h_u, ⟨h_v, h_w⟩, h_x, h_y⟩ := h
  simp only [e_T_laws_eqDaemon, q_eqMate ⟨h_c, ⟨h_d, h_e⟩, h_f, h_g, h_h, h_i, h_j, h_k, h_l, h_m, h_o, h_p, h_q, h_r, h_s⟩, q_eqRing ⟨h_v, h_w⟩, q_eqBundleS h_x, q_eqEventS h_y, Option.bind_some, beq_self_eq_true, Bool.not_true, cond_false]
theorem q_eqDaemonS {a : (ET.sl false (.pair (.int .i64) (.pair .bool (.pair (.pair (.int .i64) (.pair (.pair (.int .i64) (.sl false (.int .i64))) (.pair (.sl false (.pair (.int .i64) (.pair (.int .i64) (.pair (.int .i64) .str)))) (.pair (.sl false (.int .i64)) (.pair (.sl false .str) (.pair (.int .i64) (.pair (.int .i64) (.pair (.int .i64) (.pair (.int .i64) (.pair (.int .i64) (.pair (.int .i64) (.pair (.int .i64) (.pair (.int .i64) (.pair (.int .i64) (.sl false (.int .i64)))))))))))))))) (.pair (.int .i64) (.pair (.int .i64) (.pair (.pair (.int .i64) (.sl false (.int .i64))) (.pair (.sl false (.pair (.int .i64) (.pair (.int .i64) (.pair (.int .i64) (.sl false (.pair (.int .i64) (.pair (.int .i64) (.pair (.int .i64) .str)))))))) (.sl false (.pair (.int .i64) (.pair (.pair (.int .i64) (.sl false (.int .i64))) (.pair (.pair (.int .i64) (.pair (.int .i64) (.pair (.int .i64) .str))) (.sl false (.int .i64)))))))))))))).den} (h : (ET.sl false (.pair (.int .i64) (.pair .bool (.pair (.pair (.int .i64) (.pair (.pair (.int .i64) (.sl false (.int .i64))) (.pair (.sl false (.pair (.int .i64) (.pair (.int .i64) (.pair (.int .i64) .str)))) (.pair (.sl false (.int .i64)) (.pair (.sl false .str) (.pair (.int .i64) (.pair (.int .i64) (.pair (.int .i64) (.pair (.int .i64) (.pair (.int .i64) (.pair (.int .i64) (.pair (.int .i64) (.pair (.int .i64) (.pair (.int .i64) (.sl false (.int .i64)))))))))))))))) (.pair (.int .i64) (.pair (.int .i64) (.pair (.pair (.int .i64) (.sl false (.int .i64))) (.pair (.sl false (.pair (.int .i64) (.pair (.int .i64) (.pair (.int .i64) (.sl false (.pair (.int .i64) (.pair (.int .i64) (.pair (.int .i64) .str)))))))) (.sl false (.pair (.int .i64) (.pair (.pair (.int .i64) (.sl false (.int .i64))) (.pair (.pair (.int .i64) (.pair (.int .i64) (.pair (.int .i64) .str))) (.sl false (.int .i64)))))))))))))).small a) : T_laws_eqDaemonS (a, a) = some true := by
  have h1 : a.length ≤ 1048576 := h.1
  rw [e_T_laws_eqDaemonS, eq_sl (L := L_laws_eqDaemonS_1) (Nat.le_trans h1 (by decide)) (fun n i y hy => ?_) (fun n => ?_)]
  · simp
  · have hlt := (List.getElem?_eq_some_iff.1 hy).1
    rw [e_L_laws_eqDaemonS_1]
    simp only [show ((i : Int) < (a.length : Int)) by omega, decide_true, cond_true, Int.natCast_nonneg, if_true, Int.toNat_natCast, hy, Option.bind_some, beq_self_eq_true, Bool.not_true, cond_false, q_eqDaemon (h.2 y (List.mem_of_getElem? hy))]
    rw [wrap_ok (by omega) (by omega)]
  · rw [e_L_laws_eqDaemonS_1]; simp
theorem q_eqLetter {x : (ET.pair (.int .i64) (.pair (.int .i64) (.pair (.int .i64) (.pair (.pair (.int .i64) (.pair (.int .i64) (.pair (.int .i64) .str))) (.pair (.pair (.int .i64) (.pair (.int .i64) (.pair (.int .i64) (.pair (.int .i64) (.pair (.int .i64) (.sl false (.int .i64))))))) (.pair (.int .i64) (.pair (.int .i64) (.pair (.int .i64) (.sl false (.pair (.int .i64) (.pair (.int .i64) (.pair (.int .i64) .str)))))))))))).den} (h : (ET.pair (.int .i64) (.pair (.int .i64) (.pair (.int .i64) (.pair (.pair (.int .i64) (.pair (.int .i64) (.pair (.int .i64) .str))) (.pair (.pair (.int .i64) (.pair (.int .i64) (.pair (.int .i64) (.pair (.int .i64) (.pair (.int .i64) (.sl false (.int .i64))))))) (.pair (.int .i64) (.pair (.int .i64) (.pair (.int .i64) (.sl false (.pair (.int .i64) (.pair (.int .i64) (.pair (.int .i64) .str)))))))))))).small x) : T_laws_eqLetter (x, x) = some true := by
  obtain ⟨a, b, c, ⟨d, e, f, g⟩, ⟨h, i, j, k, l, m⟩, o, p, q, r⟩ := x
  obtain ⟨h_a, h_b, h_c, ⟨h_d, h_e, h_f, h_g⟩, ⟨h_h, h_i, h_j, h_k, h_l, h_m⟩, h_o, h_p, h_q, h_r⟩ := h
  simp only [e_T_laws_eqLetter, q_eqItem ⟨h_d, h_e, h_f, h_g⟩, q_eqToken ⟨h_h, h_i, h_j, h_k, h_l, h_m⟩, q_eqBundle ⟨h_o, h_p, h_q, h_r⟩, Option.bind_some, beq_self_eq_true, Bool.not_true, cond_false]
theorem q_eqLetterS {a : (ET.sl false (.pair (.int .i64) (.pair (.int .i64) (.pair (.int .i64) (.pair (.pair (.int .i64) (.pair (.int .i64) (.pair (.int .i64) .str))) (.pair (.pair (.int .i64) (.pair (.int .i64) (.pair (.int .i64) (.pair (.int .i64) (.pair (.int .i64) (.sl false (.int .i64))))))) (.pair (.int .i64) (.pair (.int .i64) (.pair (.int .i64) (.sl false (.pair (.int .i64) (.pair (.int .i64) (.pair (.int .i64) .str))))))))))))).den} (h : (ET.sl false (.pair (.int .i64) (.pair (.int .i64) (.pair (.int .i64) (.pair (.pair (.int .i64) (.pair (.int .i64) (.pair (.int .i64) .str))) (.pair (.pair (.int .i64) (.pair (.int .i64) (.pair (.int .i64) (.pair (.int .i64) (.pair (.int .i64) (.sl false (.int .i64))))))) (.pair (.int .i64) (.pair (.int .i64) (.pair (.int .i64) (.sl false (.pair (.int .i64) (.pair (.int .i64) (.pair (.int .i64) .str))))))))))))).small a) : T_laws_eqLetterS (a, a) = some true := by
  have h1 : a.length ≤ 1048576 := h.1
  rw [e_T_laws_eqLetterS, eq_sl (L := L_laws_eqLetterS_1) (Nat.le_trans h1 (by decide)) (fun n i y hy => ?_) (fun n => ?_)]
  · simp
  · have hlt := (List.getElem?_eq_some_iff.1 hy).1
    rw [e_L_laws_eqLetterS_1]
    simp only [show ((i : Int) < (a.length : Int)) by omega, decide_true, cond_true, Int.natCast_nonneg, if_true, Int.toNat_natCast, hy, Option.bind_some, beq_self_eq_true, Bool.not_true, cond_false, q_eqLetter (h.2 y (List.mem_of_getElem? hy))]
    rw [wrap_ok (by omega) (by omega)]
  · rw [e_L_laws_eqLetterS_1]; simp
theorem q_eqWorld {x : (ET.pair (.sl false (.pair (.int .i64) (.sl false (.int .i64)))) (.pair (.sl false (.pair (.int .i64) (.pair .bool (.pair (.pair (.int .i64) (.pair (.pair (.int .i64) (.sl false (.int .i64))) (.pair (.sl false (.pair (.int .i64) (.pair (.int .i64) (.pair (.int .i64) .str)))) (.pair (.sl false (.int .i64)) (.pair (.sl false .str) (.pair (.int .i64) (.pair (.int .i64) (.pair (.int .i64) (.pair (.int .i64) (.pair (.int .i64) (.pair (.int .i64) (.pair (.int .i64) (.pair (.int .i64) (.pair (.int .i64) (.sl false (.int .i64)))))))))))))))) (.pair (.int .i64) (.pair (.int .i64) (.pair (.pair (.int .i64) (.sl false (.int .i64))) (.pair (.sl false (.pair (.int .i64) (.pair (.int .i64) (.pair (.int .i64) (.sl false (.pair (.int .i64) (.pair (.int .i64) (.pair (.int .i64) .str)))))))) (.sl false (.pair (.int .i64) (.pair (.pair (.int .i64) (.sl false (.int .i64))) (.pair (.pair (.int .i64) (.pair (.int .i64) (.pair (.int .i64) .str))) (.sl false (.int .i64)))))))))))))) (.pair (.sl false (.pair (.int .i64) (.pair (.int .i64) (.pair (.int .i64) (.pair (.pair (.int .i64) (.pair (.int .i64) (.pair (.int .i64) .str))) (.pair (.pair (.int .i64) (.pair (.int .i64) (.pair (.int .i64) (.pair (.int .i64) (.pair (.int .i64) (.sl false (.int .i64))))))) (.pair (.int .i64) (.pair (.int .i64) (.pair (.int .i64) (.sl false (.pair (.int .i64) (.pair (.int .i64) (.pair (.int .i64) .str))))))))))))) (.sl false (.pair (.int .i64) (.pair (.pair (.int .i64) (.sl false (.int .i64))) (.pair (.pair (.int .i64) (.pair (.int .i64) (.pair (.int .i64) .str))) (.sl false (.int .i64))))))))).den} (h : (ET.pair (.sl false (.pair (.int .i64) (.sl false (.int .i64)))) (.pair (.sl false (.pair (.int .i64) (.pair .bool (.pair (.pair (.int .i64) (.pair (.pair (.int .i64) (.sl false (.int .i64))) (.pair (.sl false (.pair (.int .i64) (.pair (.int .i64) (.pair (.int .i64) .str)))) (.pair (.sl false (.int .i64)) (.pair (.sl false .str) (.pair (.int .i64) (.pair (.int .i64) (.pair (.int .i64) (.pair (.int .i64) (.pair (.int .i64) (.pair (.int .i64) (.pair (.int .i64) (.pair (.int .i64) (.pair (.int .i64) (.sl false (.int .i64)))))))))))))))) (.pair (.int .i64) (.pair (.int .i64) (.pair (.pair (.int .i64) (.sl false (.int .i64))) (.pair (.sl false (.pair (.int .i64) (.pair (.int .i64) (.pair (.int .i64) (.sl false (.pair (.int .i64) (.pair (.int .i64) (.pair (.int .i64) .str)))))))) (.sl false (.pair (.int .i64) (.pair (.pair (.int .i64) (.sl false (.int .i64))) (.pair (.pair (.int .i64) (.pair (.int .i64) (.pair (.int .i64) .str))) (.sl false (.int .i64)))))))))))))) (.pair (.sl false (.pair (.int .i64) (.pair (.int .i64) (.pair (.int .i64) (.pair (.pair (.int .i64) (.pair (.int .i64) (.pair (.int .i64) .str))) (.pair (.pair (.int .i64) (.pair (.int .i64) (.pair (.int .i64) (.pair (.int .i64) (.pair (.int .i64) (.sl false (.int .i64))))))) (.pair (.int .i64) (.pair (.int .i64) (.pair (.int .i64) (.sl false (.pair (.int .i64) (.pair (.int .i64) (.pair (.int .i64) .str))))))))))))) (.sl false (.pair (.int .i64) (.pair (.pair (.int .i64) (.sl false (.int .i64))) (.pair (.pair (.int .i64) (.pair (.int .i64) (.pair (.int .i64) .str))) (.sl false (.int .i64))))))))).small x) : T_laws_eqWorld (x, x) = some true := by
  obtain ⟨a, b, c, d⟩ := x
  obtain ⟨h_a, h_b, h_c, h_d⟩ := h
  simp only [e_T_laws_eqWorld, q_eqRingS h_a, q_eqDaemonS h_b, q_eqLetterS h_c, q_eqEventS h_d, Option.bind_some, beq_self_eq_true, Bool.not_true, cond_false]
theorem small_len {s : List UInt8} (h : ET.str.small s) : s.length ≤ maxLen := Nat.le_trans h (by decide)
theorem smallL_len {e : ET} {o : Bool} {s : List e.den} (h : (ET.sl o e).small s) : s.length ≤ maxLen := Nat.le_trans h.1 (by decide)
abbrev EventT := Int × (Int × List Int) × (Int × Int × Int × List UInt8) × List Int
abbrev DaemonT := Int × Bool × (Int × (Int × List Int) × List (Int × Int × Int × List UInt8) × List Int × List (List UInt8) × Int × Int × Int × Int × Int × Int × Int × Int × Int × List Int) × Int × Int × (Int × List Int) × List (Int × Int × Int × List (Int × Int × Int × List UInt8)) × List EventT
abbrev LetterT := Int × Int × Int × (Int × Int × Int × List UInt8) × (Int × Int × Int × Int × Int × List Int) × Int × Int × Int × List (Int × Int × Int × List UInt8)
def isPart (h : Int) (y : EventT) : Bool := y.1 == 2 && y.2.1.1 == h
def ptI (l : List EventT) (h : Int) : Int := match l.findIdx? (isPart h) with | some i => (i : Int) | none => -1
theorem pt_spec {l : List EventT} (hl : l.length ≤ 1048576) (h : Int) : T_spec_l16PartAt (l, h) = some (ptI l h) := by
  have h1 := runL_loop (L := L_spec_l16PartAt_1) l (fun (_ : Unit) c => (l, h, c)) (fun _ => ()) (fun i y (_ : Unit) => bif isPart h y then .inr (i : Int) else .inl ()) (fun n s i y hy hi => by
    rw [e_L_spec_l16PartAt_1]
    have hw : IntKind.i64.wrap ((i : Int) + 1) = (i : Int) + 1 := wrap_ok (by omega) (by omega)
    simp only [show ((i : Int) < (l.length : Int)) by omega, decide_true, cond_true, Int.natCast_nonneg, if_true, Int.toNat_natCast, hy, Option.bind_some, isPart]
    cases y.1 == 2 <;> cases y.2.1.1 == h <;> simp only [cond_true, cond_false, Option.bind_some, Sum.elim_inl, Sum.elim_inr, Bool.true_and, Bool.false_and, hw]) (fun n s => by rw [e_L_spec_l16PartAt_1]; simp) (by rw [maxLen_eq]; omega) ()
  rw [e_T_spec_l16PartAt, h1, runL_idx]
  unfold ptI
  cases l.findIdx? (isPart h) with
  | none => rfl
  | some i => simp
theorem pt_impl {l : List EventT} (hl : l.length ≤ 1048576) (h : Int) : T_impl_partOf (l, h) = some (ptI l h) := by
  have h1 := runL_loop (L := L_slices_IndexFunc___impl_Event_impl_Event___impl_partOf_1_1) l (fun (_ : Unit) c => (l, h, (l.length : Int), c)) (fun _ => ()) (fun i y (_ : Unit) => bif isPart h y then .inr (i : Int) else .inl ()) (fun n s i y hy hi => by
    rw [e_L_slices_IndexFunc___impl_Event_impl_Event___impl_partOf_1_1]
    have hw : IntKind.i64.wrap ((i : Int) + 1) = (i : Int) + 1 := wrap_ok (by omega) (by omega)
    simp only [show ((i : Int) < (l.length : Int)) by omega, decide_true, cond_true, Int.natCast_nonneg, if_true, Int.toNat_natCast, hy, Option.bind_some, isPart, e_T_impl_partOf_1]
    cases y.1 == 2 <;> cases y.2.1.1 == h <;> simp only [cond_true, cond_false, Option.bind_some, Sum.elim_inl, Sum.elim_inr, Bool.true_and, Bool.false_and, hw]) (fun n s => by rw [e_L_slices_IndexFunc___impl_Event_impl_Event___impl_partOf_1_1]; simp) (by rw [maxLen_eq]; omega) ()
  rw [e_T_impl_partOf, e_T_slices_IndexFunc___impl_Event_impl_Event___impl_partOf_1, h1, runL_idx]
  unfold ptI
  cases l.findIdx? (isPart h) with
  | none => rfl
  | some i => simp
/-- An item of this number is told. -/
def evIt (h : Int) (it : Int × Int × Int × List UInt8) (y : EventT) : Bool := y.1 == 1 && (y.2.1.1 == h && (y.2.2.1.1 == it.1 && (y.2.2.1.2.1 == it.2.1 && (y.2.2.1.2.2.1 == it.2.2.1 && y.2.2.1.2.2.2 == it.2.2.2))))
def noW (y : EventT) : Bool := !(y.1 == 3)
def cut (l : List EventT) (r : Nat) : List EventT := l.take r ++ (l.drop r).takeWhile noW
def cutW (r : Int) : Nat → List EventT → List EventT
  | _, [] => []
  | k, y :: l => bif decide (r < (k : Int)) && y.1 == 3 then [] else y :: cutW r (k + 1) l
def stW (r : Int) (p : EventT → Bool) (i : Nat) (y : EventT) (_ : Unit) : Unit ⊕ Bool := bif decide (r < (i : Int)) && y.1 == 3 then .inr false else bif p y then .inr true else .inl ()
theorem run_cut (r : Int) (p : EventT → Bool) : ∀ (l : List EventT) (k : Nat), Sum.elim (fun _ => false) (fun b => b) (runL (stW r p) k l ()) = (cutW r k l).any p
  | [], _ => rfl
  | y :: l, k => by
    simp only [runL, cutW, stW]
    cases decide (r < (k : Int)) && y.1 == 3 with
    | true => rfl
    | false =>
      simp only [cond_false, List.any_cons]
      cases p y with
      | true => rfl
      | false => exact run_cut r p l (k + 1)
theorem cutW_eq (r : Nat) : ∀ (l : List EventT) (k : Nat), cutW r k l = l.take (r + 1 - k) ++ (l.drop (r + 1 - k)).takeWhile noW
  | [], _ => by simp [cutW]
  | y :: l, k => by
    rw [cutW, cutW_eq r l (k + 1)]
    by_cases hk : k ≤ r
    · rw [decide_eq_false (by omega), show r + 1 - k = (r + 1 - (k + 1)) + 1 by omega]
      simp
    · rw [decide_eq_true (by omega), show r + 1 - k = 0 by omega, show r + 1 - (k + 1) = 0 by omega]
      simp only [Bool.true_and, List.take_zero, List.drop_zero, List.nil_append, List.takeWhile_cons, noW]
      by_cases h3 : y.1 = 3
      · simp [h3]
      · have h3' : (y.1 == 3) = false := beq_eq_false_iff_ne.2 h3
        simp [h3, h3']
theorem cut_eq {l : List EventT} {r : Nat} {h : Int} (hr : l.findIdx? (isPart h) = some r) : cutW r 0 l = cut l r := by
  obtain ⟨hlt, h1, _⟩ := List.findIdx?_eq_some_iff_getElem.1 hr
  have h2 : noW l[r] = true := by
    simp only [isPart, Bool.and_eq_true, beq_iff_eq] at h1
    simp only [noW, h1.1]; rfl
  have hd : l.drop r = l[r] :: l.drop (r + 1) := List.drop_eq_getElem_cons hlt
  rw [cutW_eq, Nat.sub_zero, cut, hd, List.takeWhile_cons, if_pos h2, take_succ' (List.getElem?_eq_getElem hlt), List.append_assoc, List.singleton_append]
theorem has_spec {l : List EventT} (hl : l.length ≤ 1048576) (r h : Int) (it : Int × Int × Int × List UInt8) : T_spec_l16Has (l, r, h, it) = some ((cutW r 0 l).any (evIt h it)) := by
  obtain ⟨i1, i2, i3, i4⟩ := it
  have h1 := runL_loop (L := L_spec_l16Has_1) l (fun (_ : Unit) c => (l, r, h, (i1, i2, i3, i4), c)) (fun _ => ()) (stW r (evIt h (i1, i2, i3, i4))) (fun n s i y hy hi => by
    rw [e_L_spec_l16Has_1]
    have hw : IntKind.i64.wrap ((i : Int) + 1) = (i : Int) + 1 := wrap_ok (by omega) (by omega)
    simp only [show ((i : Int) < (l.length : Int)) by omega, decide_true, cond_true, Int.natCast_nonneg, if_true, Int.toNat_natCast, hy, Option.bind_some, stW]
    have fin : ((if 0 ≤ (i : Int) then (l[((i : Int)).toNat]?).bind fun y => bif y.1 == 1 then if 0 ≤ (i : Int) then (l[((i : Int)).toNat]?).bind fun y => bif y.2.1.1 == h then if 0 ≤ (i : Int) then (l[((i : Int)).toNat]?).bind fun y => some (y.2.2.1.1 == i1 && (y.2.2.1.2.1 == i2 && (y.2.2.1.2.2.1 == i3 && (y.2.2.1.2.2.2 == i4 && true)))) else none else some false else none else some false else none) : Option Bool) = some (evIt h (i1, i2, i3, i4) y) := by
      simp only [Int.natCast_nonneg, if_true, Int.toNat_natCast, hy, Option.bind_some, evIt, Bool.and_true]
      cases y.1 == 1 <;> cases y.2.1.1 == h <;> rfl
    simp only [Int.natCast_nonneg, if_true, Int.toNat_natCast, hy, Option.bind_some, Bool.and_true] at fin
    cases hd : decide (r < (i : Int)) <;> simp only [cond_true, cond_false, Option.bind_some, Sum.elim_inl, Bool.true_and, Bool.false_and]
    · simp only [Int.natCast_nonneg, if_true, Int.toNat_natCast, hy, Option.bind_some, evIt, Bool.and_true]
      cases y.1 == 1 <;> cases y.2.1.1 == h <;> simp only [cond_true, cond_false, Option.bind_some, Sum.elim_inl, Sum.elim_inr, Bool.true_and, Bool.false_and, hw]
      generalize (y.2.2.1.1 == i1 && (y.2.2.1.2.1 == i2 && (y.2.2.1.2.2.1 == i3 && y.2.2.1.2.2.2 == i4))) = q
      cases q <;> rfl
    · cases y.1 == 3 <;> simp only [cond_true, cond_false, Option.bind_some, Sum.elim_inl, Sum.elim_inr]
      simp only [Int.natCast_nonneg, if_true, Int.toNat_natCast, hy, Option.bind_some, evIt, Bool.and_true]
      cases y.1 == 1 <;> cases y.2.1.1 == h <;> simp only [cond_true, cond_false, Option.bind_some, Sum.elim_inl, Sum.elim_inr, Bool.true_and, Bool.false_and, hw]
      generalize (y.2.2.1.1 == i1 && (y.2.2.1.2.1 == i2 && (y.2.2.1.2.2.1 == i3 && y.2.2.1.2.2.2 == i4))) = q
      cases q <;> rfl) (fun n s => by rw [e_L_spec_l16Has_1]; simp) (by rw [maxLen_eq]; omega) ()
  rw [e_T_spec_l16Has, h1, ← run_cut]
  cases runL (stW r (evIt h (i1, i2, i3, i4))) 0 l () <;> rfl
theorem l_upto {a : List EventT} (ha : a.length ≤ 1048576) : ∀ (m i n : Nat), m < n → i + m = a.length → ∃ q, L_impl_uptoWhole_1 n (a, (i : Int)) = some q ∧ Sum.elim (fun x => x) (fun x => x) q = cut a i
  | 0, i, n, hn, hi => by
    obtain ⟨n, rfl⟩ : ∃ j, n = j + 1 := ⟨n - 1, by omega⟩
    rw [e_L_impl_uptoWhole_1, decide_eq_false (by omega), cond_false]
    exact ⟨_, rfl, by unfold cut; rw [List.drop_eq_nil_of_le (by omega), List.take_of_length_le (by omega)]; simp⟩
  | m + 1, i, n, hn, hi => by
    obtain ⟨n, rfl⟩ : ∃ j, n = j + 1 := ⟨n - 1, by omega⟩
    have hlt : i < a.length := by omega
    have hy : a[i]? = some a[i] := List.getElem?_eq_getElem hlt
    have hd : a.drop i = a[i] :: a.drop (i + 1) := List.drop_eq_getElem_cons hlt
    rw [e_L_impl_uptoWhole_1, decide_eq_true (by omega), cond_true]
    simp only [Int.natCast_nonneg, if_true, Int.toNat_natCast, hy, Option.bind_some, true_and, show ((i : Int) ≤ (a.length : Int)) by omega]
    cases h3 : a[i].1 == 3 with
    | true =>
      rw [cond_true]
      refine ⟨_, rfl, ?_⟩
      unfold cut
      rw [hd, List.takeWhile_cons, if_neg (by simp only [noW, h3]; decide)]
      simp
    | false =>
      obtain ⟨q, h1, h2⟩ := l_upto ha m (i + 1) n (by omega) (by omega)
      rw [cond_false, wrap_ok (by omega) (by omega)]
      refine ⟨q, h1, ?_⟩
      rw [h2]
      unfold cut
      rw [hd, List.takeWhile_cons, if_pos (by simp only [noW, h3]; decide), take_succ' hy, List.append_assoc, List.singleton_append]
theorem v_upto {a : List EventT} (ha : a.length ≤ 1048576) {r : Nat} (hr : r ≤ a.length) : T_impl_uptoWhole (a, (r : Int)) = some (cut a r) := by
  obtain ⟨q, h1, h2⟩ := l_upto ha (a.length - r) r fuel (by simp only [fuel]; omega) (by omega)
  rw [e_T_impl_uptoWhole, h1, ← h2]
  cases q <;> rfl
theorem has_impl {l : List EventT} (hl : l.length ≤ 1048576) {e : EventT} (he : e.1 = 1) : T_impl_hasItem (l, e) = some (l.any (evIt e.2.1.1 e.2.2.1)) := by
  obtain ⟨e1, ⟨e2, e3⟩, ⟨e4, e5, e6, e7⟩, e8⟩ := e
  have he : e1 = 1 := he
  subst he
  have h := runL_loop (L := L_slices_IndexFunc___impl_Event_impl_Event___impl_hasItem_1_1) l (fun (_ : Unit) c => (l, (1, (e2, e3), (e4, e5, e6, e7), e8), (l.length : Int), c)) (fun _ => ()) (fun i y (_ : Unit) => bif evIt e2 (e4, e5, e6, e7) y then .inr (i : Int) else .inl ()) (fun n s i y hy hi => by
    obtain ⟨y1, ⟨y2, y3⟩, ⟨y4, y5, y6, y7⟩, y8⟩ := y
    rw [e_L_slices_IndexFunc___impl_Event_impl_Event___impl_hasItem_1_1]
    have hw : IntKind.i64.wrap ((i : Int) + 1) = (i : Int) + 1 := wrap_ok (by omega) (by omega)
    simp only [show ((i : Int) < (l.length : Int)) by omega, decide_true, cond_true, Int.natCast_nonneg, if_true, Int.toNat_natCast, hy, Option.bind_some, hw, e_T_impl_hasItem_1, e_T_impl_sameItem, evIt, Bool.and_true, show ((1 : Int) == 1) = true from rfl]
    cases y1 == 1 <;> cases y2 == e2 <;> simp only [cond_true, cond_false, Option.bind_some, Bool.true_and, Bool.false_and, Sum.elim_inl]
    generalize (y4 == e4 && (y5 == e5 && (y6 == e6 && y7 == e7))) = q
    cases q <;> rfl) (fun n s => by rw [e_L_slices_IndexFunc___impl_Event_impl_Event___impl_hasItem_1_1]; simp) (by rw [maxLen_eq]; omega) ()
  rw [e_T_impl_hasItem, e_T_slices_ContainsFunc___impl_Event_impl_Event___impl_hasItem_1, e_T_slices_IndexFunc___impl_Event_impl_Event___impl_hasItem_1, h, runL_idx]
  cases hf : l.findIdx? (evIt e2 (e4, e5, e6, e7)) with
  | none =>
    have : l.any (evIt e2 (e4, e5, e6, e7)) = false := by
      rw [List.findIdx?_eq_none_iff] at hf
      rw [List.any_eq_false]
      intro x hx; simpa using hf x hx
    simp only [this]; rfl
  | some i =>
    have : l.any (evIt e2 (e4, e5, e6, e7)) = true := by
      rw [List.any_eq_true]
      obtain ⟨hi, h1, _⟩ := List.findIdx?_eq_some_iff_getElem.1 hf
      exact ⟨_, List.getElem_mem hi, h1⟩
    simp only [this]
    simp
def keptB (l : List EventT) (h : Int) (it : Int × Int × Int × List UInt8) : Bool := match l.findIdx? (isPart h) with | none => true | some r => (cut l r).any (evIt h it)
theorem twl {α : Type} (p : α → Bool) : ∀ l : List α, (l.takeWhile p).length ≤ l.length
  | [] => by simp
  | y :: l => by
    have := twl p l
    rw [List.takeWhile_cons]
    split
    · simp only [List.length_cons]; omega
    · simp
theorem cut_len (l : List EventT) (r : Nat) : (cut l r).length ≤ l.length := by
  unfold cut
  rw [List.length_append, List.length_take]
  have := twl noW (l.drop r)
  rw [List.length_drop] at this
  omega
theorem v_keptBy {l : List EventT} (hl : l.length ≤ 1048576) {e : EventT} (he : e.1 = 1) : T_impl_keptBy (l, e) = some (keptB l e.2.1.1 e.2.2.1) := by
  obtain ⟨e1, ⟨e2, e3⟩, ⟨e4, e5, e6, e7⟩, e8⟩ := e
  rw [e_T_impl_keptBy, pt_impl hl]
  simp only [Option.bind_some]
  unfold keptB ptI
  cases hf : l.findIdx? (isPart e2) with
  | none => simp
  | some r =>
    obtain ⟨hr, _, _⟩ := List.findIdx?_eq_some_iff_getElem.1 hf
    simp only
    rw [decide_eq_false (by omega), cond_false, v_upto hl (by omega)]
    simp only [Option.bind_some]
    rw [show T_impl_hasItem (cut l r, e1, (e2, e3), (e4, e5, e6, e7), e8) = some ((cut l r).any (evIt e2 (e4, e5, e6, e7))) from has_impl (e := (e1, (e2, e3), (e4, e5, e6, e7), e8)) (by have := cut_len l r; omega) he]
    simp only [Option.bind_some]
theorem kept_self {l : List EventT} {j : Nat} {y : EventT} (hy : l[j]? = some y) (h1 : y.1 = 1) (hr : ¬ (0 ≤ ptI l y.2.1.1 ∧ ptI l y.2.1.1 < (j : Int))) : keptB l y.2.1.1 y.2.2.1 = true := by
  unfold keptB
  unfold ptI at hr
  cases hf : l.findIdx? (isPart y.2.1.1) with
  | none => rfl
  | some r =>
    rw [hf] at hr
    obtain ⟨hlt, h2, _⟩ := List.findIdx?_eq_some_iff_getElem.1 hf
    obtain ⟨hj, hyj⟩ := List.getElem?_eq_some_iff.1 hy
    have hne : j ≠ r := fun e => by
      subst e
      rw [hyj] at h2
      simp only [isPart, h1] at h2
      cases h2
    simp only at hr ⊢
    rw [List.any_eq_true]
    refine ⟨y, ?_, ?_⟩
    · unfold cut
      refine List.mem_append_left _ ?_
      have hlen : j < (l.take r).length := by rw [List.length_take]; omega
      have : (l.take r)[j] = y := by rw [List.getElem_take]; exact hyj
      rw [← this]; exact List.getElem_mem hlen
    · simp only [evIt, h1, beq_self_eq_true, Bool.and_self]
/-- Of a telling: whether all keep it. -/
def stM (b : List DaemonT) (log : List EventT) (j : Nat) (y : EventT) (_ : Unit) : Unit ⊕ Bool :=
  bif !(y.1 == 1) then .inl () else bif !(y.2.2.1.2.2.1 == 2) then .inl () else bif decide (0 ≤ ptI log y.2.1.1) && decide (ptI log y.2.1.1 < (j : Int)) then .inl () else bif b.all (fun d => keptB d.2.2.2.2.2.2.2 y.2.1.1 y.2.2.1) then .inl () else .inr false
theorem sk_spec1 {a : List (Int × List Int)} {b : List DaemonT} {c : List LetterT} {d f : List EventT} {e : Int} {g : Nat} {y : EventT} (hg : f[g]? = some y) (hb : b.length ≤ 1048576) (hl : ∀ y ∈ b, List.length y.2.2.2.2.2.2.2 ≤ 1048576) :
    L_spec_SafeKept_1 fuel ((a, b, c, d), e, f, (g : Int), y.2.1.1, 0) = some (bif b.all (fun d => keptB d.2.2.2.2.2.2.2 y.2.1.1 y.2.2.1) then .inl ((a, b, c, d), e, f, (g : Int)) else .inr false) := by
  have h1 := runL_loop (L := L_spec_SafeKept_1) b (fun (_ : Unit) i => ((a, b, c, d), e, f, (g : Int), y.2.1.1, i)) (fun _ => ((a, b, c, d), e, f, (g : Int))) (fun i z (_ : Unit) => bif keptB z.2.2.2.2.2.2.2 y.2.1.1 y.2.2.1 then .inl () else .inr false) (fun n s i z hz hi => by
    have hzl := hl z (List.mem_of_getElem? hz)
    have hw : IntKind.i64.wrap ((i : Int) + 1) = (i : Int) + 1 := wrap_ok (by omega) (by omega)
    rw [e_L_spec_SafeKept_1]
    simp only [show ((i : Int) < (b.length : Int)) by omega, decide_true, cond_true, Int.natCast_nonneg, if_true, Int.toNat_natCast, hz, hg, Option.bind_some, pt_spec hzl]
    unfold keptB ptI
    cases hf : z.2.2.2.2.2.2.2.findIdx? (isPart y.2.1.1) with
    | none => simp only [show ¬ ((0 : Int) ≤ -1) by omega, decide_false, cond_false, cond_true, Option.bind_some, Sum.elim_inl, hw]
    | some r =>
      simp only [Int.natCast_nonneg, decide_true, cond_true]
      rw [show T_spec_l16Has (z.2.2.2.2.2.2.2, (r : Int), y.2.1.1, y.2.2.1.1, y.2.2.1.2.1, y.2.2.1.2.2.1, y.2.2.1.2.2.2) = some ((cut z.2.2.2.2.2.2.2 r).any (evIt y.2.1.1 y.2.2.1)) by rw [← cut_eq hf]; exact has_spec hzl _ _ y.2.2.1]
      simp only [Option.bind_some, Sum.elim_inl, hw]
      cases (cut z.2.2.2.2.2.2.2 r).any (evIt y.2.1.1 y.2.2.1) <;> rfl) (fun n s => by rw [e_L_spec_SafeKept_1]; simp) (by rw [maxLen_eq]; omega) ()
  rw [h1, runL_all]
  cases b.all (fun d => keptB d.2.2.2.2.2.2.2 y.2.1.1 y.2.2.1) <;> rfl
theorem sk_spec2 {a : List (Int × List Int)} {b : List DaemonT} {c : List LetterT} {d f : List EventT} {e : Int} (hf : f.length ≤ 1048576) (hb : b.length ≤ 1048576) (hl : ∀ y ∈ b, List.length y.2.2.2.2.2.2.2 ≤ 1048576) :
    L_spec_SafeKept_2 fuel ((a, b, c, d), e, f, 0) = some (Sum.elim (fun _ => .inl ((a, b, c, d), e)) (fun r => .inr r) (runL (stM b f) 0 f ())) :=
  runL_loop (L := L_spec_SafeKept_2) f (fun (_ : Unit) g => ((a, b, c, d), e, f, g)) (fun _ => ((a, b, c, d), e)) (stM b f) (fun n s i y hy hi => by
    have hw : IntKind.i64.wrap ((i : Int) + 1) = (i : Int) + 1 := wrap_ok (by omega) (by omega)
    rw [e_L_spec_SafeKept_2]
    simp only [show ((i : Int) < (f.length : Int)) by omega, decide_true, cond_true, Int.natCast_nonneg, if_true, Int.toNat_natCast, hy, Option.bind_some, pt_spec hf, stM]
    have h2 := sk_spec1 (a := a) (c := c) (d := d) (e := e) hy hb hl
    cases y.1 == 1 with
    | false => simp only [Bool.not_false, cond_true, Option.bind_some, Sum.elim_inl, hw]
    | true =>
      simp only [Bool.not_true, cond_false]
      cases hlev : y.2.2.1.2.2.1 == 2 with
      | false => simp only [Bool.not_false, cond_true, Option.bind_some, Sum.elim_inl, hw]
      | true =>
        simp only [Bool.not_true, cond_false]
        cases decide (0 ≤ ptI f y.2.1.1) with
        | true =>
          simp only [cond_true, Option.bind_some, Sum.elim_inl, Bool.true_and]
          cases decide (ptI f y.2.1.1 < (i : Int)) with
          | true => simp only [cond_true, Option.bind_some, Sum.elim_inl, hw]
          | false =>
            simp only [cond_false, h2, Option.bind_some]
            cases b.all (fun d => keptB d.2.2.2.2.2.2.2 y.2.1.1 y.2.2.1) <;> simp only [cond_true, cond_false, Option.bind_some, Sum.elim_inl, Sum.elim_inr, hw]
        | false =>
          simp only [cond_false, Option.bind_some, Sum.elim_inl, Bool.false_and, h2]
          cases b.all (fun d => keptB d.2.2.2.2.2.2.2 y.2.1.1 y.2.2.1) <;> simp only [cond_true, cond_false, Option.bind_some, Sum.elim_inl, Sum.elim_inr, hw]) (fun n s => by rw [e_L_spec_SafeKept_2]; simp) (by rw [maxLen_eq]; omega) ()
theorem sk_impl1 {a : List (Int × List Int)} {b : List DaemonT} {c : List LetterT} {d : List EventT} {eN : Nat} {D : DaemonT} {E : EventT} {m1 : List DaemonT} {o1 p1 : Int} {q1 : List EventT} {r1 s1 : Int} (hE : E.1 = 1) (hself : ∀ z, b[eN]? = some z → keptB z.2.2.2.2.2.2.2 E.2.1.1 E.2.2.1 = true) (hb : b.length ≤ 1048576) (hl : ∀ y ∈ b, List.length y.2.2.2.2.2.2.2 ≤ 1048576) :
    L_impl_SafeKept_1 fuel ((a, b, c, d), (eN : Int), D, E, m1, o1, p1, q1, r1, s1, b, (b.length : Int), 0) = some (bif b.all (fun d => keptB d.2.2.2.2.2.2.2 E.2.1.1 E.2.2.1) then .inl ((a, b, c, d), (eN : Int), D, m1, o1, p1, q1, r1, s1) else .inr false) := by
  obtain ⟨f, g, ⟨h, ⟨i, j⟩, k, l, m, o, p, q, r, s, t, u, v, w, x⟩, y, z, ⟨a1, b1⟩, c1, d1⟩ := D
  obtain ⟨e1, ⟨f1, g1⟩, ⟨h1, i1, j1, k1⟩, l1⟩ := E
  have hA := runL_loop (L := L_impl_SafeKept_1) b (fun (_ : Unit) i' => ((a, b, c, d), (eN : Int), (f, g, (h, (i, j), k, l, m, o, p, q, r, s, t, u, v, w, x), y, z, (a1, b1), c1, d1), (e1, (f1, g1), (h1, i1, j1, k1), l1), m1, o1, p1, q1, r1, s1, b, (b.length : Int), i')) (fun _ => ((a, b, c, d), (eN : Int), (f, g, (h, (i, j), k, l, m, o, p, q, r, s, t, u, v, w, x), y, z, (a1, b1), c1, d1), m1, o1, p1, q1, r1, s1)) (fun i' z' (_ : Unit) => bif !((i' : Int) == (eN : Int)) then (bif keptB z'.2.2.2.2.2.2.2 f1 (h1, i1, j1, k1) then .inl () else .inr false) else .inl ()) (fun n s' i' z' hz hi => by
    have hzl := hl z' (List.mem_of_getElem? hz)
    have hw : IntKind.i64.wrap ((i' : Int) + 1) = (i' : Int) + 1 := wrap_ok (by omega) (by omega)
    rw [e_L_impl_SafeKept_1]
    simp only [show ((i' : Int) < (b.length : Int)) by omega, decide_true, cond_true, Int.natCast_nonneg, if_true, Int.toNat_natCast, hz, Option.bind_some]
    rw [show T_impl_keptBy (z'.2.2.2.2.2.2.2, e1, (f1, g1), (h1, i1, j1, k1), l1) = some (keptB z'.2.2.2.2.2.2.2 f1 (h1, i1, j1, k1)) from v_keptBy (e := (e1, (f1, g1), (h1, i1, j1, k1), l1)) hzl hE]
    cases ((i' : Int) == (eN : Int)) with
    | true => simp only [Bool.not_true, cond_false, Option.bind_some, Sum.elim_inl, hw]
    | false =>
      simp only [Bool.not_false, cond_true, Option.bind_some, Sum.elim_inl]
      cases keptB z'.2.2.2.2.2.2.2 f1 (h1, i1, j1, k1) <;> simp only [Bool.not_true, Bool.not_false, cond_true, cond_false, Sum.elim_inl, Sum.elim_inr, hw]) (fun n s => by rw [e_L_impl_SafeKept_1]; simp) (by rw [maxLen_eq]; omega) ()
  rw [hA]
  rw [runL_congr (g := fun _ z' (_ : Unit) => bif keptB z'.2.2.2.2.2.2.2 f1 (h1, i1, j1, k1) then .inl () else .inr false) b 0 () (fun i' z' _ hz => by
    simp only [Nat.zero_add]
    by_cases he : i' = eN
    · subst he
      have hk : keptB z'.2.2.2.2.2.2.2 f1 (h1, i1, j1, k1) = true := hself z' hz
      rw [hk]; simp
    · have : ((i' : Int) == (eN : Int)) = false := beq_eq_false_iff_ne.2 (by omega)
      rw [this]; rfl), runL_all]
  cases b.all (fun d => keptB d.2.2.2.2.2.2.2 f1 (h1, i1, j1, k1)) <;> rfl
theorem sk_impl2 {a : List (Int × List Int)} {b : List DaemonT} {c : List LetterT} {d : List EventT} {eN : Nat} {D : DaemonT} {m1 : List DaemonT} {o1 p1 : Int} (hD : b[eN]? = some D) (hb : b.length ≤ 1048576) (hl : ∀ y ∈ b, List.length y.2.2.2.2.2.2.2 ≤ 1048576) :
    L_impl_SafeKept_2 fuel ((a, b, c, d), (eN : Int), D, m1, o1, p1, D.2.2.2.2.2.2.2, (D.2.2.2.2.2.2.2.length : Int), 0) = some (Sum.elim (fun _ => .inl ((a, b, c, d), m1, o1, p1)) (fun r => .inr r) (runL (stM b D.2.2.2.2.2.2.2) 0 D.2.2.2.2.2.2.2 ())) := by
  have hDl := hl D (List.mem_of_getElem? hD)
  obtain ⟨f, g, ⟨h, ⟨i, j⟩, k, l, m, o, p, q, r, s, t, u, v, w, x⟩, y, z, ⟨a1, b1⟩, c1, d1⟩ := D
  have hDl : d1.length ≤ 1048576 := hDl
  exact runL_loop (L := L_impl_SafeKept_2) d1 (fun (_ : Unit) i' => ((a, b, c, d), (eN : Int), (f, g, (h, (i, j), k, l, m, o, p, q, r, s, t, u, v, w, x), y, z, (a1, b1), c1, d1), m1, o1, p1, d1, (d1.length : Int), i')) (fun _ => ((a, b, c, d), m1, o1, p1)) (stM b d1) (fun n s' i' E hE hi => by
    have hw : IntKind.i64.wrap ((i' : Int) + 1) = (i' : Int) + 1 := wrap_ok (by omega) (by omega)
    obtain ⟨e1, ⟨f1, g1⟩, ⟨h1, i1, j1, k1⟩, l1⟩ := E
    rw [e_L_impl_SafeKept_2]
    simp only [show ((i' : Int) < (d1.length : Int)) by omega, decide_true, cond_true, Int.natCast_nonneg, if_true, Int.toNat_natCast, hE, Option.bind_some, stM]
    by_cases hk : e1 = 1
    · subst hk
      simp only [beq_self_eq_true, Bool.not_true, cond_false, Option.bind_some, Sum.elim_inl]
      cases hlev : j1 == 2 with
      | false => simp only [Bool.not_false, cond_true, Option.bind_some, Sum.elim_inl, hw]
      | true =>
        simp only [Bool.not_true, cond_false, pt_impl hDl, Option.bind_some]
        by_cases h0 : 0 ≤ ptI d1 f1
        · by_cases h2 : ptI d1 f1 < (i' : Int)
          · simp only [h0, h2, decide_true, cond_true, Option.bind_some, Sum.elim_inl, Bool.and_self, hw]
          · have hs := sk_impl1 (a := a) (b := b) (c := c) (d := d) (eN := eN) (D := (f, g, (h, (i, j), k, l, m, o, p, q, r, s, t, u, v, w, x), y, z, (a1, b1), c1, d1)) (E := (1, (f1, g1), (h1, i1, j1, k1), l1)) (m1 := m1) (o1 := o1) (p1 := p1) (q1 := d1) (r1 := (d1.length : Int)) (s1 := (i' : Int)) rfl (fun z' hz => by
              rw [hD] at hz
              cases hz
              exact kept_self hE rfl (fun hc => h2 hc.2)) hb hl
            simp only [h0, h2, decide_true, decide_false, cond_true, cond_false, Option.bind_some, Sum.elim_inl, Bool.and_false, hs]
            cases b.all (fun d => keptB d.2.2.2.2.2.2.2 f1 (h1, i1, j1, k1)) <;> simp only [cond_true, cond_false, Option.bind_some, Sum.elim_inl, Sum.elim_inr, hw]
        · have hs := sk_impl1 (a := a) (b := b) (c := c) (d := d) (eN := eN) (D := (f, g, (h, (i, j), k, l, m, o, p, q, r, s, t, u, v, w, x), y, z, (a1, b1), c1, d1)) (E := (1, (f1, g1), (h1, i1, j1, k1), l1)) (m1 := m1) (o1 := o1) (p1 := p1) (q1 := d1) (r1 := (d1.length : Int)) (s1 := (i' : Int)) rfl (fun z' hz => by
              rw [hD] at hz
              cases hz
              exact kept_self hE rfl (fun hc => h0 hc.1)) hb hl
          simp only [h0, decide_false, cond_true, cond_false, Option.bind_some, Sum.elim_inl, Bool.false_and, hs]
          cases b.all (fun d => keptB d.2.2.2.2.2.2.2 f1 (h1, i1, j1, k1)) <;> simp only [cond_true, cond_false, Option.bind_some, Sum.elim_inl, Sum.elim_inr, hw]
    · have hk' : (e1 == 1) = false := beq_eq_false_iff_ne.2 hk
      simp only [hk', Bool.not_false, cond_true, Option.bind_some, Sum.elim_inl, hw]) (fun n s => by rw [e_L_impl_SafeKept_2]; simp) (by rw [maxLen_eq]; omega) ()
def stO (b : List DaemonT) (_ : Nat) (D : DaemonT) (_ : Unit) : Unit ⊕ Bool := Sum.elim (fun _ => .inl ()) (fun r => .inr r) (runL (stM b D.2.2.2.2.2.2.2) 0 D.2.2.2.2.2.2.2 ())
theorem x_SafeKept {a : List (Int × List Int)} {b : List DaemonT} {c : List LetterT} {d : List EventT} (hb : b.length ≤ 1048576) (hl : ∀ y ∈ b, List.length y.2.2.2.2.2.2.2 ≤ 1048576) :
    ∃ v, T_spec_SafeKept (a, b, c, d) = some v ∧ T_impl_SafeKept (a, b, c, d) = some v := by
  refine ⟨Sum.elim (fun _ => true) (fun r => r) (runL (stO b) 0 b ()), ?_, ?_⟩
  · rw [e_T_spec_SafeKept]
    have h1 := runL_loop (L := L_spec_SafeKept_3) b (fun (_ : Unit) e => ((a, b, c, d), e)) (fun _ => ()) (stO b) (fun n s i y hy hi => by
      rw [e_L_spec_SafeKept_3]
      have hw : IntKind.i64.wrap ((i : Int) + 1) = (i : Int) + 1 := wrap_ok (by omega) (by omega)
      simp only [show ((i : Int) < (b.length : Int)) by omega, decide_true, cond_true, Int.natCast_nonneg, if_true, Int.toNat_natCast, hy, Option.bind_some]
      rw [sk_spec2 (hl y (List.mem_of_getElem? hy)) hb hl]
      unfold stO
      cases runL (stM b y.2.2.2.2.2.2.2) 0 y.2.2.2.2.2.2.2 () <;> simp only [Option.bind_some, Sum.elim_inl, Sum.elim_inr, hw]) (fun n s => by rw [e_L_spec_SafeKept_3]; simp) (by rw [maxLen_eq]; omega) ()
    rw [h1]
    cases runL (stO b) 0 b () <;> rfl
  · rw [e_T_impl_SafeKept]
    have h1 := runL_loop (L := L_impl_SafeKept_3) b (fun (_ : Unit) e => ((a, b, c, d), b, (b.length : Int), e)) (fun _ => ()) (stO b) (fun n s i y hy hi => by
      rw [e_L_impl_SafeKept_3]
      have hw : IntKind.i64.wrap ((i : Int) + 1) = (i : Int) + 1 := wrap_ok (by omega) (by omega)
      simp only [show ((i : Int) < (b.length : Int)) by omega, decide_true, cond_true, Int.natCast_nonneg, if_true, Int.toNat_natCast, hy, Option.bind_some]
      have h2 := sk_impl2 (a := a) (b := b) (c := c) (d := d) (eN := i) (D := y) (m1 := b) (o1 := (b.length : Int)) (p1 := (i : Int)) hy hb hl
      obtain ⟨f, g, ⟨h, ⟨i', j⟩, k, l, m, o, p, q, r, s, t, u, v, w, x⟩, y, z, ⟨a1, b1⟩, c1, d1⟩ := y
      simp only at h2 ⊢
      rw [h2]
      unfold stO
      simp only
      cases runL (stM b d1) 0 d1 () <;> simp only [Option.bind_some, Sum.elim_inl, Sum.elim_inr, hw]) (fun n s => by rw [e_L_impl_SafeKept_3]; simp) (by rw [maxLen_eq]; omega) ()
    rw [h1]
    cases runL (stO b) 0 b () <;> rfl
theorem law_FnExactSafeKept (w : List (Int × List Int) × List DaemonT × List LetterT × List EventT) (h : okL (fn_laws_FnExactSafeKept).args w) : T_laws_FnExactSafeKept w = some true := by
  obtain ⟨r, h1, h2, h3⟩ := z_szWorld w 1048576 h (by decide) (by decide)
  obtain ⟨a, b, c, d⟩ := w
  rw [e_T_laws_FnExactSafeKept, h1]
  simp only [Option.bind_some]
  by_cases hr : r < 0
  · simp [hr]
  · have hs := h3 (by omega)
    have hs' := hs
    obtain ⟨_, hb, _, hd⟩ := hs'
    obtain ⟨v, h4, h5⟩ := x_SafeKept (a := a) (c := c) (d := d) hb.1 (fun y hy => (hb.2 y hy).2.2.2.2.2.2.2.1)
    simp only [hr, decide_false, cond_false, c_toWorld hs, Option.bind_some, h4, h5, q_eqWorld hs, beq_self_eq_true, Bool.not_true]
end Xs
end Go.Proofs.Ytkjpdhdmjjepfaa
