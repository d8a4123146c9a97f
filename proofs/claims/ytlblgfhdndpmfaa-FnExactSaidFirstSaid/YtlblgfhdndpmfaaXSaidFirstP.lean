/- What the reference's function answers, and the program's: the same. -/
import Derived.Test.YtlblgfhdndpmfaaT9
import Derived.Test.YtlblgfhdndpmfaaXSaidFirstE
namespace Go.Proofs.Ytlblgfhdndpmfaa
open Go Vm
set_option linter.unusedVariables false
set_option linter.unusedSimpArgs false
namespace Xs
theorem z_szIntS : SzOk (.sl false (.int .i64)) T_laws_szIntS :=
  sz_flat (e := (.int .i64)) (fun _ => trivial) e_T_laws_szIntS
theorem z_szRing : SzOk (.pair (.int .i64) (.sl false (.int .i64))) T_laws_szRing := by
  rintro ⟨a, b⟩ n ⟨h_a, h_b⟩ h0 hn
  rw [e_T_laws_szRing]
  refine Sz.call z_szIntS h_b (by omega) (by omega) (by omega) fun r1 p1 q1 s1 => ?_
  exact Sz.fin (by omega) ⟨trivial, s1⟩
theorem z_szRingS : SzOk (.sl false (.pair (.int .i64) (.sl false (.int .i64)))) T_laws_szRingS :=
  sz_sl (e := (.pair (.int .i64) (.sl false (.int .i64)))) (fun y b => T_laws_szRing (y, b)) e_T_laws_szRingS e_L_laws_szRingS_1 z_szRing
theorem z_szItem : SzOk (.pair (.int .i64) (.pair (.int .i64) (.pair (.int .i64) .str))) T_laws_szItem := by
  rintro ⟨a, b, c, d⟩ n ⟨h_a, h_b, h_c, h_d⟩ h0 hn
  rw [e_T_laws_szItem]
  refine Sz.str h_d (by omega) (by omega) (by omega) fun p1 w1 s_d => ?_
  try rw [w1]
  exact Sz.fin (by omega) ⟨trivial, trivial, trivial, s_d⟩
theorem z_szItemS : SzOk (.sl false (.pair (.int .i64) (.pair (.int .i64) (.pair (.int .i64) .str)))) T_laws_szItemS :=
  sz_sl (e := (.pair (.int .i64) (.pair (.int .i64) (.pair (.int .i64) .str)))) (fun y b => T_laws_szItem (y, b)) e_T_laws_szItemS e_L_laws_szItemS_1 z_szItem
theorem z_szStringS : SzOk (.sl false .str) T_laws_szStringS :=
  sz_sl (e := .str) (fun y b => some (IntKind.i64.wrap (b - (y.length : Int)))) e_T_laws_szStringS e_L_laws_szStringS_1 sz_str
theorem z_szToken : SzOk (.pair (.int .i64) (.pair (.int .i64) (.pair (.int .i64) (.pair (.int .i64) (.pair (.int .i64) (.sl false (.int .i64))))))) T_laws_szToken := by
  rintro ⟨a, b, c, d, e, f⟩ n ⟨h_a, h_b, h_c, h_d, h_e, h_f⟩ h0 hn
  rw [e_T_laws_szToken]
  refine Sz.call z_szIntS h_f (by omega) (by omega) (by omega) fun r1 p1 q1 s1 => ?_
  exact Sz.fin (by omega) ⟨trivial, trivial, trivial, trivial, trivial, s1⟩
theorem z_szMate : SzOk (.pair (.int .i64) (.pair (.pair (.int .i64) (.sl false (.int .i64))) (.pair (.sl false (.pair (.int .i64) (.pair (.int .i64) (.pair (.int .i64) .str)))) (.pair (.sl false (.int .i64)) (.pair (.sl false .str) (.pair (.int .i64) (.pair (.int .i64) (.pair (.int .i64) (.pair (.int .i64) (.pair (.int .i64) (.pair (.int .i64) (.pair (.int .i64) (.pair (.int .i64) (.pair (.int .i64) (.sl false (.int .i64)))))))))))))))) T_laws_szMate := by
  rintro ⟨a, ⟨b, c⟩, d, e, f, g, h, i, j, k, l, m, o, p, q⟩ n ⟨h_a, ⟨h_b, h_c⟩, h_d, h_e, h_f, h_g, h_h, h_i, h_j, h_k, h_l, h_m, h_o, h_p, h_q⟩ h0 hn
  rw [e_T_laws_szMate]
  refine Sz.call z_szRing ⟨h_b, h_c⟩ (by omega) (by omega) (by omega) fun r1 p1 q1 s1 => ?_
  refine Sz.call z_szItemS h_d (by omega) (by omega) (by omega) fun r2 p2 q2 s2 => ?_
  refine Sz.call z_szIntS h_e (by omega) (by omega) (by omega) fun r3 p3 q3 s3 => ?_
  refine Sz.call z_szStringS h_f (by omega) (by omega) (by omega) fun r4 p4 q4 s4 => ?_
  refine Sz.call z_szToken ⟨h_k, h_l, h_m, h_o, h_p, h_q⟩ (by omega) (by omega) (by omega) fun r5 p5 q5 s5 => ?_
  exact Sz.fin (by omega) ⟨trivial, s1, s2, s3, s4, trivial, trivial, trivial, trivial, s5⟩
theorem z_szBundle : SzOk (.pair (.int .i64) (.pair (.int .i64) (.pair (.int .i64) (.sl false (.pair (.int .i64) (.pair (.int .i64) (.pair (.int .i64) .str))))))) T_laws_szBundle := by
  rintro ⟨a, b, c, d⟩ n ⟨h_a, h_b, h_c, h_d⟩ h0 hn
  rw [e_T_laws_szBundle]
  refine Sz.call z_szItemS h_d (by omega) (by omega) (by omega) fun r1 p1 q1 s1 => ?_
  exact Sz.fin (by omega) ⟨trivial, trivial, trivial, s1⟩
theorem z_szBundleS : SzOk (.sl false (.pair (.int .i64) (.pair (.int .i64) (.pair (.int .i64) (.sl false (.pair (.int .i64) (.pair (.int .i64) (.pair (.int .i64) .str)))))))) T_laws_szBundleS :=
  sz_sl (e := (.pair (.int .i64) (.pair (.int .i64) (.pair (.int .i64) (.sl false (.pair (.int .i64) (.pair (.int .i64) (.pair (.int .i64) .str)))))))) (fun y b => T_laws_szBundle (y, b)) e_T_laws_szBundleS e_L_laws_szBundleS_1 z_szBundle
theorem z_szEvent : SzOk (.pair (.int .i64) (.pair (.pair (.int .i64) (.sl false (.int .i64))) (.pair (.pair (.int .i64) (.pair (.int .i64) (.pair (.int .i64) .str))) (.sl false (.int .i64))))) T_laws_szEvent := by
  rintro ⟨a, ⟨b, c⟩, ⟨d, e, f, g⟩, h⟩ n ⟨h_a, ⟨h_b, h_c⟩, ⟨h_d, h_e, h_f, h_g⟩, h_h⟩ h0 hn
  rw [e_T_laws_szEvent]
  refine Sz.call z_szRing ⟨h_b, h_c⟩ (by omega) (by omega) (by omega) fun r1 p1 q1 s1 => ?_
  refine Sz.call z_szItem ⟨h_d, h_e, h_f, h_g⟩ (by omega) (by omega) (by omega) fun r2 p2 q2 s2 => ?_
  refine Sz.call z_szIntS h_h (by omega) (by omega) (by omega) fun r3 p3 q3 s3 => ?_
  exact Sz.fin (by omega) ⟨trivial, s1, s2, s3⟩
theorem z_szEventS : SzOk (.sl false (.pair (.int .i64) (.pair (.pair (.int .i64) (.sl false (.int .i64))) (.pair (.pair (.int .i64) (.pair (.int .i64) (.pair (.int .i64) .str))) (.sl false (.int .i64)))))) T_laws_szEventS :=
  sz_sl (e := (.pair (.int .i64) (.pair (.pair (.int .i64) (.sl false (.int .i64))) (.pair (.pair (.int .i64) (.pair (.int .i64) (.pair (.int .i64) .str))) (.sl false (.int .i64)))))) (fun y b => T_laws_szEvent (y, b)) e_T_laws_szEventS e_L_laws_szEventS_1 z_szEvent
theorem z_szDaemon : SzOk (.pair (.int .i64) (.pair .bool (.pair (.pair (.int .i64) (.pair (.pair (.int .i64) (.sl false (.int .i64))) (.pair (.sl false (.pair (.int .i64) (.pair (.int .i64) (.pair (.int .i64) .str)))) (.pair (.sl false (.int .i64)) (.pair (.sl false .str) (.pair (.int .i64) (.pair (.int .i64) (.pair (.int .i64) (.pair (.int .i64) (.pair (.int .i64) (.pair (.int .i64) (.pair (.int .i64) (.pair (.int .i64) (.pair (.int .i64) (.sl false (.int .i64)))))))))))))))) (.pair (.int .i64) (.pair (.int .i64) (.pair (.pair (.int .i64) (.sl false (.int .i64))) (.pair (.sl false (.pair (.int .i64) (.pair (.int .i64) (.pair (.int .i64) (.sl false (.pair (.int .i64) (.pair (.int .i64) (.pair (.int .i64) .str)))))))) (.sl false (.pair (.int .i64) (.pair (.pair (.int .i64) (.sl false (.int .i64))) (.pair (.pair (.int .i64) (.pair (.int .i64) (.pair (.int .i64) .str))) (.sl false (.int .i64))))))))))))) T_laws_szDaemon := by
  rintro ⟨a, b, ⟨c, ⟨d, e⟩, f, g, h, i, j, k, l, m, o, p, q, r, s⟩, t, u, ⟨v, w⟩, x, y⟩ n ⟨h_a, h_b, ⟨h_c, ⟨h_d, h_e⟩, h_f, h_g, h_h, h_i, h_j, h_k, h_l, h_m, h_o, h_p, h_q, h_r, h_s⟩, h_t, h_u, ⟨h_v, h_w⟩, h_x, h_y⟩ h0 hn
  rw [e_T_laws_szDaemon]
  refine Sz.call z_szMate ⟨h_c, ⟨h_d, h_e⟩, h_f, h_g, h_h, h_i, h_j, h_k, h_l, h_m, h_o, h_p, h_q, h_r, h_s⟩ (by omega) (by omega) (by omega) fun r1 p1 q1 s1 => ?_
  refine Sz.call z_szRing ⟨h_v, h_w⟩ (by omega) (by omega) (by omega) fun r2 p2 q2 s2 => ?_
  refine Sz.call z_szBundleS h_x (by omega) (by omega) (by omega) fun r3 p3 q3 s3 => ?_
  refine Sz.call z_szEventS h_y (by omega) (by omega) (by omega) fun r4 p4 q4 s4 => ?_
  exact Sz.fin (by omega) ⟨trivial, trivial, s1, trivial, trivial, s2, s3, s4⟩
theorem z_szDaemonS : SzOk (.sl false (.pair (.int .i64) (.pair .bool (.pair (.pair (.int .i64) (.pair (.pair (.int .i64) (.sl false (.int .i64))) (.pair (.sl false (.pair (.int .i64) (.pair (.int .i64) (.pair (.int .i64) .str)))) (.pair (.sl false (.int .i64)) (.pair (.sl false .str) (.pair (.int .i64) (.pair (.int .i64) (.pair (.int .i64) (.pair (.int .i64) (.pair (.int .i64) (.pair (.int .i64) (.pair (.int .i64) (.pair (.int .i64) (.pair (.int .i64) (.sl false (.int .i64)))))))))))))))) (.pair (.int .i64) (.pair (.int .i64) (.pair (.pair (.int .i64) (.sl false (.int .i64))) (.pair (.sl false (.pair (.int .i64) (.pair (.int .i64) (.pair (.int .i64) (.sl false (.pair (.int .i64) (.pair (.int .i64) (.pair (.int .i64) .str)))))))) (.sl false (.pair (.int .i64) (.pair (.pair (.int .i64) (.sl false (.int .i64))) (.pair (.pair (.int .i64) (.pair (.int .i64) (.pair (.int .i64) .str))) (.sl false (.int .i64)))))))))))))) T_laws_szDaemonS :=
  sz_sl (e := (.pair (.int .i64) (.pair .bool (.pair (.pair (.int .i64) (.pair (.pair (.int .i64) (.sl false (.int .i64))) (.pair (.sl false (.pair (.int .i64) (.pair (.int .i64) (.pair (.int .i64) .str)))) (.pair (.sl false (.int .i64)) (.pair (.sl false .str) (.pair (.int .i64) (.pair (.int .i64) (.pair (.int .i64) (.pair (.int .i64) (.pair (.int .i64) (.pair (.int .i64) (.pair (.int .i64) (.pair (.int .i64) (.pair (.int .i64) (.sl false (.int .i64)))))))))))))))) (.pair (.int .i64) (.pair (.int .i64) (.pair (.pair (.int .i64) (.sl false (.int .i64))) (.pair (.sl false (.pair (.int .i64) (.pair (.int .i64) (.pair (.int .i64) (.sl false (.pair (.int .i64) (.pair (.int .i64) (.pair (.int .i64) .str)))))))) (.sl false (.pair (.int .i64) (.pair (.pair (.int .i64) (.sl false (.int .i64))) (.pair (.pair (.int .i64) (.pair (.int .i64) (.pair (.int .i64) .str))) (.sl false (.int .i64)))))))))))))) (fun y b => T_laws_szDaemon (y, b)) e_T_laws_szDaemonS e_L_laws_szDaemonS_1 z_szDaemon
theorem z_szLetter : SzOk (.pair (.int .i64) (.pair (.int .i64) (.pair (.int .i64) (.pair (.pair (.int .i64) (.pair (.int .i64) (.pair (.int .i64) .str))) (.pair (.pair (.int .i64) (.pair (.int .i64) (.pair (.int .i64) (.pair (.int .i64) (.pair (.int .i64) (.sl false (.int .i64))))))) (.pair (.int .i64) (.pair (.int .i64) (.pair (.int .i64) (.sl false (.pair (.int .i64) (.pair (.int .i64) (.pair (.int .i64) .str)))))))))))) T_laws_szLetter := by
  rintro ⟨a, b, c, ⟨d, e, f, g⟩, ⟨h, i, j, k, l, m⟩, o, p, q, r⟩ n ⟨h_a, h_b, h_c, ⟨h_d, h_e, h_f, h_g⟩, ⟨h_h, h_i, h_j, h_k, h_l, h_m⟩, h_o, h_p, h_q, h_r⟩ h0 hn
  rw [e_T_laws_szLetter]
  refine Sz.call z_szItem ⟨h_d, h_e, h_f, h_g⟩ (by omega) (by omega) (by omega) fun r1 p1 q1 s1 => ?_
  refine Sz.call z_szToken ⟨h_h, h_i, h_j, h_k, h_l, h_m⟩ (by omega) (by omega) (by omega) fun r2 p2 q2 s2 => ?_
  refine Sz.call z_szBundle ⟨h_o, h_p, h_q, h_r⟩ (by omega) (by omega) (by omega) fun r3 p3 q3 s3 => ?_
  exact Sz.fin (by omega) ⟨trivial, trivial, trivial, s1, s2, s3⟩
theorem z_szLetterS : SzOk (.sl false (.pair (.int .i64) (.pair (.int .i64) (.pair (.int .i64) (.pair (.pair (.int .i64) (.pair (.int .i64) (.pair (.int .i64) .str))) (.pair (.pair (.int .i64) (.pair (.int .i64) (.pair (.int .i64) (.pair (.int .i64) (.pair (.int .i64) (.sl false (.int .i64))))))) (.pair (.int .i64) (.pair (.int .i64) (.pair (.int .i64) (.sl false (.pair (.int .i64) (.pair (.int .i64) (.pair (.int .i64) .str))))))))))))) T_laws_szLetterS :=
  sz_sl (e := (.pair (.int .i64) (.pair (.int .i64) (.pair (.int .i64) (.pair (.pair (.int .i64) (.pair (.int .i64) (.pair (.int .i64) .str))) (.pair (.pair (.int .i64) (.pair (.int .i64) (.pair (.int .i64) (.pair (.int .i64) (.pair (.int .i64) (.sl false (.int .i64))))))) (.pair (.int .i64) (.pair (.int .i64) (.pair (.int .i64) (.sl false (.pair (.int .i64) (.pair (.int .i64) (.pair (.int .i64) .str))))))))))))) (fun y b => T_laws_szLetter (y, b)) e_T_laws_szLetterS e_L_laws_szLetterS_1 z_szLetter
theorem z_szWorld : SzOk (.pair (.sl false (.pair (.int .i64) (.sl false (.int .i64)))) (.pair (.sl false (.pair (.int .i64) (.pair .bool (.pair (.pair (.int .i64) (.pair (.pair (.int .i64) (.sl false (.int .i64))) (.pair (.sl false (.pair (.int .i64) (.pair (.int .i64) (.pair (.int .i64) .str)))) (.pair (.sl false (.int .i64)) (.pair (.sl false .str) (.pair (.int .i64) (.pair (.int .i64) (.pair (.int .i64) (.pair (.int .i64) (.pair (.int .i64) (.pair (.int .i64) (.pair (.int .i64) (.pair (.int .i64) (.pair (.int .i64) (.sl false (.int .i64)))))))))))))))) (.pair (.int .i64) (.pair (.int .i64) (.pair (.pair (.int .i64) (.sl false (.int .i64))) (.pair (.sl false (.pair (.int .i64) (.pair (.int .i64) (.pair (.int .i64) (.sl false (.pair (.int .i64) (.pair (.int .i64) (.pair (.int .i64) .str)))))))) (.sl false (.pair (.int .i64) (.pair (.pair (.int .i64) (.sl false (.int .i64))) (.pair (.pair (.int .i64) (.pair (.int .i64) (.pair (.int .i64) .str))) (.sl false (.int .i64)))))))))))))) (.pair (.sl false (.pair (.int .i64) (.pair (.int .i64) (.pair (.int .i64) (.pair (.pair (.int .i64) (.pair (.int .i64) (.pair (.int .i64) .str))) (.pair (.pair (.int .i64) (.pair (.int .i64) (.pair (.int .i64) (.pair (.int .i64) (.pair (.int .i64) (.sl false (.int .i64))))))) (.pair (.int .i64) (.pair (.int .i64) (.pair (.int .i64) (.sl false (.pair (.int .i64) (.pair (.int .i64) (.pair (.int .i64) .str))))))))))))) (.sl false (.pair (.int .i64) (.pair (.pair (.int .i64) (.sl false (.int .i64))) (.pair (.pair (.int .i64) (.pair (.int .i64) (.pair (.int .i64) .str))) (.sl false (.int .i64))))))))) T_laws_szWorld := by
  rintro ⟨a, b, c, d⟩ n ⟨h_a, h_b, h_c, h_d⟩ h0 hn
  rw [e_T_laws_szWorld]
  refine Sz.call z_szRingS h_a (by omega) (by omega) (by omega) fun r1 p1 q1 s1 => ?_
  refine Sz.call z_szDaemonS h_b (by omega) (by omega) (by omega) fun r2 p2 q2 s2 => ?_
  refine Sz.call z_szLetterS h_c (by omega) (by omega) (by omega) fun r3 p3 q3 s3 => ?_
  refine Sz.call z_szEventS h_d (by omega) (by omega) (by omega) fun r4 p4 q4 s4 => ?_
  exact Sz.fin (by omega) ⟨s1, s2, s3, s4⟩
theorem c_toIntS {a : (ET.sl false (.int .i64)).den} (h : (ET.sl false (.int .i64)).small a) : T_laws_toIntS a = some a := by
  have h1 : a.length ≤ 1048576 := h.1
  refine to_sl (L := L_laws_toIntS_1) 0 h1 ?_ (fun n b i y hy hi => ?_) (fun n b => ?_)
  · rw [e_T_laws_toIntS, if_pos ⟨by omega, rfl, by omega, by omega⟩]; rfl
  · have hlt := (List.getElem?_eq_some_iff.1 hy).1
    rw [e_L_laws_toIntS_1]
    simp only [show ((i : Int) < (a.length : Int)) by omega, decide_true, cond_true, Int.natCast_nonneg, if_true, Int.toNat_natCast, hy, Option.bind_some, hi, List.getElem?_eq_getElem hi]
    rw [wrap_ok (by omega) (by omega)]
  · rw [e_L_laws_toIntS_1]; simp
theorem c_toRing {x : (ET.pair (.int .i64) (.sl false (.int .i64))).den} (h : (ET.pair (.int .i64) (.sl false (.int .i64))).small x) : T_laws_toRing x = some x := by
  obtain ⟨a, b⟩ := x
  obtain ⟨h_a, h_b⟩ := h
  simp only [e_T_laws_toRing, c_toIntS h_b, Option.bind_some]
theorem c_toRingS {a : (ET.sl false (.pair (.int .i64) (.sl false (.int .i64)))).den} (h : (ET.sl false (.pair (.int .i64) (.sl false (.int .i64)))).small a) : T_laws_toRingS a = some a := by
  have h1 : a.length ≤ 1048576 := h.1
  refine to_sl (L := L_laws_toRingS_1) (0, []) h1 ?_ (fun n b i y hy hi => ?_) (fun n b => ?_)
  · rw [e_T_laws_toRingS, if_pos ⟨by omega, rfl, by omega, by omega⟩]; rfl
  · have hlt := (List.getElem?_eq_some_iff.1 hy).1
    rw [e_L_laws_toRingS_1]
    simp only [show ((i : Int) < (a.length : Int)) by omega, decide_true, cond_true, Int.natCast_nonneg, if_true, Int.toNat_natCast, hy, Option.bind_some, hi, List.getElem?_eq_getElem hi, c_toRing (h.2 y (List.mem_of_getElem? hy))]
    rw [wrap_ok (by omega) (by omega)]
  · rw [e_L_laws_toRingS_1]; simp
theorem c_toItem {x : (ET.pair (.int .i64) (.pair (.int .i64) (.pair (.int .i64) .str))).den} (h : (ET.pair (.int .i64) (.pair (.int .i64) (.pair (.int .i64) .str))).small x) : T_laws_toItem x = some x := by
  obtain ⟨a, b, c, d⟩ := x
  obtain ⟨h_a, h_b, h_c, h_d⟩ := h
  simp only [e_T_laws_toItem, Option.bind_some]
theorem c_toItemS {a : (ET.sl false (.pair (.int .i64) (.pair (.int .i64) (.pair (.int .i64) .str)))).den} (h : (ET.sl false (.pair (.int .i64) (.pair (.int .i64) (.pair (.int .i64) .str)))).small a) : T_laws_toItemS a = some a := by
  have h1 : a.length ≤ 1048576 := h.1
  refine to_sl (L := L_laws_toItemS_1) (0, 0, 0, []) h1 ?_ (fun n b i y hy hi => ?_) (fun n b => ?_)
  · rw [e_T_laws_toItemS, if_pos ⟨by omega, rfl, by omega, by omega⟩]; rfl
  · have hlt := (List.getElem?_eq_some_iff.1 hy).1
    rw [e_L_laws_toItemS_1]
    simp only [show ((i : Int) < (a.length : Int)) by omega, decide_true, cond_true, Int.natCast_nonneg, if_true, Int.toNat_natCast, hy, Option.bind_some, hi, List.getElem?_eq_getElem hi, c_toItem (h.2 y (List.mem_of_getElem? hy))]
    rw [wrap_ok (by omega) (by omega)]
  · rw [e_L_laws_toItemS_1]; simp
theorem c_toStringS {a : (ET.sl false (.str)).den} (h : (ET.sl false (.str)).small a) : T_laws_toStringS a = some a := by
  have h1 : a.length ≤ 1048576 := h.1
  refine to_sl (L := L_laws_toStringS_1) [] h1 ?_ (fun n b i y hy hi => ?_) (fun n b => ?_)
  · rw [e_T_laws_toStringS, if_pos ⟨by omega, rfl, by omega, by omega⟩]; rfl
  · have hlt := (List.getElem?_eq_some_iff.1 hy).1
    rw [e_L_laws_toStringS_1]
    simp only [show ((i : Int) < (a.length : Int)) by omega, decide_true, cond_true, Int.natCast_nonneg, if_true, Int.toNat_natCast, hy, Option.bind_some, hi, List.getElem?_eq_getElem hi]
    rw [wrap_ok (by omega) (by omega)]
  · rw [e_L_laws_toStringS_1]; simp
theorem c_toToken {x : (ET.pair (.int .i64) (.pair (.int .i64) (.pair (.int .i64) (.pair (.int .i64) (.pair (.int .i64) (.sl false (.int .i64))))))).den} (h : (ET.pair (.int .i64) (.pair (.int .i64) (.pair (.int .i64) (.pair (.int .i64) (.pair (.int .i64) (.sl false (.int .i64))))))).small x) : T_laws_toToken x = some x := by
  obtain ⟨a, b, c, d, e, f⟩ := x
  obtain ⟨h_a, h_b, h_c, h_d, h_e, h_f⟩ := h
  simp only [e_T_laws_toToken, c_toIntS h_f, Option.bind_some]
theorem c_toMate {x : (ET.pair (.int .i64) (.pair (.pair (.int .i64) (.sl false (.int .i64))) (.pair (.sl false (.pair (.int .i64) (.pair (.int .i64) (.pair (.int .i64) .str)))) (.pair (.sl false (.int .i64)) (.pair (.sl false .str) (.pair (.int .i64) (.pair (.int .i64) (.pair (.int .i64) (.pair (.int .i64) (.pair (.int .i64) (.pair (.int .i64) (.pair (.int .i64) (.pair (.int .i64) (.pair (.int .i64) (.sl false (.int .i64)))))))))))))))).den} (h : (ET.pair (.int .i64) (.pair (.pair (.int .i64) (.sl false (.int .i64))) (.pair (.sl false (.pair (.int .i64) (.pair (.int .i64) (.pair (.int .i64) .str)))) (.pair (.sl false (.int .i64)) (.pair (.sl false .str) (.pair (.int .i64) (.pair (.int .i64) (.pair (.int .i64) (.pair (.int .i64) (.pair (.int .i64) (.pair (.int .i64) (.pair (.int .i64) (.pair (.int .i64) (.pair (.int .i64) (.sl false (.int .i64)))))))))))))))).small x) : T_laws_toMate x = some x := by
  obtain ⟨a, ⟨b, c⟩, d, e, f, g, h, i, j, k, l, m, o, p, q⟩ := x
  obtain ⟨h_a, ⟨h_b, h_c⟩, h_d, h_e, h_f, h_g, h_h, h_i, h_j, h_k, h_l, h_m, h_o, h_p, h_q⟩ := h
  simp only [e_T_laws_toMate, c_toRing ⟨h_b, h_c⟩, c_toItemS h_d, c_toIntS h_e, c_toStringS h_f, c_toToken ⟨h_k, h_l, h_m, h_o, h_p, h_q⟩, Option.bind_some]
theorem c_toBundle {x : (ET.pair (.int .i64) (.pair (.int .i64) (.pair (.int .i64) (.sl false (.pair (.int .i64) (.pair (.int .i64) (.pair (.int .i64) .str))))))).den} (h : (ET.pair (.int .i64) (.pair (.int .i64) (.pair (.int .i64) (.sl false (.pair (.int .i64) (.pair (.int .i64) (.pair (.int .i64) .str))))))).small x) : T_laws_toBundle x = some x := by
  obtain ⟨a, b, c, d⟩ := x
  obtain ⟨h_a, h_b, h_c, h_d⟩ := h
  simp only [e_T_laws_toBundle, c_toItemS h_d, Option.bind_some]
theorem c_toBundleS {a : (ET.sl false (.pair (.int .i64) (.pair (.int .i64) (.pair (.int .i64) (.sl false (.pair (.int .i64) (.pair (.int .i64) (.pair (.int .i64) .str)))))))).den} (h : (ET.sl false (.pair (.int .i64) (.pair (.int .i64) (.pair (.int .i64) (.sl false (.pair (.int .i64) (.pair (.int .i64) (.pair (.int .i64) .str)))))))).small a) : T_laws_toBundleS a = some a := by
  have h1 : a.length ≤ 1048576 := h.1
  refine to_sl (L := L_laws_toBundleS_1) (0, 0, 0, []) h1 ?_ (fun n b i y hy hi => ?_) (fun n b => ?_)
  · rw [e_T_laws_toBundleS, if_pos ⟨by omega, rfl, by omega, by omega⟩]; rfl
  · have hlt := (List.getElem?_eq_some_iff.1 hy).1
    rw [e_L_laws_toBundleS_1]
    simp only [show ((i : Int) < (a.length : Int)) by omega, decide_true, cond_true, Int.natCast_nonneg, if_true, Int.toNat_natCast, hy, Option.bind_some, hi, List.getElem?_eq_getElem hi, c_toBundle (h.2 y (List.mem_of_getElem? hy))]
    rw [wrap_ok (by omega) (by omega)]
  · rw [e_L_laws_toBundleS_1]; simp
theorem c_toEvent {x : (ET.pair (.int .i64) (.pair (.pair (.int .i64) (.sl false (.int .i64))) (.pair (.pair (.int .i64) (.pair (.int .i64) (.pair (.int .i64) .str))) (.sl false (.int .i64))))).den} (h : (ET.pair (.int .i64) (.pair (.pair (.int .i64) (.sl false (.int .i64))) (.pair (.pair (.int .i64) (.pair (.int .i64) (.pair (.int .i64) .str))) (.sl false (.int .i64))))).small x) : T_laws_toEvent x = some x := by
  obtain ⟨a, ⟨b, c⟩, ⟨d, e, f, g⟩, h⟩ := x
  obtain ⟨h_a, ⟨h_b, h_c⟩, ⟨h_d, h_e, h_f, h_g⟩, h_h⟩ := h
  simp only [e_T_laws_toEvent, c_toRing ⟨h_b, h_c⟩, c_toItem ⟨h_d, h_e, h_f, h_g⟩, c_toIntS h_h, Option.bind_some]
theorem c_toEventS {a : (ET.sl false (.pair (.int .i64) (.pair (.pair (.int .i64) (.sl false (.int .i64))) (.pair (.pair (.int .i64) (.pair (.int .i64) (.pair (.int .i64) .str))) (.sl false (.int .i64)))))).den} (h : (ET.sl false (.pair (.int .i64) (.pair (.pair (.int .i64) (.sl false (.int .i64))) (.pair (.pair (.int .i64) (.pair (.int .i64) (.pair (.int .i64) .str))) (.sl false (.int .i64)))))).small a) : T_laws_toEventS a = some a := by
  have h1 : a.length ≤ 1048576 := h.1
  refine to_sl (L := L_laws_toEventS_1) (0, (0, []), (0, 0, 0, []), []) h1 ?_ (fun n b i y hy hi => ?_) (fun n b => ?_)
  · rw [e_T_laws_toEventS, if_pos ⟨by omega, rfl, by omega, by omega⟩]; rfl
  · have hlt := (List.getElem?_eq_some_iff.1 hy).1
    rw [e_L_laws_toEventS_1]
    simp only [show ((i : Int) < (a.length : Int)) by omega, decide_true, cond_true, Int.natCast_nonneg, if_true, Int.toNat_natCast, hy, Option.bind_some, hi, List.getElem?_eq_getElem hi, c_toEvent (h.2 y (List.mem_of_getElem? hy))]
    rw [wrap_ok (by omega) (by omega)]
  · rw [e_L_laws_toEventS_1]; simp
theorem c_toDaemon {x : (ET.pair (.int .i64) (.pair .bool (.pair (.pair (.int .i64) (.pair (.pair (.int .i64) (.sl false (.int .i64))) (.pair (.sl false (.pair (.int .i64) (.pair (.int .i64) (.pair (.int .i64) .str)))) (.pair (.sl false (.int .i64)) (.pair (.sl false .str) (.pair (.int .i64) (.pair (.int .i64) (.pair (.int .i64) (.pair (.int .i64) (.pair (.int .i64) (.pair (.int .i64) (.pair (.int .i64) (.pair (.int .i64) (.pair (.int .i64) (.sl false (.int .i64)))))))))))))))) (.pair (.int .i64) (.pair (.int .i64) (.pair (.pair (.int .i64) (.sl false (.int .i64))) (.pair (.sl false (.pair (.int .i64) (.pair (.int .i64) (.pair (.int .i64) (.sl false (.pair (.int .i64) (.pair (.int .i64) (.pair (.int .i64) .str)))))))) (.sl false (.pair (.int .i64) (.pair (.pair (.int .i64) (.sl false (.int .i64))) (.pair (.pair (.int .i64) (.pair (.int .i64) (.pair (.int .i64) .str))) (.sl false (.int .i64))))))))))))).den} (h : (ET.pair (.int .i64) (.pair .bool (.pair (.pair (.int .i64) (.pair (.pair (.int .i64) (.sl false (.int .i64))) (.pair (.sl false (.pair (.int .i64) (.pair (.int .i64) (.pair (.int .i64) .str)))) (.pair (.sl false (.int .i64)) (.pair (.sl false .str) (.pair (.int .i64) (.pair (.int .i64) (.pair (.int .i64) (.pair (.int .i64) (.pair (.int .i64) (.pair (.int .i64) (.pair (.int .i64) (.pair (.int .i64) (.pair (.int .i64) (.sl false (.int .i64)))))))))))))))) (.pair (.int .i64) (.pair (.int .i64) (.pair (.pair (.int .i64) (.sl false (.int .i64))) (.pair (.sl false (.pair (.int .i64) (.pair (.int .i64) (.pair (.int .i64) (.sl false (.pair (.int .i64) (.pair (.int .i64) (.pair (.int .i64) .str)))))))) (.sl false (.pair (.int .i64) (.pair (.pair (.int .i64) (.sl false (.int .i64))) (.pair (.pair (.int .i64) (.pair (.int .i64) (.pair (.int .i64) .str))) (.sl false (.int .i64))))))))))))).small x) : T_laws_toDaemon x = some x := by
  obtain ⟨a, b, ⟨c, ⟨d, e⟩, f, g, h, i, j, k, l, m, o, p, q, r, s⟩, t, u, ⟨v, w⟩, x, y⟩ := x
  obtain ⟨h_a, h_b, ⟨h_c, ⟨h_d, h_e⟩, h_f, h_g, h_h, h_i, h_j, h_k, h_l, h_m, h_o, h_p, h_q, h_r, h_s⟩, h_t, h_u, ⟨h_v, h_w⟩, h_x, h_y⟩ := h
  simp only [e_T_laws_toDaemon, c_toMate ⟨h_c, ⟨h_d, h_e⟩, h_f, h_g, h_h, h_i, h_j, h_k, h_l, h_m, h_o, h_p, h_q, h_r, h_s⟩, c_toRing ⟨h_v, h_w⟩, c_toBundleS h_x, c_toEventS h_y, Option.bind_some]
theorem c_toDaemonS {a : (ET.sl false (.pair (.int .i64) (.pair .bool (.pair (.pair (.int .i64) (.pair (.pair (.int .i64) (.sl false (.int .i64))) (.pair (.sl false (.pair (.int .i64) (.pair (.int .i64) (.pair (.int .i64) .str)))) (.pair (.sl false (.int .i64)) (.pair (.sl false .str) (.pair (.int .i64) (.pair (.int .i64) (.pair (.int .i64) (.pair (.int .i64) (.pair (.int .i64) (.pair (.int .i64) (.pair (.int .i64) (.pair (.int .i64) (.pair (.int .i64) (.sl false (.int .i64)))))))))))))))) (.pair (.int .i64) (.pair (.int .i64) (.pair (.pair (.int .i64) (.sl false (.int .i64))) (.pair (.sl false (.pair (.int .i64) (.pair (.int .i64) (.pair (.int .i64) (.sl false (.pair (.int .i64) (.pair (.int .i64) (.pair (.int .i64) .str)))))))) (.sl false (.pair (.int .i64) (.pair (.pair (.int .i64) (.sl false (.int .i64))) (.pair (.pair (.int .i64) (.pair (.int .i64) (.pair (.int .i64) .str))) (.sl false (.int .i64)))))))))))))).den} (h : (ET.sl false (.pair (.int .i64) (.pair .bool (.pair (.pair (.int .i64) (.pair (.pair (.int .i64) (.sl false (.int .i64))) (.pair (.sl false (.pair (.int .i64) (.pair (.int .i64) (.pair (.int .i64) .str)))) (.pair (.sl false (.int .i64)) (.pair (.sl false .str) (.pair (.int .i64) (.pair (.int .i64) (.pair (.int .i64) (.pair (.int .i64) (.pair (.int .i64) (.pair (.int .i64) (.pair (.int .i64) (.pair (.int .i64) (.pair (.int .i64) (.sl false (.int .i64)))))))))))))))) (.pair (.int .i64) (.pair (.int .i64) (.pair (.pair (.int .i64) (.sl false (.int .i64))) (.pair (.sl false (.pair (.int .i64) (.pair (.int .i64) (.pair (.int .i64) (.sl false (.pair (.int .i64) (.pair (.int .i64) (.pair (.int .i64) .str)))))))) (.sl false (.pair (.int .i64) (.pair (.pair (.int .i64) (.sl false (.int .i64))) (.pair (.pair (.int .i64) (.pair (.int .i64) (.pair (.int .i64) .str))) (.sl false (.int .i64)))))))))))))).small a) : T_laws_toDaemonS a = some a := by
  have h1 : a.length ≤ 1048576 := h.1
  refine to_sl (L := L_laws_toDaemonS_1) (0, false, (0, (0, []), [], [], [], 0, 0, 0, 0, 0, 0, 0, 0, 0, []), 0, 0, (0, []), [], []) h1 ?_ (fun n b i y hy hi => ?_) (fun n b => ?_)
  · rw [e_T_laws_toDaemonS, if_pos ⟨by omega, rfl, by omega, by omega⟩]; rfl
  · have hlt := (List.getElem?_eq_some_iff.1 hy).1
    rw [e_L_laws_toDaemonS_1]
    simp only [show ((i : Int) < (a.length : Int)) by omega, decide_true, cond_true, Int.natCast_nonneg, if_true, Int.toNat_natCast, hy, Option.bind_some, hi, List.getElem?_eq_getElem hi, c_toDaemon (h.2 y (List.mem_of_getElem? hy))]
    rw [wrap_ok (by omega) (by omega)]
  · rw [e_L_laws_toDaemonS_1]; simp
theorem c_toLetter {x : (ET.pair (.int .i64) (.pair (.int .i64) (.pair (.int .i64) (.pair (.pair (.int .i64) (.pair (.int .i64) (.pair (.int .i64) .str))) (.pair (.pair (.int .i64) (.pair (.int .i64) (.pair (.int .i64) (.pair (.int .i64) (.pair (.int .i64) (.sl false (.int .i64))))))) (.pair (.int .i64) (.pair (.int .i64) (.pair (.int .i64) (.sl false (.pair (.int .i64) (.pair (.int .i64) (.pair (.int .i64) .str)))))))))))).den} (h : (ET.pair (.int .i64) (.pair (.int .i64) (.pair (.int .i64) (.pair (.pair (.int .i64) (.pair (.int .i64) (.pair (.int .i64) .str))) (.pair (.pair (.int .i64) (.pair (.int .i64) (.pair (.int .i64) (.pair (.int .i64) (.pair (.int .i64) (.sl false (.int .i64))))))) (.pair (.int .i64) (.pair (.int .i64) (.pair (.int .i64) (.sl false (.pair (.int .i64) (.pair (.int .i64) (.pair (.int .i64) .str)))))))))))).small x) : T_laws_toLetter x = some x := by
  obtain ⟨a, b, c, ⟨d, e, f, g⟩, ⟨h, i, j, k, l, m⟩, o, p, q, r⟩ := x
  obtain ⟨h_a, h_b, h_c, ⟨h_d, h_e, h_f, h_g⟩, ⟨h_h, h_i, h_j, h_k, h_l, h_m⟩, h_o, h_p, h_q, h_r⟩ := h
  simp only [e_T_laws_toLetter, c_toItem ⟨h_d, h_e, h_f, h_g⟩, c_toToken ⟨h_h, h_i, h_j, h_k, h_l, h_m⟩, c_toBundle ⟨h_o, h_p, h_q, h_r⟩, Option.bind_some]
theorem c_toLetterS {a : (ET.sl false (.pair (.int .i64) (.pair (.int .i64) (.pair (.int .i64) (.pair (.pair (.int .i64) (.pair (.int .i64) (.pair (.int .i64) .str))) (.pair (.pair (.int .i64) (.pair (.int .i64) (.pair (.int .i64) (.pair (.int .i64) (.pair (.int .i64) (.sl false (.int .i64))))))) (.pair (.int .i64) (.pair (.int .i64) (.pair (.int .i64) (.sl false (.pair (.int .i64) (.pair (.int .i64) (.pair (.int .i64) .str))))))))))))).den} (h : (ET.sl false (.pair (.int .i64) (.pair (.int .i64) (.pair (.int .i64) (.pair (.pair (.int .i64) (.pair (.int .i64) (.pair (.int .i64) .str))) (.pair (.pair (.int .i64) (.pair (.int .i64) (.pair (.int .i64) (.pair (.int .i64) (.pair (.int .i64) (.sl false (.int .i64))))))) (.pair (.int .i64) (.pair (.int .i64) (.pair (.int .i64) (.sl false (.pair (.int .i64) (.pair (.int .i64) (.pair (.int .i64) .str))))))))))))).small a) : T_laws_toLetterS a = some a := by
  have h1 : a.length ≤ 1048576 := h.1
  refine to_sl (L := L_laws_toLetterS_1) (0, 0, 0, (0, 0, 0, []), (0, 0, 0, 0, 0, []), 0, 0, 0, []) h1 ?_ (fun n b i y hy hi => ?_) (fun n b => ?_)
  · rw [e_T_laws_toLetterS, if_pos ⟨by omega, rfl, by omega, by omega⟩]; rfl
  · have hlt := (List.getElem?_eq_some_iff.1 hy).1
    rw [e_L_laws_toLetterS_1]
    simp only [show ((i : Int) < (a.length : Int)) by omega, decide_true, cond_true, Int.natCast_nonneg, if_true, Int.toNat_natCast, hy, Option.bind_some, hi, List.getElem?_eq_getElem hi, c_toLetter (h.2 y (List.mem_of_getElem? hy))]
    rw [wrap_ok (by omega) (by omega)]
  · rw [e_L_laws_toLetterS_1]; simp
theorem c_toWorld {x : (ET.pair (.sl false (.pair (.int .i64) (.sl false (.int .i64)))) (.pair (.sl false (.pair (.int .i64) (.pair .bool (.pair (.pair (.int .i64) (.pair (.pair (.int .i64) (.sl false (.int .i64))) (.pair (.sl false (.pair (.int .i64) (.pair (.int .i64) (.pair (.int .i64) .str)))) (.pair (.sl false (.int .i64)) (.pair (.sl false .str) (.pair (.int .i64) (.pair (.int .i64) (.pair (.int .i64) (.pair (.int .i64) (.pair (.int .i64) (.pair (.int .i64) (.pair (.int .i64) (.pair (.int .i64) (.pair (.int .i64) (.sl false (.int .i64)))))))))))))))) (.pair (.int .i64) (.pair (.int .i64) (.pair (.pair (.int .i64) (.sl false (.int .i64))) (.pair (.sl false (.pair (.int .i64) (.pair (.int .i64) (.pair (.int .i64) (.sl false (.pair (.int .i64) (.pair (.int .i64) (.pair (.int .i64) .str)))))))) (.sl false (.pair (.int .i64) (.pair (.pair (.int .i64) (.sl false (.int .i64))) (.pair (.pair (.int .i64) (.pair (.int .i64) (.pair (.int .i64) .str))) (.sl false (.int .i64)))))))))))))) (.pair (.sl false (.pair (.int .i64) (.pair (.int .i64) (.pair (.int .i64) (.pair (.pair (.int .i64) (.pair (.int .i64) (.pair (.int .i64) .str))) (.pair (.pair (.int .i64) (.pair (.int .i64) (.pair (.int .i64) (.pair (.int .i64) (.pair (.int .i64) (.sl false (.int .i64))))))) (.pair (.int .i64) (.pair (.int .i64) (.pair (.int .i64) (.sl false (.pair (.int .i64) (.pair (.int .i64) (.pair (.int .i64) .str))))))))))))) (.sl false (.pair (.int .i64) (.pair (.pair (.int .i64) (.sl false (.int .i64))) (.pair (.pair (.int .i64) (.pair (.int .i64) (.pair (.int .i64) .str))) (.sl false (.int .i64))))))))).den} (h : (ET.pair (.sl false (.pair (.int .i64) (.sl false (.int .i64)))) (.pair (.sl false (.pair (.int .i64) (.pair .bool (.pair (.pair (.int .i64) (.pair (.pair (.int .i64) (.sl false (.int .i64))) (.pair (.sl false (.pair (.int .i64) (.pair (.int .i64) (.pair (.int .i64) .str)))) (.pair (.sl false (.int .i64)) (.pair (.sl false .str) (.pair (.int .i64) (.pair (.int .i64) (.pair (.int .i64) (.pair (.int .i64) (.pair (.int .i64) (.pair (.int .i64) (.pair (.int .i64) (.pair (.int .i64) (.pair (.int .i64) (.sl false (.int .i64)))))))))))))))) (.pair (.int .i64) (.pair (.int .i64) (.pair (.pair (.int .i64) (.sl false (.int .i64))) (.pair (.sl false (.pair (.int .i64) (.pair (.int .i64) (.pair (.int .i64) (.sl false (.pair (.int .i64) (.pair (.int .i64) (.pair (.int .i64) .str)))))))) (.sl false (.pair (.int .i64) (.pair (.pair (.int .i64) (.sl false (.int .i64))) (.pair (.pair (.int .i64) (.pair (.int .i64) (.pair (.int .i64) .str))) (.sl false (.int .i64)))))))))))))) (.pair (.sl false (.pair (.int .i64) (.pair (.int .i64) (.pair (.int .i64) (.pair (.pair (.int .i64) (.pair (.int .i64) (.pair (.int .i64) .str))) (.pair (.pair (.int .i64) (.pair (.int .i64) (.pair (.int .i64) (.pair (.int .i64) (.pair (.int .i64) (.sl false (.int .i64))))))) (.pair (.int .i64) (.pair (.int .i64) (.pair (.int .i64) (.sl false (.pair (.int .i64) (.pair (.int .i64) (.pair (.int .i64) .str))))))))))))) (.sl false (.pair (.int .i64) (.pair (.pair (.int .i64) (.sl false (.int .i64))) (.pair (.pair (.int .i64) (.pair (.int .i64) (.pair (.int .i64) .str))) (.sl false (.int .i64))))))))).small x) : T_laws_toWorld x = some x := by
  obtain ⟨a, b, c, d⟩ := x
  obtain ⟨h_a, h_b, h_c, h_d⟩ := h
  simp only [e_T_laws_toWorld, c_toRingS h_a, c_toDaemonS h_b, c_toLetterS h_c, c_toEventS h_d, Option.bind_some]
theorem q_eqIntS {a : (ET.sl false (.int .i64)).den} (h : (ET.sl false (.int .i64)).small a) : T_laws_eqIntS (a, a) = some true := by
  have h1 : a.length ≤ 1048576 := h.1
  rw [e_T_laws_eqIntS, eq_sl (L := L_laws_eqIntS_1) (Nat.le_trans h1 (by decide)) (fun n i y hy => ?_) (fun n => ?_)]
  · simp
  · have hlt := (List.getElem?_eq_some_iff.1 hy).1
    rw [e_L_laws_eqIntS_1]
    simp only [show ((i : Int) < (a.length : Int)) by omega, decide_true, cond_true, Int.natCast_nonneg, if_true, Int.toNat_natCast, hy, Option.bind_some, beq_self_eq_true, Bool.not_true, cond_false]
    rw [wrap_ok (by omega) (by omega)]
  · rw [e_L_laws_eqIntS_1]; simp
theorem q_eqRing {x : (ET.pair (.int .i64) (.sl false (.int .i64))).den} (h : (ET.pair (.int .i64) (.sl false (.int .i64))).small x) : T_laws_eqRing (x, x) = some true := by
  obtain ⟨a, b⟩ := x
  obtain ⟨h_a, h_b⟩ := h
  simp only [e_T_laws_eqRing, q_eqIntS h_b, Option.bind_some, beq_self_eq_true, Bool.not_true, cond_false]
theorem q_eqRingS {a : (ET.sl false (.pair (.int .i64) (.sl false (.int .i64)))).den} (h : (ET.sl false (.pair (.int .i64) (.sl false (.int .i64)))).small a) : T_laws_eqRingS (a, a) = some true := by
  have h1 : a.length ≤ 1048576 := h.1
  rw [e_T_laws_eqRingS, eq_sl (L := L_laws_eqRingS_1) (Nat.le_trans h1 (by decide)) (fun n i y hy => ?_) (fun n => ?_)]
  · simp
  · have hlt := (List.getElem?_eq_some_iff.1 hy).1
    rw [e_L_laws_eqRingS_1]
    simp only [show ((i : Int) < (a.length : Int)) by omega, decide_true, cond_true, Int.natCast_nonneg, if_true, Int.toNat_natCast, hy, Option.bind_some, beq_self_eq_true, Bool.not_true, cond_false, q_eqRing (h.2 y (List.mem_of_getElem? hy))]
    rw [wrap_ok (by omega) (by omega)]
  · rw [e_L_laws_eqRingS_1]; simp
theorem q_eqItem {x : (ET.pair (.int .i64) (.pair (.int .i64) (.pair (.int .i64) .str))).den} (h : (ET.pair (.int .i64) (.pair (.int .i64) (.pair (.int .i64) .str))).small x) : T_laws_eqItem (x, x) = some true := by
  obtain ⟨a, b, c, d⟩ := x
  obtain ⟨h_a, h_b, h_c, h_d⟩ := h
  simp only [e_T_laws_eqItem, Option.bind_some, beq_self_eq_true, Bool.not_true, cond_false]
theorem q_eqItemS {a : (ET.sl false (.pair (.int .i64) (.pair (.int .i64) (.pair (.int .i64) .str)))).den} (h : (ET.sl false (.pair (.int .i64) (.pair (.int .i64) (.pair (.int .i64) .str)))).small a) : T_laws_eqItemS (a, a) = some true := by
  have h1 : a.length ≤ 1048576 := h.1
  rw [e_T_laws_eqItemS, eq_sl (L := L_laws_eqItemS_1) (Nat.le_trans h1 (by decide)) (fun n i y hy => ?_) (fun n => ?_)]
  · simp
  · have hlt := (List.getElem?_eq_some_iff.1 hy).1
    rw [e_L_laws_eqItemS_1]
    simp only [show ((i : Int) < (a.length : Int)) by omega, decide_true, cond_true, Int.natCast_nonneg, if_true, Int.toNat_natCast, hy, Option.bind_some, beq_self_eq_true, Bool.not_true, cond_false, q_eqItem (h.2 y (List.mem_of_getElem? hy))]
    rw [wrap_ok (by omega) (by omega)]
  · rw [e_L_laws_eqItemS_1]; simp
theorem q_eqStringS {a : (ET.sl false (.str)).den} (h : (ET.sl false (.str)).small a) : T_laws_eqStringS (a, a) = some true := by
  have h1 : a.length ≤ 1048576 := h.1
  rw [e_T_laws_eqStringS, eq_sl (L := L_laws_eqStringS_1) (Nat.le_trans h1 (by decide)) (fun n i y hy => ?_) (fun n => ?_)]
  · simp
  · have hlt := (List.getElem?_eq_some_iff.1 hy).1
    rw [e_L_laws_eqStringS_1]
    simp only [show ((i : Int) < (a.length : Int)) by omega, decide_true, cond_true, Int.natCast_nonneg, if_true, Int.toNat_natCast, hy, Option.bind_some, beq_self_eq_true, Bool.not_true, cond_false]
    rw [wrap_ok (by omega) (by omega)]
  · rw [e_L_laws_eqStringS_1]; simp
theorem q_eqToken {x : (ET.pair (.int .i64) (.pair (.int .i64) (.pair (.int .i64) (.pair (.int .i64) (.pair (.int .i64) (.sl false (.int .i64))))))).den} (h : (ET.pair (.int .i64) (.pair (.int .i64) (.pair (.int .i64) (.pair (.int .i64) (.pair (.int .i64) (.sl false (.int .i64))))))).small x) : T_laws_eqToken (x, x) = some true := by
  obtain ⟨a, b, c, d, e, f⟩ := x
  obtain ⟨h_a, h_b, h_c, h_d, h_e, h_f⟩ := h
  simp only [e_T_laws_eqToken, q_eqIntS h_f, Option.bind_some, beq_self_eq_true, Bool.not_true, cond_false]
theorem q_eqMate {x : (ET.pair (.int .i64) (.pair (.pair (.int .i64) (.sl false (.int .i64))) (.pair (.sl false (.pair (.int .i64) (.pair (.int .i64) (.pair (.int .i64) .str)))) (.pair (.sl false (.int .i64)) (.pair (.sl false .str) (.pair (.int .i64) (.pair (.int .i64) (.pair (.int .i64) (.pair (.int .i64) (.pair (.int .i64) (.pair (.int .i64) (.pair (.int .i64) (.pair (.int .i64) (.pair (.int .i64) (.sl false (.int .i64)))))))))))))))).den} (h : (ET.pair (.int .i64) (.pair (.pair (.int .i64) (.sl false (.int .i64))) (.pair (.sl false (.pair (.int .i64) (.pair (.int .i64) (.pair (.int .i64) .str)))) (.pair (.sl false (.int .i64)) (.pair (.sl false .str) (.pair (.int .i64) (.pair (.int .i64) (.pair (.int .i64) (.pair (.int .i64) (.pair (.int .i64) (.pair (.int .i64) (.pair (.int .i64) (.pair (.int .i64) (.pair (.int .i64) (.sl false (.int .i64)))))))))))))))).small x) : T_laws_eqMate (x, x) = some true := by
  obtain ⟨a, ⟨b, c⟩, d, e, f, g, h, i, j, k, l, m, o, p, q⟩ := x
  obtain ⟨h_a, ⟨h_b, h_c⟩, h_d, h_e, h_f, h_g, h_h, h_i, h_j, h_k, h_l, h_m, h_o, h_p, h_q⟩ := h
  simp only [e_T_laws_eqMate, q_eqRing ⟨h_b, h_c⟩, q_eqItemS h_d, q_eqIntS h_e, q_eqStringS h_f, q_eqToken ⟨h_k, h_l, h_m, h_o, h_p, h_q⟩, Option.bind_some, beq_self_eq_true, Bool.not_true, cond_false]
theorem q_eqBundle {x : (ET.pair (.int .i64) (.pair (.int .i64) (.pair (.int .i64) (.sl false (.pair (.int .i64) (.pair (.int .i64) (.pair (.int .i64) .str))))))).den} (h : (ET.pair (.int .i64) (.pair (.int .i64) (.pair (.int .i64) (.sl false (.pair (.int .i64) (.pair (.int .i64) (.pair (.int .i64) .str))))))).small x) : T_laws_eqBundle (x, x) = some true := by
  obtain ⟨a, b, c, d⟩ := x
  obtain ⟨h_a, h_b, h_c, h_d⟩ := h
  simp only [e_T_laws_eqBundle, q_eqItemS h_d, Option.bind_some, beq_self_eq_true, Bool.not_true, cond_false]
theorem q_eqBundleS {a : (ET.sl false (.pair (.int .i64) (.pair (.int .i64) (.pair (.int .i64) (.sl false (.pair (.int .i64) (.pair (.int .i64) (.pair (.int .i64) .str)))))))).den} (h : (ET.sl false (.pair (.int .i64) (.pair (.int .i64) (.pair (.int .i64) (.sl false (.pair (.int .i64) (.pair (.int .i64) (.pair (.int .i64) .str)))))))).small a) : T_laws_eqBundleS (a, a) = some true := by
  have h1 : a.length ≤ 1048576 := h.1
  rw [e_T_laws_eqBundleS, eq_sl (L := L_laws_eqBundleS_1) (Nat.le_trans h1 (by decide)) (fun n i y hy => ?_) (fun n => ?_)]
  · simp
  · have hlt := (List.getElem?_eq_some_iff.1 hy).1
    rw [e_L_laws_eqBundleS_1]
    simp only [show ((i : Int) < (a.length : Int)) by omega, decide_true, cond_true, Int.natCast_nonneg, if_true, Int.toNat_natCast, hy, Option.bind_some, beq_self_eq_true, Bool.not_true, cond_false, q_eqBundle (h.2 y (List.mem_of_getElem? hy))]
    rw [wrap_ok (by omega) (by omega)]
  · rw [e_L_laws_eqBundleS_1]; simp
theorem q_eqEvent {x : (ET.pair (.int .i64) (.pair (.pair (.int .i64) (.sl false (.int .i64))) (.pair (.pair (.int .i64) (.pair (.int .i64) (.pair (.int .i64) .str))) (.sl false (.int .i64))))).den} (h : (ET.pair (.int .i64) (.pair (.pair (.int .i64) (.sl false (.int .i64))) (.pair (.pair (.int .i64) (.pair (.int .i64) (.pair (.int .i64) .str))) (.sl false (.int .i64))))).small x) : T_laws_eqEvent (x, x) = some true := by
  obtain ⟨a, ⟨b, c⟩, ⟨d, e, f, g⟩, h⟩ := x
  obtain ⟨h_a, ⟨h_b, h_c⟩, ⟨h_d, h_e, h_f, h_g⟩, h_h⟩ := h
  simp only [e_T_laws_eqEvent, q_eqRing ⟨h_b, h_c⟩, q_eqItem ⟨h_d, h_e, h_f, h_g⟩, q_eqIntS h_h, Option.bind_some, beq_self_eq_true, Bool.not_true, cond_false]
theorem q_eqEventS {a : (ET.sl false (.pair (.int .i64) (.pair (.pair (.int .i64) (.sl false (.int .i64))) (.pair (.pair (.int .i64) (.pair (.int .i64) (.pair (.int .i64) .str))) (.sl false (.int .i64)))))).den} (h : (ET.sl false (.pair (.int .i64) (.pair (.pair (.int .i64) (.sl false (.int .i64))) (.pair (.pair (.int .i64) (.pair (.int .i64) (.pair (.int .i64) .str))) (.sl false (.int .i64)))))).small a) : T_laws_eqEventS (a, a) = some true := by
  have h1 : a.length ≤ 1048576 := h.1
  rw [e_T_laws_eqEventS, eq_sl (L := L_laws_eqEventS_1) (Nat.le_trans h1 (by decide)) (fun n i y hy => ?_) (fun n => ?_)]
  · simp
  · have hlt := (List.getElem?_eq_some_iff.1 hy).1
    rw [e_L_laws_eqEventS_1]
    simp only [show ((i : Int) < (a.length : Int)) by omega, decide_true, cond_true, Int.natCast_nonneg, if_true, Int.toNat_natCast, hy, Option.bind_some, beq_self_eq_true, Bool.not_true, cond_false, q_eqEvent (h.2 y (List.mem_of_getElem? hy))]
    rw [wrap_ok (by omega) (by omega)]
  · rw [e_L_laws_eqEventS_1]; simp
theorem q_eqDaemon {x : (ET.pair (.int .i64) (.pair .bool (.pair (.pair (.int .i64) (.pair (.pair (.int .i64) (.sl false (.int .i64))) (.pair (.sl false (.pair (.int .i64) (.pair (.int .i64) (.pair (.int .i64) .str)))) (.pair (.sl false (.int .i64)) (.pair (.sl false .str) (.pair (.int .i64) (.pair (.int .i64) (.pair (.int .i64) (.pair (.int .i64) (.pair (.int .i64) (.pair (.int .i64) (.pair (.int .i64) (.pair (.int .i64) (.pair (.int .i64) (.sl false (.int .i64)))))))))))))))) (.pair (.int .i64) (.pair (.int .i64) (.pair (.pair (.int .i64) (.sl false (.int .i64))) (.pair (.sl false (.pair (.int .i64) (.pair (.int .i64) (.pair (.int .i64) (.sl false (.pair (.int .i64) (.pair (.int .i64) (.pair (.int .i64) .str)))))))) (.sl false (.pair (.int .i64) (.pair (.pair (.int .i64) (.sl false (.int .i64))) (.pair (.pair (.int .i64) (.pair (.int .i64) (.pair (.int .i64) .str))) (.sl false (.int .i64))))))))))))).den} (h : (ET.pair (.int .i64) (.pair .bool (.pair (.pair (.int .i64) (.pair (.pair (.int .i64) (.sl false (.int .i64))) (.pair (.sl false (.pair (.int .i64) (.pair (.int .i64) (.pair (.int .i64) .str)))) (.pair (.sl false (.int .i64)) (.pair (.sl false .str) (.pair (.int .i64) (.pair (.int .i64) (.pair (.int .i64) (.pair (.int .i64) (.pair (.int .i64) (.pair (.int .i64) (.pair (.int .i64) (.pair (.int .i64) (.pair (.int .i64) (.sl false (.int .i64)))))))))))))))) (.pair (.int .i64) (.pair (.int .i64) (.pair (.pair (.int .i64) (.sl false (.int .i64))) (.pair (.sl false (.pair (.int .i64) (.pair (.int .i64) (.pair (.int .i64) (.sl false (.pair (.int .i64) (.pair (.int .i64) (.pair (.int .i64) .str)))))))) (.sl false (.pair (.int .i64) (.pair (.pair (.int .i64) (.sl false (.int .i64))) (.pair (.pair (.int .i64) (.pair (.int .i64) (.pair (.int .i64) .str))) (.sl false (.int .i64))))))))))))).small x) : T_laws_eqDaemon (x, x) = some true := by
  obtain ⟨a, b, ⟨c, ⟨d, e⟩, f, g, h, i, j, k, l, m, o, p, q, r, s⟩, t, u, ⟨v, w⟩, x, y⟩ := x
  obtain ⟨h_a, h_b, ⟨h_c, ⟨h_d, h_e⟩, h_f, h_g, h_h, h_i, h_j, h_k, h_l, h_m, h_o, h_p, h_q, h_r, h_s⟩, h_t, h_u, ⟨h_v, h_w⟩, h_x, h_y⟩ := h
  simp only [e_T_laws_eqDaemon, q_eqMate ⟨h_c, ⟨h_d, h_e⟩, h_f, h_g, h_h, h_i, h_j, h_k, h_l, h_m, h_o, h_p, h_q, h_r, h_s⟩, q_eqRing ⟨h_v, h_w⟩, q_eqBundleS h_x, q_eqEventS h_y, Option.bind_some, beq_self_eq_true, Bool.not_true, cond_false]
theorem q_eqDaemonS {a : (ET.sl false (.pair (.int .i64) (.pair .bool (.pair (.pair (.int .i64) (.pair (.pair (.int .i64) (.sl false (.int .i64))) (.pair (.sl false (.pair (.int .i64) (.pair (.int .i64) (.pair (.int .i64) .str)))) (.pair (.sl false (.int .i64)) (.pair (.sl false .str) (.pair (.int .i64) (.pair (.int .i64) (.pair (.int .i64) (.pair (.int .i64) (.pair (.int .i64) (.pair (.int .i64) (.pair (.int .i64) (.pair (.int .i64) (.pair (.int .i64) (.sl false (.int .i64)))))))))))))))) (.pair (.int .i64) (.pair (.int .i64) (.pair (.pair (.int .i64) (.sl false (.int .i64))) (.pair (.sl false (.pair (.int .i64) (.pair (.int .i64) (.pair (.int .i64) (.sl false (.pair (.int .i64) (.pair (.int .i64) (.pair (.int .i64) .str)))))))) (.sl false (.pair (.int .i64) (.pair (.pair (.int .i64) (.sl false (.int .i64))) (.pair (.pair (.int .i64) (.pair (.int .i64) (.pair (.int .i64) .str))) (.sl false (.int .i64)))))))))))))).den} (h : (ET.sl false (.pair (.int .i64) (.pair .bool (.pair (.pair (.int .i64) (.pair (.pair (.int .i64) (.sl false (.int .i64))) (.pair (.sl false (.pair (.int .i64) (.pair (.int .i64) (.pair (.int .i64) .str)))) (.pair (.sl false (.int .i64)) (.pair (.sl false .str) (.pair (.int .i64) (.pair (.int .i64) (.pair (.int .i64) (.pair (.int .i64) (.pair (.int .i64) (.pair (.int .i64) (.pair (.int .i64) (.pair (.int .i64) (.pair (.int .i64) (.sl false (.int .i64)))))))))))))))) (.pair (.int .i64) (.pair (.int .i64) (.pair (.pair (.int .i64) (.sl false (.int .i64))) (.pair (.sl false (.pair (.int .i64) (.pair (.int .i64) (.pair (.int .i64) (.sl false (.pair (.int .i64) (.pair (.int .i64) (.pair (.int .i64) .str)))))))) (.sl false (.pair (.int .i64) (.pair (.pair (.int .i64) (.sl false (.int .i64))) (.pair (.pair (.int .i64) (.pair (.int .i64) (.pair (.int .i64) .str))) (.sl false (.int .i64)))))))))))))).small a) : T_laws_eqDaemonS (a, a) = some true := by
  have h1 : a.length ≤ 1048576 := h.1
  rw [e_T_laws_eqDaemonS, eq_sl (L := L_laws_eqDaemonS_1) (Nat.le_trans h1 (by decide)) (fun n i y hy => ?_) (fun n => ?_)]
  · simp
  · have hlt := (List.getElem?_eq_some_iff.1 hy).1
    rw [e_L_laws_eqDaemonS_1]
    simp only [show ((i : Int) < (a.length : Int)) by omega, decide_true, cond_true, Int.natCast_nonneg, if_true, Int.toNat_natCast, hy, Option.bind_some, beq_self_eq_true, Bool.not_true, cond_false, q_eqDaemon (h.2 y (List.mem_of_getElem? hy))]
    rw [wrap_ok (by omega) (by omega)]
  · rw [e_L_laws_eqDaemonS_1]; simp
theorem q_eqLetter {x : (ET.pair (.int .i64) (.pair (.int .i64) (.pair (.int .i64) (.pair (.pair (.int .i64) (.pair (.int .i64) (.pair (.int .i64) .str))) (.pair (.pair (.int .i64) (.pair (.int .i64) (.pair (.int .i64) (.pair (.int .i64) (.pair (.int .i64) (.sl false (.int .i64))))))) (.pair (.int .i64) (.pair (.int .i64) (.pair (.int .i64) (.sl false (.pair (.int .i64) (.pair (.int .i64) (.pair (.int .i64) .str)))))))))))).den} (h : (ET.pair (.int .i64) (.pair (.int .i64) (.pair (.int .i64) (.pair (.pair (.int .i64) (.pair (.int .i64) (.pair (.int .i64) .str))) (.pair (.pair (.int .i64) (.pair (.int .i64) (.pair (.int .i64) (.pair (.int .i64) (.pair (.int .i64) (.sl false (.int .i64))))))) (.pair (.int .i64) (.pair (.int .i64) (.pair (.int .i64) (.sl false (.pair (.int .i64) (.pair (.int .i64) (.pair (.int .i64) .str)))))))))))).small x) : T_laws_eqLetter (x, x) = some true := by
  obtain ⟨a, b, c, ⟨d, e, f, g⟩, ⟨h, i, j, k, l, m⟩, o, p, q, r⟩ := x
  obtain ⟨h_a, h_b, h_c, ⟨h_d, h_e, h_f, h_g⟩, ⟨h_h, h_i, h_j, h_k, h_l, h_m⟩, h_o, h_p, h_q, h_r⟩ := h
  simp only [e_T_laws_eqLetter, q_eqItem ⟨h_d, h_e, h_f, h_g⟩, q_eqToken ⟨h_h, h_i, h_j, h_k, h_l, h_m⟩, q_eqBundle ⟨h_o, h_p, h_q, h_r⟩, Option.bind_some, beq_self_eq_true, Bool.not_true, cond_false]
theorem q_eqLetterS {a : (ET.sl false (.pair (.int .i64) (.pair (.int .i64) (.pair (.int .i64) (.pair (.pair (.int .i64) (.pair (.int .i64) (.pair (.int .i64) .str))) (.pair (.pair (.int .i64) (.pair (.int .i64) (.pair (.int .i64) (.pair (.int .i64) (.pair (.int .i64) (.sl false (.int .i64))))))) (.pair (.int .i64) (.pair (.int .i64) (.pair (.int .i64) (.sl false (.pair (.int .i64) (.pair (.int .i64) (.pair (.int .i64) .str))))))))))))).den} (h : (ET.sl false (.pair (.int .i64) (.pair (.int .i64) (.pair (.int .i64) (.pair (.pair (.int .i64) (.pair (.int .i64) (.pair (.int .i64) .str))) (.pair (.pair (.int .i64) (.pair (.int .i64) (.pair (.int .i64) (.pair (.int .i64) (.pair (.int .i64) (.sl false (.int .i64))))))) (.pair (.int .i64) (.pair (.int .i64) (.pair (.int .i64) (.sl false (.pair (.int .i64) (.pair (.int .i64) (.pair (.int .i64) .str))))))))))))).small a) : T_laws_eqLetterS (a, a) = some true := by
  have h1 : a.length ≤ 1048576 := h.1
  rw [e_T_laws_eqLetterS, eq_sl (L := L_laws_eqLetterS_1) (Nat.le_trans h1 (by decide)) (fun n i y hy => ?_) (fun n => ?_)]
  · simp
  · have hlt := (List.getElem?_eq_some_iff.1 hy).1
    rw [e_L_laws_eqLetterS_1]
    simp only [show ((i : Int) < (a.length : Int)) by omega, decide_true, cond_true, Int.natCast_nonneg, if_true, Int.toNat_natCast, hy, Option.bind_some, beq_self_eq_true, Bool.not_true, cond_false, q_eqLetter (h.2 y (List.mem_of_getElem? hy))]
    rw [wrap_ok (by omega) (by omega)]
  · rw [e_L_laws_eqLetterS_1]; simp
theorem q_eqWorld {x : (ET.pair (.sl false (.pair (.int .i64) (.sl false (.int .i64)))) (.pair (.sl false (.pair (.int .i64) (.pair .bool (.pair (.pair (.int .i64) (.pair (.pair (.int .i64) (.sl false (.int .i64))) (.pair (.sl false (.pair (.int .i64) (.pair (.int .i64) (.pair (.int .i64) .str)))) (.pair (.sl false (.int .i64)) (.pair (.sl false .str) (.pair (.int .i64) (.pair (.int .i64) (.pair (.int .i64) (.pair (.int .i64) (.pair (.int .i64) (.pair (.int .i64) (.pair (.int .i64) (.pair (.int .i64) (.pair (.int .i64) (.sl false (.int .i64)))))))))))))))) (.pair (.int .i64) (.pair (.int .i64) (.pair (.pair (.int .i64) (.sl false (.int .i64))) (.pair (.sl false (.pair (.int .i64) (.pair (.int .i64) (.pair (.int .i64) (.sl false (.pair (.int .i64) (.pair (.int .i64) (.pair (.int .i64) .str)))))))) (.sl false (.pair (.int .i64) (.pair (.pair (.int .i64) (.sl false (.int .i64))) (.pair (.pair (.int .i64) (.pair (.int .i64) (.pair (.int .i64) .str))) (.sl false (.int .i64)))))))))))))) (.pair (.sl false (.pair (.int .i64) (.pair (.int .i64) (.pair (.int .i64) (.pair (.pair (.int .i64) (.pair (.int .i64) (.pair (.int .i64) .str))) (.pair (.pair (.int .i64) (.pair (.int .i64) (.pair (.int .i64) (.pair (.int .i64) (.pair (.int .i64) (.sl false (.int .i64))))))) (.pair (.int .i64) (.pair (.int .i64) (.pair (.int .i64) (.sl false (.pair (.int .i64) (.pair (.int .i64) (.pair (.int .i64) .str))))))))))))) (.sl false (.pair (.int .i64) (.pair (.pair (.int .i64) (.sl false (.int .i64))) (.pair (.pair (.int .i64) (.pair (.int .i64) (.pair (.int .i64) .str))) (.sl false (.int .i64))))))))).den} (h : (ET.pair (.sl false (.pair (.int .i64) (.sl false (.int .i64)))) (.pair (.sl false (.pair (.int .i64) (.pair .bool (.pair (.pair (.int .i64) (.pair (.pair (.int .i64) (.sl false (.int .i64))) (.pair (.sl false (.pair (.int .i64) (.pair (.int .i64) (.pair (.int .i64) .str)))) (.pair (.sl false (.int .i64)) (.pair (.sl false .str) (.pair (.int .i64) (.pair (.int .i64) (.pair (.int .i64) (.pair (.int .i64) (.pair (.int .i64) (.pair (.int .i64) (.pair (.int .i64) (.pair (.int .i64) (.pair (.int .i64) (.sl false (.int .i64)))))))))))))))) (.pair (.int .i64) (.pair (.int .i64) (.pair (.pair (.int .i64) (.sl false (.int .i64))) (.pair (.sl false (.pair (.int .i64) (.pair (.int .i64) (.pair (.int .i64) (.sl false (.pair (.int .i64) (.pair (.int .i64) (.pair (.int .i64) .str)))))))) (.sl false (.pair (.int .i64) (.pair (.pair (.int .i64) (.sl false (.int .i64))) (.pair (.pair (.int .i64) (.pair (.int .i64) (.pair (.int .i64) .str))) (.sl false (.int .i64)))))))))))))) (.pair (.sl false (.pair (.int .i64) (.pair (.int .i64) (.pair (.int .i64) (.pair (.pair (.int .i64) (.pair (.int .i64) (.pair (.int .i64) .str))) (.pair (.pair (.int .i64) (.pair (.int .i64) (.pair (.int .i64) (.pair (.int .i64) (.pair (.int .i64) (.sl false (.int .i64))))))) (.pair (.int .i64) (.pair (.int .i64) (.pair (.int .i64) (.sl false (.pair (.int .i64) (.pair (.int .i64) (.pair (.int .i64) .str))))))))))))) (.sl false (.pair (.int .i64) (.pair (.pair (.int .i64) (.sl false (.int .i64))) (.pair (.pair (.int .i64) (.pair (.int .i64) (.pair (.int .i64) .str))) (.sl false (.int .i64))))))))).small x) : T_laws_eqWorld (x, x) = some true := by
  obtain ⟨a, b, c, d⟩ := x
  obtain ⟨h_a, h_b, h_c, h_d⟩ := h
  simp only [e_T_laws_eqWorld, q_eqRingS h_a, q_eqDaemonS h_b, q_eqLetterS h_c, q_eqEventS h_d, Option.bind_some, beq_self_eq_true, Bool.not_true, cond_false]
theorem small_len {s : List UInt8} (h : ET.str.small s) : s.length ≤ maxLen := Nat.le_trans h (by decide)
theorem smallL_len {e : ET} {o : Bool} {s : List e.den} (h : (ET.sl o e).small s) : s.length ≤ maxLen := Nat.le_trans h.1 (by decide)
abbrev EventT := Int × (Int × List Int) × (Int × Int × Int × List UInt8) × List Int
abbrev DaemonT := Int × Bool × (Int × (Int × List Int) × List (Int × Int × Int × List UInt8) × List Int × List (List UInt8) × Int × Int × Int × Int × Int × Int × Int × Int × Int × List Int) × Int × Int × (Int × List Int) × List (Int × Int × Int × List (Int × Int × Int × List UInt8)) × List EventT
/-- A numbered event is this one. -/
def evNum (e y : EventT) : Bool := y.2.1.1 == e.2.1.1 && (y.2.2.1.1 == e.2.2.1.1 && (y.2.2.1.2.1 == e.2.2.1.2.1 && (y.2.2.1.2.2.1 == e.2.2.1.2.2.1 && (y.2.2.1.2.2.2 == e.2.2.1.2.2.2))))
def evSaid (d : List EventT) (e : EventT) : Bool := !(e.1 == 1) || d.any (evNum e)
theorem w_num {d : List EventT} (hd : d.length ≤ 1048576) (e : EventT) : T_impl_wasNumbered (d, e) = some (d.any (evNum e)) := by
  obtain ⟨e1, ⟨e2, e3⟩, ⟨e4, e5, e6, e7⟩, e8⟩ := e
  have h := runL_loop (L := L_slices_IndexFunc___impl_Event_impl_Event___impl_wasNumbered_1_1) d (fun (_ : Unit) c => (d, (e1, (e2, e3), (e4, e5, e6, e7), e8), (d.length : Int), c)) (fun _ => ()) (fun i y (_ : Unit) => bif evNum (e1, (e2, e3), (e4, e5, e6, e7), e8) y then .inr (i : Int) else .inl ()) (fun n s i y hy hi => by
    obtain ⟨y1, ⟨y2, y3⟩, ⟨y4, y5, y6, y7⟩, y8⟩ := y
    rw [e_L_slices_IndexFunc___impl_Event_impl_Event___impl_wasNumbered_1_1]
    simp only [show ((i : Int) < (d.length : Int)) by omega, decide_true, cond_true, Int.natCast_nonneg, if_true, Int.toNat_natCast, hy, Option.bind_some, wrap_ok (n := (i : Int) + 1) (by omega) (by omega), e_T_impl_wasNumbered_1, evNum, Bool.and_true]
    cases y2 == e2 <;> simp only [cond_true, cond_false, Option.bind_some, Bool.true_and, Bool.false_and, Sum.elim_inl]
    generalize (y4 == e4 && (y5 == e5 && (y6 == e6 && y7 == e7))) = q
    cases q <;> rfl) (fun n s => by rw [e_L_slices_IndexFunc___impl_Event_impl_Event___impl_wasNumbered_1_1]; simp) (by rw [maxLen_eq]; omega) ()
  rw [e_T_impl_wasNumbered, e_T_slices_ContainsFunc___impl_Event_impl_Event___impl_wasNumbered_1, e_T_slices_IndexFunc___impl_Event_impl_Event___impl_wasNumbered_1, h, runL_idx]
  cases hf : d.findIdx? (evNum (e1, (e2, e3), (e4, e5, e6, e7), e8)) with
  | none =>
    have : d.any (evNum (e1, (e2, e3), (e4, e5, e6, e7), e8)) = false := by
      rw [List.findIdx?_eq_none_iff] at hf
      rw [List.any_eq_false]
      intro x hx; simpa using hf x hx
    rw [this]; rfl
  | some i =>
    have : d.any (evNum (e1, (e2, e3), (e4, e5, e6, e7), e8)) = true := by
      rw [List.any_eq_true]
      obtain ⟨hi, h1, _⟩ := List.findIdx?_eq_some_iff_getElem.1 hf
      exact ⟨_, List.getElem_mem hi, h1⟩
    rw [this]
    simp
theorem sf_impl1 {a : List (Int × List Int)} {b : List DaemonT} {c : List (Int × Int × Int × (Int × Int × Int × List UInt8) × (Int × Int × Int × Int × Int × List Int) × Int × Int × Int × List (Int × Int × Int × List UInt8))} {d h : List EventT} {e : List DaemonT} {f g : Int} (hd : d.length ≤ 1048576) (hh : h.length ≤ 1048576) :
    L_impl_SaidFirst_1 fuel ((a, b, c, d), e, f, g, h, (h.length : Int), 0) = some (bif h.all (evSaid d) then .inl ((a, b, c, d), e, f, g) else .inr false) := by
  have h1 := runL_loop (L := L_impl_SaidFirst_1) h (fun (_ : Unit) j => ((a, b, c, d), e, f, g, h, (h.length : Int), j)) (fun _ => ((a, b, c, d), e, f, g)) (fun i y (_ : Unit) => bif evSaid d y then .inl () else .inr false) (fun n s i y hy hi => by
    rw [e_L_impl_SaidFirst_1]
    simp only [show ((i : Int) < (h.length : Int)) by omega, decide_true, cond_true, Int.natCast_nonneg, if_true, Int.toNat_natCast, hy, Option.bind_some, wrap_ok (n := (i : Int) + 1) (by omega) (by omega), w_num hd, evSaid]
    have hw : IntKind.i64.wrap ((i : Int) + 1) = (i : Int) + 1 := wrap_ok (by omega) (by omega)
    cases y.1 == 1 <;> simp only [cond_true, cond_false, Option.bind_some, Sum.elim_inl, Bool.not_true, Bool.not_false, Bool.false_or, Bool.true_or, hw]
    cases d.any (evNum (y.fst, (y.snd.fst.fst, y.snd.fst.snd), (y.snd.snd.fst.fst, y.snd.snd.fst.snd.fst, y.snd.snd.fst.snd.snd.fst, y.snd.snd.fst.snd.snd.snd), y.snd.snd.snd)) <;> rfl) (fun n s => by rw [e_L_impl_SaidFirst_1]; simp) (by rw [maxLen_eq]; omega) ()
  rw [h1, runL_all]
  cases h.all (evSaid d) <;> rfl
theorem sf_spec1 {a : List (Int × List Int)} {b : List DaemonT} {c : List (Int × Int × Int × (Int × Int × Int × List UInt8) × (Int × Int × Int × Int × Int × List Int) × Int × Int × Int × List (Int × Int × Int × List UInt8))} {d f : List EventT} {e : Int} {g : Nat} {y : EventT} (hg : f[g]? = some y) {h : Bool} (hd : d.length ≤ 1048576) :
    L_spec_SaidFirst_1 fuel ((a, b, c, d), e, f, (g : Int), h, 0) = some (.inl ((a, b, c, d), e, f, (g : Int), h || d.any (evNum y))) := by
  have h1 := runL_loop (L := L_spec_SaidFirst_1) d (fun (h : Bool) i => ((a, b, c, d), e, f, (g : Int), h, i)) (fun h => ((a, b, c, d), e, f, (g : Int), h)) (fun i z (h : Bool) => .inl (h || evNum y z)) (fun n s i z hz hi => by
    rw [e_L_spec_SaidFirst_1]
    simp only [show ((i : Int) < (d.length : Int)) by omega, decide_true, cond_true, Int.natCast_nonneg, if_true, Int.toNat_natCast, hz, hg, Option.bind_some, wrap_ok (n := (i : Int) + 1) (by omega) (by omega), evNum, Bool.and_true]
    have hw : IntKind.i64.wrap ((i : Int) + 1) = (i : Int) + 1 := wrap_ok (by omega) (by omega)
    cases s <;> cases z.2.1.1 == y.2.1.1 <;> simp only [cond_true, cond_false, Option.bind_some, Sum.elim_inl, Bool.true_or, Bool.false_or, Bool.true_and, Bool.false_and, hw]) (fun n s => by rw [e_L_spec_SaidFirst_1]; simp) (by rw [maxLen_eq]; omega) h
  rw [h1, runL_fold, fold_or]; rfl
theorem sf_spec2 {a : List (Int × List Int)} {b : List DaemonT} {c : List (Int × Int × Int × (Int × Int × Int × List UInt8) × (Int × Int × Int × Int × Int × List Int) × Int × Int × Int × List (Int × Int × Int × List UInt8))} {d f : List EventT} {e : Int} (hd : d.length ≤ 1048576) (hf : f.length ≤ 1048576) :
    L_spec_SaidFirst_2 fuel ((a, b, c, d), e, f, 0) = some (bif f.all (evSaid d) then .inl ((a, b, c, d), e) else .inr false) := by
  have h1 := runL_loop (L := L_spec_SaidFirst_2) f (fun (_ : Unit) g => ((a, b, c, d), e, f, g)) (fun _ => ((a, b, c, d), e)) (fun i y (_ : Unit) => bif evSaid d y then .inl () else .inr false) (fun n s i y hy hi => by
    rw [e_L_spec_SaidFirst_2]
    simp only [show ((i : Int) < (f.length : Int)) by omega, decide_true, cond_true, Int.natCast_nonneg, if_true, Int.toNat_natCast, hy, Option.bind_some, wrap_ok (n := (i : Int) + 1) (by omega) (by omega)]
    rw [sf_spec1 hy hd]
    have hw : IntKind.i64.wrap ((i : Int) + 1) = (i : Int) + 1 := wrap_ok (by omega) (by omega)
    simp only [Option.bind_some, Sum.elim_inl, evSaid, hw]
    generalize (!(y.1 == 1) || d.any (evNum y)) = q
    cases q <;> rfl) (fun n s => by rw [e_L_spec_SaidFirst_2]; simp) (by rw [maxLen_eq]; omega) ()
  rw [h1, runL_all]
  cases f.all (evSaid d) <;> rfl
theorem x_SaidFirst {a : List (Int × List Int)} {b : List DaemonT} {c : List (Int × Int × Int × (Int × Int × Int × List UInt8) × (Int × Int × Int × Int × Int × List Int) × Int × Int × Int × List (Int × Int × Int × List UInt8))} {d : List EventT} (hb : b.length ≤ 1048576) (hl : ∀ y ∈ b, List.length y.2.2.2.2.2.2.2 ≤ 1048576) (hd : d.length ≤ 1048576) :
    ∃ v, T_spec_SaidFirst (a, b, c, d) = some v ∧ T_impl_SaidFirst (a, b, c, d) = some v := by
  refine ⟨b.all fun y => y.2.2.2.2.2.2.2.all (evSaid d), ?_, ?_⟩
  · rw [e_T_spec_SaidFirst]
    have h1 := runL_loop (L := L_spec_SaidFirst_3) b (fun (_ : Unit) e => ((a, b, c, d), e)) (fun _ => ()) (fun i y (_ : Unit) => bif y.2.2.2.2.2.2.2.all (evSaid d) then .inl () else .inr false) (fun n s i y hy hi => by
      rw [e_L_spec_SaidFirst_3]
      simp only [show ((i : Int) < (b.length : Int)) by omega, decide_true, cond_true, Int.natCast_nonneg, if_true, Int.toNat_natCast, hy, Option.bind_some, wrap_ok (n := (i : Int) + 1) (by omega) (by omega)]
      rw [sf_spec2 hd (hl y (List.mem_of_getElem? hy))]
      have hw : IntKind.i64.wrap ((i : Int) + 1) = (i : Int) + 1 := wrap_ok (by omega) (by omega)
      cases List.all y.2.2.2.2.2.2.2 (evSaid d) <;> simp only [cond_true, cond_false, Option.bind_some, Sum.elim_inl, Sum.elim_inr, hw]) (fun n s => by rw [e_L_spec_SaidFirst_3]; simp) (by rw [maxLen_eq]; omega) ()
    rw [h1, runL_all]
    cases b.all fun y => y.2.2.2.2.2.2.2.all (evSaid d) <;> rfl
  · rw [e_T_impl_SaidFirst]
    have h1 := runL_loop (L := L_impl_SaidFirst_2) b (fun (_ : Unit) e => ((a, b, c, d), b, (b.length : Int), e)) (fun _ => ()) (fun i y (_ : Unit) => bif y.2.2.2.2.2.2.2.all (evSaid d) then .inl () else .inr false) (fun n s i y hy hi => by
      rw [e_L_impl_SaidFirst_2]
      simp only [show ((i : Int) < (b.length : Int)) by omega, decide_true, cond_true, Int.natCast_nonneg, if_true, Int.toNat_natCast, hy, Option.bind_some, wrap_ok (n := (i : Int) + 1) (by omega) (by omega)]
      rw [sf_impl1 hd (hl y (List.mem_of_getElem? hy))]
      have hw : IntKind.i64.wrap ((i : Int) + 1) = (i : Int) + 1 := wrap_ok (by omega) (by omega)
      cases List.all y.2.2.2.2.2.2.2 (evSaid d) <;> simp only [cond_true, cond_false, Option.bind_some, Sum.elim_inl, Sum.elim_inr, hw]) (fun n s => by rw [e_L_impl_SaidFirst_2]; simp) (by rw [maxLen_eq]; omega) ()
    rw [h1, runL_all]
    cases b.all fun y => y.2.2.2.2.2.2.2.all (evSaid d) <;> rfl
theorem law_FnExactSaidFirst (w : List (Int × List Int) × List DaemonT × List (Int × Int × Int × (Int × Int × Int × List UInt8) × (Int × Int × Int × Int × Int × List Int) × Int × Int × Int × List (Int × Int × Int × List UInt8)) × List EventT) (h : okL (fn_laws_FnExactSaidFirst).args w) : T_laws_FnExactSaidFirst w = some true := by
  obtain ⟨r, h1, h2, h3⟩ := z_szWorld w 1048576 h (by decide) (by decide)
  obtain ⟨a, b, c, d⟩ := w
  rw [e_T_laws_FnExactSaidFirst, h1]
  simp only [Option.bind_some]
  by_cases hr : r < 0
  · simp [hr]
  · have hs := h3 (by omega)
    have hs' := hs
    obtain ⟨_, hb, _, hd⟩ := hs'
    obtain ⟨v, h4, h5⟩ := x_SaidFirst (a := a) (c := c) hb.1 (fun y hy => (hb.2 y hy).2.2.2.2.2.2.2.1) hd.1
    simp only [hr, decide_false, cond_false, c_toWorld hs, Option.bind_some, h4, h5, q_eqWorld hs, beq_self_eq_true, Bool.not_true]
end Xs
end Go.Proofs.Ytlblgfhdndpmfaa
