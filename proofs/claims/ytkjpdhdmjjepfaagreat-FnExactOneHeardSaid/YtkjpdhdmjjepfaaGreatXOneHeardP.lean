/- What the reference's function answers, and the program's: the same. -/
import Derived.Test.YtkjpdhdmjjepfaaGreatT9
import Derived.Test.YtkjpdhdmjjepfaaGreatXOneHeardE
namespace Go.Proofs.YtkjpdhdmjjepfaaGreat
open Go Vm
set_option linter.unusedVariables false
set_option linter.unusedSimpArgs false
namespace Xs
theorem z_szIntS : SzOk (.sl false (.int .i64)) T_laws_szIntS :=
  sz_flat (e := (.int .i64)) (fun _ => trivial) e_T_laws_szIntS
theorem z_szRing : SzOk (.pair (.int .i64) (.sl false (.int .i64))) T_laws_szRing := by
  rintro ⟨a, b⟩ n ⟨h_a, h_b⟩ h0 hn
  rw [e_T_laws_szRing]
  refine Sz.call z_szIntS h_b (by omega) (by omega) (by omega) fun r1 p1 q1 s1 => ?_
  exact Sz.fin (by omega) ⟨trivial, s1⟩
theorem z_szRingS : SzOk (.sl false (.pair (.int .i64) (.sl false (.int .i64)))) T_laws_szRingS :=
  sz_sl (e := (.pair (.int .i64) (.sl false (.int .i64)))) (fun y b => T_laws_szRing (y, b)) e_T_laws_szRingS e_L_laws_szRingS_1 z_szRing
theorem z_szItem : SzOk (.pair (.int .i64) (.pair (.int .i64) (.pair (.int .i64) .str))) T_laws_szItem := by
  rintro ⟨a, b, c, d⟩ n ⟨h_a, h_b, h_c, h_d⟩ h0 hn
  rw [e_T_laws_szItem]
  refine Sz.str h_d (by omega) (by omega) (by omega) fun p1 w1 s_d => ?_
  try rw [w1]
  exact Sz.fin (by omega) ⟨trivial, trivial, trivial, s_d⟩
theorem z_szItemS : SzOk (.sl false (.pair (.int .i64) (.pair (.int .i64) (.pair (.int .i64) .str)))) T_laws_szItemS :=
  sz_sl (e := (.pair (.int .i64) (.pair (.int .i64) (.pair (.int .i64) .str)))) (fun y b => T_laws_szItem (y, b)) e_T_laws_szItemS e_L_laws_szItemS_1 z_szItem
theorem z_szStringS : SzOk (.sl false .str) T_laws_szStringS :=
  sz_sl (e := .str) (fun y b => some (IntKind.i64.wrap (b - (y.length : Int)))) e_T_laws_szStringS e_L_laws_szStringS_1 sz_str
theorem z_szToken : SzOk (.pair (.int .i64) (.pair (.int .i64) (.pair (.int .i64) (.pair (.int .i64) (.pair (.int .i64) (.sl false (.int .i64))))))) T_laws_szToken := by
  rintro ⟨a, b, c, d, e, f⟩ n ⟨h_a, h_b, h_c, h_d, h_e, h_f⟩ h0 hn
  rw [e_T_laws_szToken]
  refine Sz.call z_szIntS h_f (by omega) (by omega) (by omega) fun r1 p1 q1 s1 => ?_
  exact Sz.fin (by omega) ⟨trivial, trivial, trivial, trivial, trivial, s1⟩
theorem z_szMate : SzOk (.pair (.int .i64) (.pair (.pair (.int .i64) (.sl false (.int .i64))) (.pair (.sl false (.pair (.int .i64) (.pair (.int .i64) (.pair (.int .i64) .str)))) (.pair (.sl false (.int .i64)) (.pair (.sl false .str) (.pair (.int .i64) (.pair (.int .i64) (.pair (.int .i64) (.pair (.int .i64) (.pair (.int .i64) (.pair (.int .i64) (.pair (.int .i64) (.pair (.int .i64) (.pair (.int .i64) (.sl false (.int .i64)))))))))))))))) T_laws_szMate := by
  rintro ⟨a, ⟨b, c⟩, d, e, f, g, h, i, j, k, l, m, o, p, q⟩ n ⟨h_a, ⟨h_b, h_c⟩, h_d, h_e, h_f, h_g, h_h, h_i, h_j, h_k, h_l, h_m, h_o, h_p, h_q⟩ h0 hn
  rw [e_T_laws_szMate]
  refine Sz.call z_szRing ⟨h_b, h_c⟩ (by omega) (by omega) (by omega) fun r1 p1 q1 s1 => ?_
  refine Sz.call z_szItemS h_d (by omega) (by omega) (by omega) fun r2 p2 q2 s2 => ?_
  refine Sz.call z_szIntS h_e (by omega) (by omega) (by omega) fun r3 p3 q3 s3 => ?_
  refine Sz.call z_szStringS h_f (by omega) (by omega) (by omega) fun r4 p4 q4 s4 => ?_
  refine Sz.call z_szToken ⟨h_k, h_l, h_m, h_o, h_p, h_q⟩ (by omega) (by omega) (by omega) fun r5 p5 q5 s5 => ?_
  exact Sz.fin (by omega) ⟨trivial, s1, s2, s3, s4, trivial, trivial, trivial, trivial, s5⟩
theorem z_szBundle : SzOk (.pair (.int .i64) (.pair (.int .i64) (.pair (.int .i64) (.sl false (.pair (.int .i64) (.pair (.int .i64) (.pair (.int .i64) .str))))))) T_laws_szBundle := by
  rintro ⟨a, b, c, d⟩ n ⟨h_a, h_b, h_c, h_d⟩ h0 hn
  rw [e_T_laws_szBundle]
  refine Sz.call z_szItemS h_d (by omega) (by omega) (by omega) fun r1 p1 q1 s1 => ?_
  exact Sz.fin (by omega) ⟨trivial, trivial, trivial, s1⟩
theorem z_szBundleS : SzOk (.sl false (.pair (.int .i64) (.pair (.int .i64) (.pair (.int .i64) (.sl false (.pair (.int .i64) (.pair (.int .i64) (.pair (.int .i64) .str)))))))) T_laws_szBundleS :=
  sz_sl (e := (.pair (.int .i64) (.pair (.int .i64) (.pair (.int .i64) (.sl false (.pair (.int .i64) (.pair (.int .i64) (.pair (.int .i64) .str)))))))) (fun y b => T_laws_szBundle (y, b)) e_T_laws_szBundleS e_L_laws_szBundleS_1 z_szBundle
theorem z_szEvent : SzOk (.pair (.int .i64) (.pair (.pair (.int .i64) (.sl false (.int .i64))) (.pair (.pair (.int .i64) (.pair (.int .i64) (.pair (.int .i64) .str))) (.sl false (.int .i64))))) T_laws_szEvent := by
  rintro ⟨a, ⟨b, c⟩, ⟨d, e, f, g⟩, h⟩ n ⟨h_a, ⟨h_b, h_c⟩, ⟨h_d, h_e, h_f, h_g⟩, h_h⟩ h0 hn
  rw [e_T_laws_szEvent]
  refine Sz.call z_szRing ⟨h_b, h_c⟩ (by omega) (by omega) (by omega) fun r1 p1 q1 s1 => ?_
  refine Sz.call z_szItem ⟨h_d, h_e, h_f, h_g⟩ (by omega) (by omega) (by omega) fun r2 p2 q2 s2 => ?_
  refine Sz.call z_szIntS h_h (by omega) (by omega) (by omega) fun r3 p3 q3 s3 => ?_
  exact Sz.fin (by omega) ⟨trivial, s1, s2, s3⟩
theorem z_szEventS : SzOk (.sl false (.pair (.int .i64) (.pair (.pair (.int .i64) (.sl false (.int .i64))) (.pair (.pair (.int .i64) (.pair (.int .i64) (.pair (.int .i64) .str))) (.sl false (.int .i64)))))) T_laws_szEventS :=
  sz_sl (e := (.pair (.int .i64) (.pair (.pair (.int .i64) (.sl false (.int .i64))) (.pair (.pair (.int .i64) (.pair (.int .i64) (.pair (.int .i64) .str))) (.sl false (.int .i64)))))) (fun y b => T_laws_szEvent (y, b)) e_T_laws_szEventS e_L_laws_szEventS_1 z_szEvent
theorem z_szDaemon : SzOk (.pair (.int .i64) (.pair .bool (.pair (.pair (.int .i64) (.pair (.pair (.int .i64) (.sl false (.int .i64))) (.pair (.sl false (.pair (.int .i64) (.pair (.int .i64) (.pair (.int .i64) .str)))) (.pair (.sl false (.int .i64)) (.pair (.sl false .str) (.pair (.int .i64) (.pair (.int .i64) (.pair (.int .i64) (.pair (.int .i64) (.pair (.int .i64) (.pair (.int .i64) (.pair (.int .i64) (.pair (.int .i64) (.pair (.int .i64) (.sl false (.int .i64)))))))))))))))) (.pair (.int .i64) (.pair (.int .i64) (.pair (.pair (.int .i64) (.sl false (.int .i64))) (.pair (.sl false (.pair (.int .i64) (.pair (.int .i64) (.pair (.int .i64) (.sl false (.pair (.int .i64) (.pair (.int .i64) (.pair (.int .i64) .str)))))))) (.sl false (.pair (.int .i64) (.pair (.pair (.int .i64) (.sl false (.int .i64))) (.pair (.pair (.int .i64) (.pair (.int .i64) (.pair (.int .i64) .str))) (.sl false (.int .i64))))))))))))) T_laws_szDaemon := by
  rintro ⟨a, b, ⟨c, ⟨d, e⟩, f, g, h, i, j, k, l, m, o, p, q, r, s⟩, t, u, ⟨v, w⟩, x, y⟩ n ⟨h_a, h_b, ⟨h_c, ⟨h_d, h_e⟩, h_f, h_g, h_h, h_i, h_j, h_k, h_l, h_m, h_o, h_p, h_q, h_r, h_s⟩, h_t, h_u, ⟨h_v, h_w⟩, h_x, h_y⟩ h0 hn
  rw [e_T_laws_szDaemon]
  refine Sz.call z_szMate ⟨h_c, ⟨h_d, h_e⟩, h_f, h_g, h_h, h_i, h_j, h_k, h_l, h_m, h_o, h_p, h_q, h_r, h_s⟩ (by omega) (by omega) (by omega) fun r1 p1 q1 s1 => ?_
  refine Sz.call z_szRing ⟨h_v, h_w⟩ (by omega) (by omega) (by omega) fun r2 p2 q2 s2 => ?_
  refine Sz.call z_szBundleS h_x (by omega) (by omega) (by omega) fun r3 p3 q3 s3 => ?_
  refine Sz.call z_szEventS h_y (by omega) (by omega) (by omega) fun r4 p4 q4 s4 => ?_
  exact Sz.fin (by omega) ⟨trivial, trivial, s1, trivial, trivial, s2, s3, s4⟩
theorem z_szDaemonS : SzOk (.sl false (.pair (.int .i64) (.pair .bool (.pair (.pair (.int .i64) (.pair (.pair (.int .i64) (.sl false (.int .i64))) (.pair (.sl false (.pair (.int .i64) (.pair (.int .i64) (.pair (.int .i64) .str)))) (.pair (.sl false (.int .i64)) (.pair (.sl false .str) (.pair (.int .i64) (.pair (.int .i64) (.pair (.int .i64) (.pair (.int .i64) (.pair (.int .i64) (.pair (.int .i64) (.pair (.int .i64) (.pair (.int .i64) (.pair (.int .i64) (.sl false (.int .i64)))))))))))))))) (.pair (.int .i64) (.pair (.int .i64) (.pair (.pair (.int .i64) (.sl false (.int .i64))) (.pair (.sl false (.pair (.int .i64) (.pair (.int .i64) (.pair (.int .i64) (.sl false (.pair (.int .i64) (.pair (.int .i64) (.pair (.int .i64) .str)))))))) (.sl false (.pair (.int .i64) (.pair (.pair (.int .i64) (.sl false (.int .i64))) (.pair (.pair (.int .i64) (.pair (.int .i64) (.pair (.int .i64) .str))) (.sl false (.int .i64)))))))))))))) T_laws_szDaemonS :=
  sz_sl (e := (.pair (.int .i64) (.pair .bool (.pair (.pair (.int .i64) (.pair (.pair (.int .i64) (.sl false (.int .i64))) (.pair (.sl false (.pair (.int .i64) (.pair (.int .i64) (.pair (.int .i64) .str)))) (.pair (.sl false (.int .i64)) (.pair (.sl false .str) (.pair (.int .i64) (.pair (.int .i64) (.pair (.int .i64) (.pair (.int .i64) (.pair (.int .i64) (.pair (.int .i64) (.pair (.int .i64) (.pair (.int .i64) (.pair (.int .i64) (.sl false (.int .i64)))))))))))))))) (.pair (.int .i64) (.pair (.int .i64) (.pair (.pair (.int .i64) (.sl false (.int .i64))) (.pair (.sl false (.pair (.int .i64) (.pair (.int .i64) (.pair (.int .i64) (.sl false (.pair (.int .i64) (.pair (.int .i64) (.pair (.int .i64) .str)))))))) (.sl false (.pair (.int .i64) (.pair (.pair (.int .i64) (.sl false (.int .i64))) (.pair (.pair (.int .i64) (.pair (.int .i64) (.pair (.int .i64) .str))) (.sl false (.int .i64)))))))))))))) (fun y b => T_laws_szDaemon (y, b)) e_T_laws_szDaemonS e_L_laws_szDaemonS_1 z_szDaemon
theorem z_szLetter : SzOk (.pair (.int .i64) (.pair (.int .i64) (.pair (.int .i64) (.pair (.pair (.int .i64) (.pair (.int .i64) (.pair (.int .i64) .str))) (.pair (.pair (.int .i64) (.pair (.int .i64) (.pair (.int .i64) (.pair (.int .i64) (.pair (.int .i64) (.sl false (.int .i64))))))) (.pair (.int .i64) (.pair (.int .i64) (.pair (.int .i64) (.sl false (.pair (.int .i64) (.pair (.int .i64) (.pair (.int .i64) .str)))))))))))) T_laws_szLetter := by
  rintro ⟨a, b, c, ⟨d, e, f, g⟩, ⟨h, i, j, k, l, m⟩, o, p, q, r⟩ n ⟨h_a, h_b, h_c, ⟨h_d, h_e, h_f, h_g⟩, ⟨h_h, h_i, h_j, h_k, h_l, h_m⟩, h_o, h_p, h_q, h_r⟩ h0 hn
  rw [e_T_laws_szLetter]
  refine Sz.call z_szItem ⟨h_d, h_e, h_f, h_g⟩ (by omega) (by omega) (by omega) fun r1 p1 q1 s1 => ?_
  refine Sz.call z_szToken ⟨h_h, h_i, h_j, h_k, h_l, h_m⟩ (by omega) (by omega) (by omega) fun r2 p2 q2 s2 => ?_
  refine Sz.call z_szBundle ⟨h_o, h_p, h_q, h_r⟩ (by omega) (by omega) (by omega) fun r3 p3 q3 s3 => ?_
  exact Sz.fin (by omega) ⟨trivial, trivial, trivial, s1, s2, s3⟩
theorem z_szLetterS : SzOk (.sl false (.pair (.int .i64) (.pair (.int .i64) (.pair (.int .i64) (.pair (.pair (.int .i64) (.pair (.int .i64) (.pair (.int .i64) .str))) (.pair (.pair (.int .i64) (.pair (.int .i64) (.pair (.int .i64) (.pair (.int .i64) (.pair (.int .i64) (.sl false (.int .i64))))))) (.pair (.int .i64) (.pair (.int .i64) (.pair (.int .i64) (.sl false (.pair (.int .i64) (.pair (.int .i64) (.pair (.int .i64) .str))))))))))))) T_laws_szLetterS :=
  sz_sl (e := (.pair (.int .i64) (.pair (.int .i64) (.pair (.int .i64) (.pair (.pair (.int .i64) (.pair (.int .i64) (.pair (.int .i64) .str))) (.pair (.pair (.int .i64) (.pair (.int .i64) (.pair (.int .i64) (.pair (.int .i64) (.pair (.int .i64) (.sl false (.int .i64))))))) (.pair (.int .i64) (.pair (.int .i64) (.pair (.int .i64) (.sl false (.pair (.int .i64) (.pair (.int .i64) (.pair (.int .i64) .str))))))))))))) (fun y b => T_laws_szLetter (y, b)) e_T_laws_szLetterS e_L_laws_szLetterS_1 z_szLetter
theorem z_szWorld : SzOk (.pair (.sl false (.pair (.int .i64) (.sl false (.int .i64)))) (.pair (.sl false (.pair (.int .i64) (.pair .bool (.pair (.pair (.int .i64) (.pair (.pair (.int .i64) (.sl false (.int .i64))) (.pair (.sl false (.pair (.int .i64) (.pair (.int .i64) (.pair (.int .i64) .str)))) (.pair (.sl false (.int .i64)) (.pair (.sl false .str) (.pair (.int .i64) (.pair (.int .i64) (.pair (.int .i64) (.pair (.int .i64) (.pair (.int .i64) (.pair (.int .i64) (.pair (.int .i64) (.pair (.int .i64) (.pair (.int .i64) (.sl false (.int .i64)))))))))))))))) (.pair (.int .i64) (.pair (.int .i64) (.pair (.pair (.int .i64) (.sl false (.int .i64))) (.pair (.sl false (.pair (.int .i64) (.pair (.int .i64) (.pair (.int .i64) (.sl false (.pair (.int .i64) (.pair (.int .i64) (.pair (.int .i64) .str)))))))) (.sl false (.pair (.int .i64) (.pair (.pair (.int .i64) (.sl false (.int .i64))) (.pair (.pair (.int .i64) (.pair (.int .i64) (.pair (.int .i64) .str))) (.sl false (.int .i64)))))))))))))) (.pair (.sl false (.pair (.int .i64) (.pair (.int .i64) (.pair (.int .i64) (.pair (.pair (.int .i64) (.pair (.int .i64) (.pair (.int .i64) .str))) (.pair (.pair (.int .i64) (.pair (.int .i64) (.pair (.int .i64) (.pair (.int .i64) (.pair (.int .i64) (.sl false (.int .i64))))))) (.pair (.int .i64) (.pair (.int .i64) (.pair (.int .i64) (.sl false (.pair (.int .i64) (.pair (.int .i64) (.pair (.int .i64) .str))))))))))))) (.sl false (.pair (.int .i64) (.pair (.pair (.int .i64) (.sl false (.int .i64))) (.pair (.pair (.int .i64) (.pair (.int .i64) (.pair (.int .i64) .str))) (.sl false (.int .i64))))))))) T_laws_szWorld := by
  rintro ⟨a, b, c, d⟩ n ⟨h_a, h_b, h_c, h_d⟩ h0 hn
  rw [e_T_laws_szWorld]
  refine Sz.call z_szRingS h_a (by omega) (by omega) (by omega) fun r1 p1 q1 s1 => ?_
  refine Sz.call z_szDaemonS h_b (by omega) (by omega) (by omega) fun r2 p2 q2 s2 => ?_
  refine Sz.call z_szLetterS h_c (by omega) (by omega) (by omega) fun r3 p3 q3 s3 => ?_
  refine Sz.call z_szEventS h_d (by omega) (by omega) (by omega) fun r4 p4 q4 s4 => ?_
  exact Sz.fin (by omega) ⟨s1, s2, s3, s4⟩
theorem z_szReader : SzOk (.pair .str .bool) T_laws_szReader := by
  rintro ⟨a, b⟩ n ⟨h_a, h_b⟩ h0 hn
  rw [e_T_laws_szReader]
  refine Sz.str h_a (by omega) (by omega) (by omega) fun p1 w1 s_a => ?_
  try rw [w1]
  exact Sz.fin (by omega) ⟨s_a, trivial⟩
theorem z_szSession : SzOk (.pair (.int .i64) (.pair .str (.pair (.pair .str .bool) (.pair .bool (.sl false .str))))) T_laws_szSession := by
  rintro ⟨a, b, ⟨c, d⟩, e, f⟩ n ⟨h_a, h_b, ⟨h_c, h_d⟩, h_e, h_f⟩ h0 hn
  rw [e_T_laws_szSession]
  refine Sz.str h_b (by omega) (by omega) (by omega) fun p1 w1 s_b => ?_
  try rw [w1]
  refine Sz.call z_szReader ⟨h_c, h_d⟩ (by omega) (by omega) (by omega) fun r2 p2 q2 s2 => ?_
  refine Sz.call z_szStringS h_f (by omega) (by omega) (by omega) fun r3 p3 q3 s3 => ?_
  exact Sz.fin (by omega) ⟨trivial, s_b, s2, trivial, s3⟩
theorem z_szBox : SzOk (.pair .str (.pair (.sl false .str) .bool)) T_laws_szBox := by
  rintro ⟨a, b, c⟩ n ⟨h_a, h_b, h_c⟩ h0 hn
  rw [e_T_laws_szBox]
  refine Sz.str h_a (by omega) (by omega) (by omega) fun p1 w1 s_a => ?_
  try rw [w1]
  refine Sz.call z_szStringS h_b (by omega) (by omega) (by omega) fun r2 p2 q2 s2 => ?_
  exact Sz.fin (by omega) ⟨s_a, s2, trivial⟩
theorem z_szCaller : SzOk (.pair (.pair (.int .i64) (.pair .str (.pair (.pair .str .bool) (.pair .bool (.sl false .str))))) (.pair (.pair .str (.pair (.sl false .str) .bool)) (.pair .str (.sl false .str)))) T_laws_szCaller := by
  rintro ⟨⟨a, b, ⟨c, d⟩, e, f⟩, ⟨g, h, i⟩, j, k⟩ n ⟨⟨h_a, h_b, ⟨h_c, h_d⟩, h_e, h_f⟩, ⟨h_g, h_h, h_i⟩, h_j, h_k⟩ h0 hn
  rw [e_T_laws_szCaller]
  refine Sz.call z_szSession ⟨h_a, h_b, ⟨h_c, h_d⟩, h_e, h_f⟩ (by omega) (by omega) (by omega) fun r1 p1 q1 s1 => ?_
  refine Sz.call z_szBox ⟨h_g, h_h, h_i⟩ (by omega) (by omega) (by omega) fun r2 p2 q2 s2 => ?_
  refine Sz.str h_j (by omega) (by omega) (by omega) fun p3 w3 s_j => ?_
  try rw [w3]
  refine Sz.call z_szStringS h_k (by omega) (by omega) (by omega) fun r4 p4 q4 s4 => ?_
  exact Sz.fin (by omega) ⟨s1, s2, s_j, s4⟩
theorem z_szCallerS : SzOk (.sl false (.pair (.pair (.int .i64) (.pair .str (.pair (.pair .str .bool) (.pair .bool (.sl false .str))))) (.pair (.pair .str (.pair (.sl false .str) .bool)) (.pair .str (.sl false .str))))) T_laws_szCallerS :=
  sz_sl (e := (.pair (.pair (.int .i64) (.pair .str (.pair (.pair .str .bool) (.pair .bool (.sl false .str))))) (.pair (.pair .str (.pair (.sl false .str) .bool)) (.pair .str (.sl false .str))))) (fun y b => T_laws_szCaller (y, b)) e_T_laws_szCallerS e_L_laws_szCallerS_1 z_szCaller
theorem z_szGroup : SzOk (.pair .str (.sl false .str)) T_laws_szGroup := by
  rintro ⟨a, b⟩ n ⟨h_a, h_b⟩ h0 hn
  rw [e_T_laws_szGroup]
  refine Sz.str h_a (by omega) (by omega) (by omega) fun p1 w1 s_a => ?_
  try rw [w1]
  refine Sz.call z_szStringS h_b (by omega) (by omega) (by omega) fun r2 p2 q2 s2 => ?_
  exact Sz.fin (by omega) ⟨s_a, s2⟩
theorem z_szGroupS : SzOk (.sl false (.pair .str (.sl false .str))) T_laws_szGroupS :=
  sz_sl (e := (.pair .str (.sl false .str))) (fun y b => T_laws_szGroup (y, b)) e_T_laws_szGroupS e_L_laws_szGroupS_1 z_szGroup
theorem z_szTable : SzOk (.sl false (.pair .str (.sl false .str))) T_laws_szTable := by
  rintro a n h_a h0 hn
  rw [e_T_laws_szTable]
  refine Sz.call z_szGroupS h_a (by omega) (by omega) (by omega) fun r1 p1 q1 s1 => ?_
  exact Sz.fin (by omega) s1
theorem z_szTableS : SzOk (.sl false (.sl false (.pair .str (.sl false .str)))) T_laws_szTableS :=
  sz_sl (e := (.sl false (.pair .str (.sl false .str)))) (fun y b => T_laws_szTable (y, b)) e_T_laws_szTableS e_L_laws_szTableS_1 z_szTable
theorem z_szHall : SzOk (.pair (.pair (.sl false (.pair (.int .i64) (.sl false (.int .i64)))) (.pair (.sl false (.pair (.int .i64) (.pair .bool (.pair (.pair (.int .i64) (.pair (.pair (.int .i64) (.sl false (.int .i64))) (.pair (.sl false (.pair (.int .i64) (.pair (.int .i64) (.pair (.int .i64) .str)))) (.pair (.sl false (.int .i64)) (.pair (.sl false .str) (.pair (.int .i64) (.pair (.int .i64) (.pair (.int .i64) (.pair (.int .i64) (.pair (.int .i64) (.pair (.int .i64) (.pair (.int .i64) (.pair (.int .i64) (.pair (.int .i64) (.sl false (.int .i64)))))))))))))))) (.pair (.int .i64) (.pair (.int .i64) (.pair (.pair (.int .i64) (.sl false (.int .i64))) (.pair (.sl false (.pair (.int .i64) (.pair (.int .i64) (.pair (.int .i64) (.sl false (.pair (.int .i64) (.pair (.int .i64) (.pair (.int .i64) .str)))))))) (.sl false (.pair (.int .i64) (.pair (.pair (.int .i64) (.sl false (.int .i64))) (.pair (.pair (.int .i64) (.pair (.int .i64) (.pair (.int .i64) .str))) (.sl false (.int .i64)))))))))))))) (.pair (.sl false (.pair (.int .i64) (.pair (.int .i64) (.pair (.int .i64) (.pair (.pair (.int .i64) (.pair (.int .i64) (.pair (.int .i64) .str))) (.pair (.pair (.int .i64) (.pair (.int .i64) (.pair (.int .i64) (.pair (.int .i64) (.pair (.int .i64) (.sl false (.int .i64))))))) (.pair (.int .i64) (.pair (.int .i64) (.pair (.int .i64) (.sl false (.pair (.int .i64) (.pair (.int .i64) (.pair (.int .i64) .str))))))))))))) (.sl false (.pair (.int .i64) (.pair (.pair (.int .i64) (.sl false (.int .i64))) (.pair (.pair (.int .i64) (.pair (.int .i64) (.pair (.int .i64) .str))) (.sl false (.int .i64))))))))) (.pair (.sl false (.pair (.pair (.int .i64) (.pair .str (.pair (.pair .str .bool) (.pair .bool (.sl false .str))))) (.pair (.pair .str (.pair (.sl false .str) .bool)) (.pair .str (.sl false .str))))) (.pair (.sl false (.sl false (.pair .str (.sl false .str)))) (.sl false (.int .i64))))) T_laws_szHall := by
  rintro ⟨⟨a, b, c, d⟩, e, f, g⟩ n ⟨⟨h_a, h_b, h_c, h_d⟩, h_e, h_f, h_g⟩ h0 hn
  rw [e_T_laws_szHall]
  refine Sz.call z_szWorld ⟨h_a, h_b, h_c, h_d⟩ (by omega) (by omega) (by omega) fun r1 p1 q1 s1 => ?_
  refine Sz.call z_szCallerS h_e (by omega) (by omega) (by omega) fun r2 p2 q2 s2 => ?_
  refine Sz.call z_szTableS h_f (by omega) (by omega) (by omega) fun r3 p3 q3 s3 => ?_
  refine Sz.call z_szIntS h_g (by omega) (by omega) (by omega) fun r4 p4 q4 s4 => ?_
  exact Sz.fin (by omega) ⟨s1, s2, s3, s4⟩
theorem c_toIntS {a : (ET.sl false (.int .i64)).den} (h : (ET.sl false (.int .i64)).small a) : T_laws_toIntS a = some a := by
  have h1 : a.length ≤ 1048576 := h.1
  refine to_sl (L := L_laws_toIntS_1) 0 h1 ?_ (fun n b i y hy hi => ?_) (fun n b => ?_)
  · rw [e_T_laws_toIntS, if_pos ⟨by omega, rfl, by omega, by omega⟩]; rfl
  · have hlt := (List.getElem?_eq_some_iff.1 hy).1
    rw [e_L_laws_toIntS_1]
    simp only [show ((i : Int) < (a.length : Int)) by omega, decide_true, cond_true, Int.natCast_nonneg, if_true, Int.toNat_natCast, hy, Option.bind_some, hi, List.getElem?_eq_getElem hi]
    rw [wrap_ok (by omega) (by omega)]
  · rw [e_L_laws_toIntS_1]; simp
theorem c_toRing {x : (ET.pair (.int .i64) (.sl false (.int .i64))).den} (h : (ET.pair (.int .i64) (.sl false (.int .i64))).small x) : T_laws_toRing x = some x := by
  obtain ⟨a, b⟩ := x
  obtain ⟨h_a, h_b⟩ := h
  simp only [e_T_laws_toRing, c_toIntS h_b, Option.bind_some]
theorem c_toRingS {a : (ET.sl false (.pair (.int .i64) (.sl false (.int .i64)))).den} (h : (ET.sl false (.pair (.int .i64) (.sl false (.int .i64)))).small a) : T_laws_toRingS a = some a := by
  have h1 : a.length ≤ 1048576 := h.1
  refine to_sl (L := L_laws_toRingS_1) (0, []) h1 ?_ (fun n b i y hy hi => ?_) (fun n b => ?_)
  · rw [e_T_laws_toRingS, if_pos ⟨by omega, rfl, by omega, by omega⟩]; rfl
  · have hlt := (List.getElem?_eq_some_iff.1 hy).1
    rw [e_L_laws_toRingS_1]
    simp only [show ((i : Int) < (a.length : Int)) by omega, decide_true, cond_true, Int.natCast_nonneg, if_true, Int.toNat_natCast, hy, Option.bind_some, hi, List.getElem?_eq_getElem hi, c_toRing (h.2 y (List.mem_of_getElem? hy))]
    rw [wrap_ok (by omega) (by omega)]
  · rw [e_L_laws_toRingS_1]; simp
theorem c_toItem {x : (ET.pair (.int .i64) (.pair (.int .i64) (.pair (.int .i64) .str))).den} (h : (ET.pair (.int .i64) (.pair (.int .i64) (.pair (.int .i64) .str))).small x) : T_laws_toItem x = some x := by
  obtain ⟨a, b, c, d⟩ := x
  obtain ⟨h_a, h_b, h_c, h_d⟩ := h
  simp only [e_T_laws_toItem, Option.bind_some]
theorem c_toItemS {a : (ET.sl false (.pair (.int .i64) (.pair (.int .i64) (.pair (.int .i64) .str)))).den} (h : (ET.sl false (.pair (.int .i64) (.pair (.int .i64) (.pair (.int .i64) .str)))).small a) : T_laws_toItemS a = some a := by
  have h1 : a.length ≤ 1048576 := h.1
  refine to_sl (L := L_laws_toItemS_1) (0, 0, 0, []) h1 ?_ (fun n b i y hy hi => ?_) (fun n b => ?_)
  · rw [e_T_laws_toItemS, if_pos ⟨by omega, rfl, by omega, by omega⟩]; rfl
  · have hlt := (List.getElem?_eq_some_iff.1 hy).1
    rw [e_L_laws_toItemS_1]
    simp only [show ((i : Int) < (a.length : Int)) by omega, decide_true, cond_true, Int.natCast_nonneg, if_true, Int.toNat_natCast, hy, Option.bind_some, hi, List.getElem?_eq_getElem hi, c_toItem (h.2 y (List.mem_of_getElem? hy))]
    rw [wrap_ok (by omega) (by omega)]
  · rw [e_L_laws_toItemS_1]; simp
theorem c_toStringS {a : (ET.sl false (.str)).den} (h : (ET.sl false (.str)).small a) : T_laws_toStringS a = some a := by
  have h1 : a.length ≤ 1048576 := h.1
  refine to_sl (L := L_laws_toStringS_1) [] h1 ?_ (fun n b i y hy hi => ?_) (fun n b => ?_)
  · rw [e_T_laws_toStringS, if_pos ⟨by omega, rfl, by omega, by omega⟩]; rfl
  · have hlt := (List.getElem?_eq_some_iff.1 hy).1
    rw [e_L_laws_toStringS_1]
    simp only [show ((i : Int) < (a.length : Int)) by omega, decide_true, cond_true, Int.natCast_nonneg, if_true, Int.toNat_natCast, hy, Option.bind_some, hi, List.getElem?_eq_getElem hi]
    rw [wrap_ok (by omega) (by omega)]
  · rw [e_L_laws_toStringS_1]; simp
theorem c_toToken {x : (ET.pair (.int .i64) (.pair (.int .i64) (.pair (.int .i64) (.pair (.int .i64) (.pair (.int .i64) (.sl false (.int .i64))))))).den} (h : (ET.pair (.int .i64) (.pair (.int .i64) (.pair (.int .i64) (.pair (.int .i64) (.pair (.int .i64) (.sl false (.int .i64))))))).small x) : T_laws_toToken x = some x := by
  obtain ⟨a, b, c, d, e, f⟩ := x
  obtain ⟨h_a, h_b, h_c, h_d, h_e, h_f⟩ := h
  simp only [e_T_laws_toToken, c_toIntS h_f, Option.bind_some]
theorem c_toMate {x : (ET.pair (.int .i64) (.pair (.pair (.int .i64) (.sl false (.int .i64))) (.pair (.sl false (.pair (.int .i64) (.pair (.int .i64) (.pair (.int .i64) .str)))) (.pair (.sl false (.int .i64)) (.pair (.sl false .str) (.pair (.int .i64) (.pair (.int .i64) (.pair (.int .i64) (.pair (.int .i64) (.pair (.int .i64) (.pair (.int .i64) (.pair (.int .i64) (.pair (.int .i64) (.pair (.int .i64) (.sl false (.int .i64)))))))))))))))).den} (h : (ET.pair (.int .i64) (.pair (.pair (.int .i64) (.sl false (.int .i64))) (.pair (.sl false (.pair (.int .i64) (.pair (.int .i64) (.pair (.int .i64) .str)))) (.pair (.sl false (.int .i64)) (.pair (.sl false .str) (.pair (.int .i64) (.pair (.int .i64) (.pair (.int .i64) (.pair (.int .i64) (.pair (.int .i64) (.pair (.int .i64) (.pair (.int .i64) (.pair (.int .i64) (.pair (.int .i64) (.sl false (.int .i64)))))))))))))))).small x) : T_laws_toMate x = some x := by
  obtain ⟨a, ⟨b, c⟩, d, e, f, g, h, i, j, k, l, m, o, p, q⟩ := x
  obtain ⟨h_a, ⟨h_b, h_c⟩, h_d, h_e, h_f, h_g, h_h, h_i, h_j, h_k, h_l, h_m, h_o, h_p, h_q⟩ := h
  simp only [e_T_laws_toMate, c_toRing ⟨h_b, h_c⟩, c_toItemS h_d, c_toIntS h_e, c_toStringS h_f, c_toToken ⟨h_k, h_l, h_m, h_o, h_p, h_q⟩, Option.bind_some]
theorem c_toBundle {x : (ET.pair (.int .i64) (.pair (.int .i64) (.pair (.int .i64) (.sl false (.pair (.int .i64) (.pair (.int .i64) (.pair (.int .i64) .str))))))).den} (h : (ET.pair (.int .i64) (.pair (.int .i64) (.pair (.int .i64) (.sl false (.pair (.int .i64) (.pair (.int .i64) (.pair (.int .i64) .str))))))).small x) : T_laws_toBundle x = some x := by
  obtain ⟨a, b, c, d⟩ := x
  obtain ⟨h_a, h_b, h_c, h_d⟩ := h
  simp only [e_T_laws_toBundle, c_toItemS h_d, Option.bind_some]
theorem c_toBundleS {a : (ET.sl false (.pair (.int .i64) (.pair (.int .i64) (.pair (.int .i64) (.sl false (.pair (.int .i64) (.pair (.int .i64) (.pair (.int .i64) .str)))))))).den} (h : (ET.sl false (.pair (.int .i64) (.pair (.int .i64) (.pair (.int .i64) (.sl false (.pair (.int .i64) (.pair (.int .i64) (.pair (.int .i64) .str)))))))).small a) : T_laws_toBundleS a = some a := by
  have h1 : a.length ≤ 1048576 := h.1
  refine to_sl (L := L_laws_toBundleS_1) (0, 0, 0, []) h1 ?_ (fun n b i y hy hi => ?_) (fun n b => ?_)
  · rw [e_T_laws_toBundleS, if_pos ⟨by omega, rfl, by omega, by omega⟩]; rfl
  · have hlt := (List.getElem?_eq_some_iff.1 hy).1
    rw [e_L_laws_toBundleS_1]
    simp only [show ((i : Int) < (a.length : Int)) by omega, decide_true, cond_true, Int.natCast_nonneg, if_true, Int.toNat_natCast, hy, Option.bind_some, hi, List.getElem?_eq_getElem hi, c_toBundle (h.2 y (List.mem_of_getElem? hy))]
    rw [wrap_ok (by omega) (by omega)]
  · rw [e_L_laws_toBundleS_1]; simp
theorem c_toEvent {x : (ET.pair (.int .i64) (.pair (.pair (.int .i64) (.sl false (.int .i64))) (.pair (.pair (.int .i64) (.pair (.int .i64) (.pair (.int .i64) .str))) (.sl false (.int .i64))))).den} (h : (ET.pair (.int .i64) (.pair (.pair (.int .i64) (.sl false (.int .i64))) (.pair (.pair (.int .i64) (.pair (.int .i64) (.pair (.int .i64) .str))) (.sl false (.int .i64))))).small x) : T_laws_toEvent x = some x := by
  obtain ⟨a, ⟨b, c⟩, ⟨d, e, f, g⟩, h⟩ := x
  obtain ⟨h_a, ⟨h_b, h_c⟩, ⟨h_d, h_e, h_f, h_g⟩, h_h⟩ := h
  simp only [e_T_laws_toEvent, c_toRing ⟨h_b, h_c⟩, c_toItem ⟨h_d, h_e, h_f, h_g⟩, c_toIntS h_h, Option.bind_some]
theorem c_toEventS {a : (ET.sl false (.pair (.int .i64) (.pair (.pair (.int .i64) (.sl false (.int .i64))) (.pair (.pair (.int .i64) (.pair (.int .i64) (.pair (.int .i64) .str))) (.sl false (.int .i64)))))).den} (h : (ET.sl false (.pair (.int .i64) (.pair (.pair (.int .i64) (.sl false (.int .i64))) (.pair (.pair (.int .i64) (.pair (.int .i64) (.pair (.int .i64) .str))) (.sl false (.int .i64)))))).small a) : T_laws_toEventS a = some a := by
  have h1 : a.length ≤ 1048576 := h.1
  refine to_sl (L := L_laws_toEventS_1) (0, (0, []), (0, 0, 0, []), []) h1 ?_ (fun n b i y hy hi => ?_) (fun n b => ?_)
  · rw [e_T_laws_toEventS, if_pos ⟨by omega, rfl, by omega, by omega⟩]; rfl
  · have hlt := (List.getElem?_eq_some_iff.1 hy).1
    rw [e_L_laws_toEventS_1]
    simp only [show ((i : Int) < (a.length : Int)) by omega, decide_true, cond_true, Int.natCast_nonneg, if_true, Int.toNat_natCast, hy, Option.bind_some, hi, List.getElem?_eq_getElem hi, c_toEvent (h.2 y (List.mem_of_getElem? hy))]
    rw [wrap_ok (by omega) (by omega)]
  · rw [e_L_laws_toEventS_1]; simp
theorem c_toDaemon {x : (ET.pair (.int .i64) (.pair .bool (.pair (.pair (.int .i64) (.pair (.pair (.int .i64) (.sl false (.int .i64))) (.pair (.sl false (.pair (.int .i64) (.pair (.int .i64) (.pair (.int .i64) .str)))) (.pair (.sl false (.int .i64)) (.pair (.sl false .str) (.pair (.int .i64) (.pair (.int .i64) (.pair (.int .i64) (.pair (.int .i64) (.pair (.int .i64) (.pair (.int .i64) (.pair (.int .i64) (.pair (.int .i64) (.pair (.int .i64) (.sl false (.int .i64)))))))))))))))) (.pair (.int .i64) (.pair (.int .i64) (.pair (.pair (.int .i64) (.sl false (.int .i64))) (.pair (.sl false (.pair (.int .i64) (.pair (.int .i64) (.pair (.int .i64) (.sl false (.pair (.int .i64) (.pair (.int .i64) (.pair (.int .i64) .str)))))))) (.sl false (.pair (.int .i64) (.pair (.pair (.int .i64) (.sl false (.int .i64))) (.pair (.pair (.int .i64) (.pair (.int .i64) (.pair (.int .i64) .str))) (.sl false (.int .i64))))))))))))).den} (h : (ET.pair (.int .i64) (.pair .bool (.pair (.pair (.int .i64) (.pair (.pair (.int .i64) (.sl false (.int .i64))) (.pair (.sl false (.pair (.int .i64) (.pair (.int .i64) (.pair (.int .i64) .str)))) (.pair (.sl false (.int .i64)) (.pair (.sl false .str) (.pair (.int .i64) (.pair (.int .i64) (.pair (.int .i64) (.pair (.int .i64) (.pair (.int .i64) (.pair (.int .i64) (.pair (.int .i64) (.pair (.int .i64) (.pair (.int .i64) (.sl false (.int .i64)))))))))))))))) (.pair (.int .i64) (.pair (.int .i64) (.pair (.pair (.int .i64) (.sl false (.int .i64))) (.pair (.sl false (.pair (.int .i64) (.pair (.int .i64) (.pair (.int .i64) (.sl false (.pair (.int .i64) (.pair (.int .i64) (.pair (.int .i64) .str)))))))) (.sl false (.pair (.int .i64) (.pair (.pair (.int .i64) (.sl false (.int .i64))) (.pair (.pair (.int .i64) (.pair (.int .i64) (.pair (.int .i64) .str))) (.sl false (.int .i64))))))))))))).small x) : T_laws_toDaemon x = some x := by
  obtain ⟨a, b, ⟨c, ⟨d, e⟩, f, g, h, i, j, k, l, m, o, p, q, r, s⟩, t, u, ⟨v, w⟩, x, y⟩ := x
  obtain ⟨h_a, h_b, ⟨h_c, ⟨h_d, h_e⟩, h_f, h_g, h_h, h_i, h_j, h_k, h_l, h_m, h_o, h_p, h_q, h_r, h_s⟩, h_t, h_u, ⟨h_v, h_w⟩, h_x, h_y⟩ := h
  simp only [e_T_laws_toDaemon, c_toMate ⟨h_c, ⟨h_d, h_e⟩, h_f, h_g, h_h, h_i, h_j, h_k, h_l, h_m, h_o, h_p, h_q, h_r, h_s⟩, c_toRing ⟨h_v, h_w⟩, c_toBundleS h_x, c_toEventS h_y, Option.bind_some]
theorem c_toDaemonS {a : (ET.sl false (.pair (.int .i64) (.pair .bool (.pair (.pair (.int .i64) (.pair (.pair (.int .i64) (.sl false (.int .i64))) (.pair (.sl false (.pair (.int .i64) (.pair (.int .i64) (.pair (.int .i64) .str)))) (.pair (.sl false (.int .i64)) (.pair (.sl false .str) (.pair (.int .i64) (.pair (.int .i64) (.pair (.int .i64) (.pair (.int .i64) (.pair (.int .i64) (.pair (.int .i64) (.pair (.int .i64) (.pair (.int .i64) (.pair (.int .i64) (.sl false (.int .i64)))))))))))))))) (.pair (.int .i64) (.pair (.int .i64) (.pair (.pair (.int .i64) (.sl false (.int .i64))) (.pair (.sl false (.pair (.int .i64) (.pair (.int .i64) (.pair (.int .i64) (.sl false (.pair (.int .i64) (.pair (.int .i64) (.pair (.int .i64) .str)))))))) (.sl false (.pair (.int .i64) (.pair (.pair (.int .i64) (.sl false (.int .i64))) (.pair (.pair (.int .i64) (.pair (.int .i64) (.pair (.int .i64) .str))) (.sl false (.int .i64)))))))))))))).den} (h : (ET.sl false (.pair (.int .i64) (.pair .bool (.pair (.pair (.int .i64) (.pair (.pair (.int .i64) (.sl false (.int .i64))) (.pair (.sl false (.pair (.int .i64) (.pair (.int .i64) (.pair (.int .i64) .str)))) (.pair (.sl false (.int .i64)) (.pair (.sl false .str) (.pair (.int .i64) (.pair (.int .i64) (.pair (.int .i64) (.pair (.int .i64) (.pair (.int .i64) (.pair (.int .i64) (.pair (.int .i64) (.pair (.int .i64) (.pair (.int .i64) (.sl false (.int .i64)))))))))))))))) (.pair (.int .i64) (.pair (.int .i64) (.pair (.pair (.int .i64) (.sl false (.int .i64))) (.pair (.sl false (.pair (.int .i64) (.pair (.int .i64) (.pair (.int .i64) (.sl false (.pair (.int .i64) (.pair (.int .i64) (.pair (.int .i64) .str)))))))) (.sl false (.pair (.int .i64) (.pair (.pair (.int .i64) (.sl false (.int .i64))) (.pair (.pair (.int .i64) (.pair (.int .i64) (.pair (.int .i64) .str))) (.sl false (.int .i64)))))))))))))).small a) : T_laws_toDaemonS a = some a := by
  have h1 : a.length ≤ 1048576 := h.1
  refine to_sl (L := L_laws_toDaemonS_1) (0, false, (0, (0, []), [], [], [], 0, 0, 0, 0, 0, 0, 0, 0, 0, []), 0, 0, (0, []), [], []) h1 ?_ (fun n b i y hy hi => ?_) (fun n b => ?_)
  · rw [e_T_laws_toDaemonS, if_pos ⟨by omega, rfl, by omega, by omega⟩]; rfl
  · have hlt := (List.getElem?_eq_some_iff.1 hy).1
    rw [e_L_laws_toDaemonS_1]
    simp only [show ((i : Int) < (a.length : Int)) by omega, decide_true, cond_true, Int.natCast_nonneg, if_true, Int.toNat_natCast, hy, Option.bind_some, hi, List.getElem?_eq_getElem hi, c_toDaemon (h.2 y (List.mem_of_getElem? hy))]
    rw [wrap_ok (by omega) (by omega)]
  · rw [e_L_laws_toDaemonS_1]; simp
theorem c_toLetter {x : (ET.pair (.int .i64) (.pair (.int .i64) (.pair (.int .i64) (.pair (.pair (.int .i64) (.pair (.int .i64) (.pair (.int .i64) .str))) (.pair (.pair (.int .i64) (.pair (.int .i64) (.pair (.int .i64) (.pair (.int .i64) (.pair (.int .i64) (.sl false (.int .i64))))))) (.pair (.int .i64) (.pair (.int .i64) (.pair (.int .i64) (.sl false (.pair (.int .i64) (.pair (.int .i64) (.pair (.int .i64) .str)))))))))))).den} (h : (ET.pair (.int .i64) (.pair (.int .i64) (.pair (.int .i64) (.pair (.pair (.int .i64) (.pair (.int .i64) (.pair (.int .i64) .str))) (.pair (.pair (.int .i64) (.pair (.int .i64) (.pair (.int .i64) (.pair (.int .i64) (.pair (.int .i64) (.sl false (.int .i64))))))) (.pair (.int .i64) (.pair (.int .i64) (.pair (.int .i64) (.sl false (.pair (.int .i64) (.pair (.int .i64) (.pair (.int .i64) .str)))))))))))).small x) : T_laws_toLetter x = some x := by
  obtain ⟨a, b, c, ⟨d, e, f, g⟩, ⟨h, i, j, k, l, m⟩, o, p, q, r⟩ := x
  obtain ⟨h_a, h_b, h_c, ⟨h_d, h_e, h_f, h_g⟩, ⟨h_h, h_i, h_j, h_k, h_l, h_m⟩, h_o, h_p, h_q, h_r⟩ := h
  simp only [e_T_laws_toLetter, c_toItem ⟨h_d, h_e, h_f, h_g⟩, c_toToken ⟨h_h, h_i, h_j, h_k, h_l, h_m⟩, c_toBundle ⟨h_o, h_p, h_q, h_r⟩, Option.bind_some]
theorem c_toLetterS {a : (ET.sl false (.pair (.int .i64) (.pair (.int .i64) (.pair (.int .i64) (.pair (.pair (.int .i64) (.pair (.int .i64) (.pair (.int .i64) .str))) (.pair (.pair (.int .i64) (.pair (.int .i64) (.pair (.int .i64) (.pair (.int .i64) (.pair (.int .i64) (.sl false (.int .i64))))))) (.pair (.int .i64) (.pair (.int .i64) (.pair (.int .i64) (.sl false (.pair (.int .i64) (.pair (.int .i64) (.pair (.int .i64) .str))))))))))))).den} (h : (ET.sl false (.pair (.int .i64) (.pair (.int .i64) (.pair (.int .i64) (.pair (.pair (.int .i64) (.pair (.int .i64) (.pair (.int .i64) .str))) (.pair (.pair (.int .i64) (.pair (.int .i64) (.pair (.int .i64) (.pair (.int .i64) (.pair (.int .i64) (.sl false (.int .i64))))))) (.pair (.int .i64) (.pair (.int .i64) (.pair (.int .i64) (.sl false (.pair (.int .i64) (.pair (.int .i64) (.pair (.int .i64) .str))))))))))))).small a) : T_laws_toLetterS a = some a := by
  have h1 : a.length ≤ 1048576 := h.1
  refine to_sl (L := L_laws_toLetterS_1) (0, 0, 0, (0, 0, 0, []), (0, 0, 0, 0, 0, []), 0, 0, 0, []) h1 ?_ (fun n b i y hy hi => ?_) (fun n b => ?_)
  · rw [e_T_laws_toLetterS, if_pos ⟨by omega, rfl, by omega, by omega⟩]; rfl
  · have hlt := (List.getElem?_eq_some_iff.1 hy).1
    rw [e_L_laws_toLetterS_1]
    simp only [show ((i : Int) < (a.length : Int)) by omega, decide_true, cond_true, Int.natCast_nonneg, if_true, Int.toNat_natCast, hy, Option.bind_some, hi, List.getElem?_eq_getElem hi, c_toLetter (h.2 y (List.mem_of_getElem? hy))]
    rw [wrap_ok (by omega) (by omega)]
  · rw [e_L_laws_toLetterS_1]; simp
theorem c_toWorld {x : (ET.pair (.sl false (.pair (.int .i64) (.sl false (.int .i64)))) (.pair (.sl false (.pair (.int .i64) (.pair .bool (.pair (.pair (.int .i64) (.pair (.pair (.int .i64) (.sl false (.int .i64))) (.pair (.sl false (.pair (.int .i64) (.pair (.int .i64) (.pair (.int .i64) .str)))) (.pair (.sl false (.int .i64)) (.pair (.sl false .str) (.pair (.int .i64) (.pair (.int .i64) (.pair (.int .i64) (.pair (.int .i64) (.pair (.int .i64) (.pair (.int .i64) (.pair (.int .i64) (.pair (.int .i64) (.pair (.int .i64) (.sl false (.int .i64)))))))))))))))) (.pair (.int .i64) (.pair (.int .i64) (.pair (.pair (.int .i64) (.sl false (.int .i64))) (.pair (.sl false (.pair (.int .i64) (.pair (.int .i64) (.pair (.int .i64) (.sl false (.pair (.int .i64) (.pair (.int .i64) (.pair (.int .i64) .str)))))))) (.sl false (.pair (.int .i64) (.pair (.pair (.int .i64) (.sl false (.int .i64))) (.pair (.pair (.int .i64) (.pair (.int .i64) (.pair (.int .i64) .str))) (.sl false (.int .i64)))))))))))))) (.pair (.sl false (.pair (.int .i64) (.pair (.int .i64) (.pair (.int .i64) (.pair (.pair (.int .i64) (.pair (.int .i64) (.pair (.int .i64) .str))) (.pair (.pair (.int .i64) (.pair (.int .i64) (.pair (.int .i64) (.pair (.int .i64) (.pair (.int .i64) (.sl false (.int .i64))))))) (.pair (.int .i64) (.pair (.int .i64) (.pair (.int .i64) (.sl false (.pair (.int .i64) (.pair (.int .i64) (.pair (.int .i64) .str))))))))))))) (.sl false (.pair (.int .i64) (.pair (.pair (.int .i64) (.sl false (.int .i64))) (.pair (.pair (.int .i64) (.pair (.int .i64) (.pair (.int .i64) .str))) (.sl false (.int .i64))))))))).den} (h : (ET.pair (.sl false (.pair (.int .i64) (.sl false (.int .i64)))) (.pair (.sl false (.pair (.int .i64) (.pair .bool (.pair (.pair (.int .i64) (.pair (.pair (.int .i64) (.sl false (.int .i64))) (.pair (.sl false (.pair (.int .i64) (.pair (.int .i64) (.pair (.int .i64) .str)))) (.pair (.sl false (.int .i64)) (.pair (.sl false .str) (.pair (.int .i64) (.pair (.int .i64) (.pair (.int .i64) (.pair (.int .i64) (.pair (.int .i64) (.pair (.int .i64) (.pair (.int .i64) (.pair (.int .i64) (.pair (.int .i64) (.sl false (.int .i64)))))))))))))))) (.pair (.int .i64) (.pair (.int .i64) (.pair (.pair (.int .i64) (.sl false (.int .i64))) (.pair (.sl false (.pair (.int .i64) (.pair (.int .i64) (.pair (.int .i64) (.sl false (.pair (.int .i64) (.pair (.int .i64) (.pair (.int .i64) .str)))))))) (.sl false (.pair (.int .i64) (.pair (.pair (.int .i64) (.sl false (.int .i64))) (.pair (.pair (.int .i64) (.pair (.int .i64) (.pair (.int .i64) .str))) (.sl false (.int .i64)))))))))))))) (.pair (.sl false (.pair (.int .i64) (.pair (.int .i64) (.pair (.int .i64) (.pair (.pair (.int .i64) (.pair (.int .i64) (.pair (.int .i64) .str))) (.pair (.pair (.int .i64) (.pair (.int .i64) (.pair (.int .i64) (.pair (.int .i64) (.pair (.int .i64) (.sl false (.int .i64))))))) (.pair (.int .i64) (.pair (.int .i64) (.pair (.int .i64) (.sl false (.pair (.int .i64) (.pair (.int .i64) (.pair (.int .i64) .str))))))))))))) (.sl false (.pair (.int .i64) (.pair (.pair (.int .i64) (.sl false (.int .i64))) (.pair (.pair (.int .i64) (.pair (.int .i64) (.pair (.int .i64) .str))) (.sl false (.int .i64))))))))).small x) : T_laws_toWorld x = some x := by
  obtain ⟨a, b, c, d⟩ := x
  obtain ⟨h_a, h_b, h_c, h_d⟩ := h
  simp only [e_T_laws_toWorld, c_toRingS h_a, c_toDaemonS h_b, c_toLetterS h_c, c_toEventS h_d, Option.bind_some]
theorem c_toReader {x : (ET.pair .str .bool).den} (h : (ET.pair .str .bool).small x) : T_laws_toReader x = some x := by
  obtain ⟨a, b⟩ := x
  obtain ⟨h_a, h_b⟩ := h
  simp only [e_T_laws_toReader, Option.bind_some]
theorem c_toSession {x : (ET.pair (.int .i64) (.pair .str (.pair (.pair .str .bool) (.pair .bool (.sl false .str))))).den} (h : (ET.pair (.int .i64) (.pair .str (.pair (.pair .str .bool) (.pair .bool (.sl false .str))))).small x) : T_laws_toSession x = some x := by
  obtain ⟨a, b, ⟨c, d⟩, e, f⟩ := x
  obtain ⟨h_a, h_b, ⟨h_c, h_d⟩, h_e, h_f⟩ := h
  simp only [e_T_laws_toSession, c_toReader ⟨h_c, h_d⟩, c_toStringS h_f, Option.bind_some]
theorem c_toBox {x : (ET.pair .str (.pair (.sl false .str) .bool)).den} (h : (ET.pair .str (.pair (.sl false .str) .bool)).small x) : T_laws_toBox x = some x := by
  obtain ⟨a, b, c⟩ := x
  obtain ⟨h_a, h_b, h_c⟩ := h
  simp only [e_T_laws_toBox, c_toStringS h_b, Option.bind_some]
theorem c_toCaller {x : (ET.pair (.pair (.int .i64) (.pair .str (.pair (.pair .str .bool) (.pair .bool (.sl false .str))))) (.pair (.pair .str (.pair (.sl false .str) .bool)) (.pair .str (.sl false .str)))).den} (h : (ET.pair (.pair (.int .i64) (.pair .str (.pair (.pair .str .bool) (.pair .bool (.sl false .str))))) (.pair (.pair .str (.pair (.sl false .str) .bool)) (.pair .str (.sl false .str)))).small x) : T_laws_toCaller x = some x := by
  obtain ⟨⟨a, b, ⟨c, d⟩, e, f⟩, ⟨g, h, i⟩, j, k⟩ := x
  obtain ⟨⟨h_a, h_b, ⟨h_c, h_d⟩, h_e, h_f⟩, ⟨h_g, h_h, h_i⟩, h_j, h_k⟩ := h
  simp only [e_T_laws_toCaller, c_toSession ⟨h_a, h_b, ⟨h_c, h_d⟩, h_e, h_f⟩, c_toBox ⟨h_g, h_h, h_i⟩, c_toStringS h_k, Option.bind_some]
theorem c_toCallerS {a : (ET.sl false (.pair (.pair (.int .i64) (.pair .str (.pair (.pair .str .bool) (.pair .bool (.sl false .str))))) (.pair (.pair .str (.pair (.sl false .str) .bool)) (.pair .str (.sl false .str))))).den} (h : (ET.sl false (.pair (.pair (.int .i64) (.pair .str (.pair (.pair .str .bool) (.pair .bool (.sl false .str))))) (.pair (.pair .str (.pair (.sl false .str) .bool)) (.pair .str (.sl false .str))))).small a) : T_laws_toCallerS a = some a := by
  have h1 : a.length ≤ 1048576 := h.1
  refine to_sl (L := L_laws_toCallerS_1) ((0, [], ([], false), false, []), ([], [], false), [], []) h1 ?_ (fun n b i y hy hi => ?_) (fun n b => ?_)
  · rw [e_T_laws_toCallerS, if_pos ⟨by omega, rfl, by omega, by omega⟩]; rfl
  · have hlt := (List.getElem?_eq_some_iff.1 hy).1
    rw [e_L_laws_toCallerS_1]
    simp only [show ((i : Int) < (a.length : Int)) by omega, decide_true, cond_true, Int.natCast_nonneg, if_true, Int.toNat_natCast, hy, Option.bind_some, hi, List.getElem?_eq_getElem hi, c_toCaller (h.2 y (List.mem_of_getElem? hy))]
    rw [wrap_ok (by omega) (by omega)]
  · rw [e_L_laws_toCallerS_1]; simp
theorem c_toGroup {x : (ET.pair .str (.sl false .str)).den} (h : (ET.pair .str (.sl false .str)).small x) : T_laws_toGroup x = some x := by
  obtain ⟨a, b⟩ := x
  obtain ⟨h_a, h_b⟩ := h
  simp only [e_T_laws_toGroup, c_toStringS h_b, Option.bind_some]
theorem c_toGroupS {a : (ET.sl false (.pair .str (.sl false .str))).den} (h : (ET.sl false (.pair .str (.sl false .str))).small a) : T_laws_toGroupS a = some a := by
  have h1 : a.length ≤ 1048576 := h.1
  refine to_sl (L := L_laws_toGroupS_1) ([], []) h1 ?_ (fun n b i y hy hi => ?_) (fun n b => ?_)
  · rw [e_T_laws_toGroupS, if_pos ⟨by omega, rfl, by omega, by omega⟩]; rfl
  · have hlt := (List.getElem?_eq_some_iff.1 hy).1
    rw [e_L_laws_toGroupS_1]
    simp only [show ((i : Int) < (a.length : Int)) by omega, decide_true, cond_true, Int.natCast_nonneg, if_true, Int.toNat_natCast, hy, Option.bind_some, hi, List.getElem?_eq_getElem hi, c_toGroup (h.2 y (List.mem_of_getElem? hy))]
    rw [wrap_ok (by omega) (by omega)]
  · rw [e_L_laws_toGroupS_1]; simp
theorem c_toTable {a : (ET.sl false (.pair .str (.sl false .str))).den} (h_a : (ET.sl false (.pair .str (.sl false .str))).small a) : T_laws_toTable a = some a := by
  simp only [e_T_laws_toTable, c_toGroupS h_a, Option.bind_some]
theorem c_toTableS {a : (ET.sl false (.sl false (.pair .str (.sl false .str)))).den} (h : (ET.sl false (.sl false (.pair .str (.sl false .str)))).small a) : T_laws_toTableS a = some a := by
  have h1 : a.length ≤ 1048576 := h.1
  refine to_sl (L := L_laws_toTableS_1) [] h1 ?_ (fun n b i y hy hi => ?_) (fun n b => ?_)
  · rw [e_T_laws_toTableS, if_pos ⟨by omega, rfl, by omega, by omega⟩]; rfl
  · have hlt := (List.getElem?_eq_some_iff.1 hy).1
    rw [e_L_laws_toTableS_1]
    simp only [show ((i : Int) < (a.length : Int)) by omega, decide_true, cond_true, Int.natCast_nonneg, if_true, Int.toNat_natCast, hy, Option.bind_some, hi, List.getElem?_eq_getElem hi, c_toTable (h.2 y (List.mem_of_getElem? hy))]
    rw [wrap_ok (by omega) (by omega)]
  · rw [e_L_laws_toTableS_1]; simp
theorem c_toHall {x : (ET.pair (.pair (.sl false (.pair (.int .i64) (.sl false (.int .i64)))) (.pair (.sl false (.pair (.int .i64) (.pair .bool (.pair (.pair (.int .i64) (.pair (.pair (.int .i64) (.sl false (.int .i64))) (.pair (.sl false (.pair (.int .i64) (.pair (.int .i64) (.pair (.int .i64) .str)))) (.pair (.sl false (.int .i64)) (.pair (.sl false .str) (.pair (.int .i64) (.pair (.int .i64) (.pair (.int .i64) (.pair (.int .i64) (.pair (.int .i64) (.pair (.int .i64) (.pair (.int .i64) (.pair (.int .i64) (.pair (.int .i64) (.sl false (.int .i64)))))))))))))))) (.pair (.int .i64) (.pair (.int .i64) (.pair (.pair (.int .i64) (.sl false (.int .i64))) (.pair (.sl false (.pair (.int .i64) (.pair (.int .i64) (.pair (.int .i64) (.sl false (.pair (.int .i64) (.pair (.int .i64) (.pair (.int .i64) .str)))))))) (.sl false (.pair (.int .i64) (.pair (.pair (.int .i64) (.sl false (.int .i64))) (.pair (.pair (.int .i64) (.pair (.int .i64) (.pair (.int .i64) .str))) (.sl false (.int .i64)))))))))))))) (.pair (.sl false (.pair (.int .i64) (.pair (.int .i64) (.pair (.int .i64) (.pair (.pair (.int .i64) (.pair (.int .i64) (.pair (.int .i64) .str))) (.pair (.pair (.int .i64) (.pair (.int .i64) (.pair (.int .i64) (.pair (.int .i64) (.pair (.int .i64) (.sl false (.int .i64))))))) (.pair (.int .i64) (.pair (.int .i64) (.pair (.int .i64) (.sl false (.pair (.int .i64) (.pair (.int .i64) (.pair (.int .i64) .str))))))))))))) (.sl false (.pair (.int .i64) (.pair (.pair (.int .i64) (.sl false (.int .i64))) (.pair (.pair (.int .i64) (.pair (.int .i64) (.pair (.int .i64) .str))) (.sl false (.int .i64))))))))) (.pair (.sl false (.pair (.pair (.int .i64) (.pair .str (.pair (.pair .str .bool) (.pair .bool (.sl false .str))))) (.pair (.pair .str (.pair (.sl false .str) .bool)) (.pair .str (.sl false .str))))) (.pair (.sl false (.sl false (.pair .str (.sl false .str)))) (.sl false (.int .i64))))).den} (h : (ET.pair (.pair (.sl false (.pair (.int .i64) (.sl false (.int .i64)))) (.pair (.sl false (.pair (.int .i64) (.pair .bool (.pair (.pair (.int .i64) (.pair (.pair (.int .i64) (.sl false (.int .i64))) (.pair (.sl false (.pair (.int .i64) (.pair (.int .i64) (.pair (.int .i64) .str)))) (.pair (.sl false (.int .i64)) (.pair (.sl false .str) (.pair (.int .i64) (.pair (.int .i64) (.pair (.int .i64) (.pair (.int .i64) (.pair (.int .i64) (.pair (.int .i64) (.pair (.int .i64) (.pair (.int .i64) (.pair (.int .i64) (.sl false (.int .i64)))))))))))))))) (.pair (.int .i64) (.pair (.int .i64) (.pair (.pair (.int .i64) (.sl false (.int .i64))) (.pair (.sl false (.pair (.int .i64) (.pair (.int .i64) (.pair (.int .i64) (.sl false (.pair (.int .i64) (.pair (.int .i64) (.pair (.int .i64) .str)))))))) (.sl false (.pair (.int .i64) (.pair (.pair (.int .i64) (.sl false (.int .i64))) (.pair (.pair (.int .i64) (.pair (.int .i64) (.pair (.int .i64) .str))) (.sl false (.int .i64)))))))))))))) (.pair (.sl false (.pair (.int .i64) (.pair (.int .i64) (.pair (.int .i64) (.pair (.pair (.int .i64) (.pair (.int .i64) (.pair (.int .i64) .str))) (.pair (.pair (.int .i64) (.pair (.int .i64) (.pair (.int .i64) (.pair (.int .i64) (.pair (.int .i64) (.sl false (.int .i64))))))) (.pair (.int .i64) (.pair (.int .i64) (.pair (.int .i64) (.sl false (.pair (.int .i64) (.pair (.int .i64) (.pair (.int .i64) .str))))))))))))) (.sl false (.pair (.int .i64) (.pair (.pair (.int .i64) (.sl false (.int .i64))) (.pair (.pair (.int .i64) (.pair (.int .i64) (.pair (.int .i64) .str))) (.sl false (.int .i64))))))))) (.pair (.sl false (.pair (.pair (.int .i64) (.pair .str (.pair (.pair .str .bool) (.pair .bool (.sl false .str))))) (.pair (.pair .str (.pair (.sl false .str) .bool)) (.pair .str (.sl false .str))))) (.pair (.sl false (.sl false (.pair .str (.sl false .str)))) (.sl false (.int .i64))))).small x) : T_laws_toHall x = some x := by
  obtain ⟨⟨a, b, c, d⟩, e, f, g⟩ := x
  obtain ⟨⟨h_a, h_b, h_c, h_d⟩, h_e, h_f, h_g⟩ := h
  simp only [e_T_laws_toHall, c_toWorld ⟨h_a, h_b, h_c, h_d⟩, c_toCallerS h_e, c_toTableS h_f, c_toIntS h_g, Option.bind_some]
theorem q_eqIntS {a : (ET.sl false (.int .i64)).den} (h : (ET.sl false (.int .i64)).small a) : T_laws_eqIntS (a, a) = some true := by
  have h1 : a.length ≤ 1048576 := h.1
  rw [e_T_laws_eqIntS, eq_sl (L := L_laws_eqIntS_1) (Nat.le_trans h1 (by decide)) (fun n i y hy => ?_) (fun n => ?_)]
  · simp
  · have hlt := (List.getElem?_eq_some_iff.1 hy).1
    rw [e_L_laws_eqIntS_1]
    simp only [show ((i : Int) < (a.length : Int)) by omega, decide_true, cond_true, Int.natCast_nonneg, if_true, Int.toNat_natCast, hy, Option.bind_some, beq_self_eq_true, Bool.not_true, cond_false]
    rw [wrap_ok (by omega) (by omega)]
  · rw [e_L_laws_eqIntS_1]; simp
theorem q_eqRing {x : (ET.pair (.int .i64) (.sl false (.int .i64))).den} (h : (ET.pair (.int .i64) (.sl false (.int .i64))).small x) : T_laws_eqRing (x, x) = some true := by
  obtain ⟨a, b⟩ := x
  obtain ⟨h_a, h_b⟩ := h
  simp only [e_T_laws_eqRing, q_eqIntS h_b, Option.bind_some, beq_self_eq_true, Bool.not_true, cond_false]
theorem q_eqRingS {a : (ET.sl false (.pair (.int .i64) (.sl false (.int .i64)))).den} (h : (ET.sl false (.pair (.int .i64) (.sl false (.int .i64)))).small a) : T_laws_eqRingS (a, a) = some true := by
  have h1 : a.length ≤ 1048576 := h.1
  rw [e_T_laws_eqRingS, eq_sl (L := L_laws_eqRingS_1) (Nat.le_trans h1 (by decide)) (fun n i y hy => ?_) (fun n => ?_)]
  · simp
  · have hlt := (List.getElem?_eq_some_iff.1 hy).1
    rw [e_L_laws_eqRingS_1]
    simp only [show ((i : Int) < (a.length : Int)) by omega, decide_true, cond_true, Int.natCast_nonneg, if_true, Int.toNat_natCast, hy, Option.bind_some, beq_self_eq_true, Bool.not_true, cond_false, q_eqRing (h.2 y (List.mem_of_getElem? hy))]
    rw [wrap_ok (by omega) (by omega)]
  · rw [e_L_laws_eqRingS_1]; simp
theorem q_eqItem {x : (ET.pair (.int .i64) (.pair (.int .i64) (.pair (.int .i64) .str))).den} (h : (ET.pair (.int .i64) (.pair (.int .i64) (.pair (.int .i64) .str))).small x) : T_laws_eqItem (x, x) = some true := by
  obtain ⟨a, b, c, d⟩ := x
  obtain ⟨h_a, h_b, h_c, h_d⟩ := h
  simp only [e_T_laws_eqItem, Option.bind_some, beq_self_eq_true, Bool.not_true, cond_false]
theorem q_eqItemS {a : (ET.sl false (.pair (.int .i64) (.pair (.int .i64) (.pair (.int .i64) .str)))).den} (h : (ET.sl false (.pair (.int .i64) (.pair (.int .i64) (.pair (.int .i64) .str)))).small a) : T_laws_eqItemS (a, a) = some true := by
  have h1 : a.length ≤ 1048576 := h.1
  rw [e_T_laws_eqItemS, eq_sl (L := L_laws_eqItemS_1) (Nat.le_trans h1 (by decide)) (fun n i y hy => ?_) (fun n => ?_)]
  · simp
  · have hlt := (List.getElem?_eq_some_iff.1 hy).1
    rw [e_L_laws_eqItemS_1]
    simp only [show ((i : Int) < (a.length : Int)) by omega, decide_true, cond_true, Int.natCast_nonneg, if_true, Int.toNat_natCast, hy, Option.bind_some, beq_self_eq_true, Bool.not_true, cond_false, q_eqItem (h.2 y (List.mem_of_getElem? hy))]
    rw [wrap_ok (by omega) (by omega)]
  · rw [e_L_laws_eqItemS_1]; simp
theorem q_eqStringS {a : (ET.sl false (.str)).den} (h : (ET.sl false (.str)).small a) : T_laws_eqStringS (a, a) = some true := by
  have h1 : a.length ≤ 1048576 := h.1
  rw [e_T_laws_eqStringS, eq_sl (L := L_laws_eqStringS_1) (Nat.le_trans h1 (by decide)) (fun n i y hy => ?_) (fun n => ?_)]
  · simp
  · have hlt := (List.getElem?_eq_some_iff.1 hy).1
    rw [e_L_laws_eqStringS_1]
    simp only [show ((i : Int) < (a.length : Int)) by omega, decide_true, cond_true, Int.natCast_nonneg, if_true, Int.toNat_natCast, hy, Option.bind_some, beq_self_eq_true, Bool.not_true, cond_false]
    rw [wrap_ok (by omega) (by omega)]
  · rw [e_L_laws_eqStringS_1]; simp
theorem q_eqToken {x : (ET.pair (.int .i64) (.pair (.int .i64) (.pair (.int .i64) (.pair (.int .i64) (.pair (.int .i64) (.sl false (.int .i64))))))).den} (h : (ET.pair (.int .i64) (.pair (.int .i64) (.pair (.int .i64) (.pair (.int .i64) (.pair (.int .i64) (.sl false (.int .i64))))))).small x) : T_laws_eqToken (x, x) = some true := by
  obtain ⟨a, b, c, d, e, f⟩ := x
  obtain ⟨h_a, h_b, h_c, h_d, h_e, h_f⟩ := h
  simp only [e_T_laws_eqToken, q_eqIntS h_f, Option.bind_some, beq_self_eq_true, Bool.not_true, cond_false]
theorem q_eqMate {x : (ET.pair (.int .i64) (.pair (.pair (.int .i64) (.sl false (.int .i64))) (.pair (.sl false (.pair (.int .i64) (.pair (.int .i64) (.pair (.int .i64) .str)))) (.pair (.sl false (.int .i64)) (.pair (.sl false .str) (.pair (.int .i64) (.pair (.int .i64) (.pair (.int .i64) (.pair (.int .i64) (.pair (.int .i64) (.pair (.int .i64) (.pair (.int .i64) (.pair (.int .i64) (.pair (.int .i64) (.sl false (.int .i64)))))))))))))))).den} (h : (ET.pair (.int .i64) (.pair (.pair (.int .i64) (.sl false (.int .i64))) (.pair (.sl false (.pair (.int .i64) (.pair (.int .i64) (.pair (.int .i64) .str)))) (.pair (.sl false (.int .i64)) (.pair (.sl false .str) (.pair (.int .i64) (.pair (.int .i64) (.pair (.int .i64) (.pair (.int .i64) (.pair (.int .i64) (.pair (.int .i64) (.pair (.int .i64) (.pair (.int .i64) (.pair (.int .i64) (.sl false (.int .i64)))))))))))))))).small x) : T_laws_eqMate (x, x) = some true := by
  obtain ⟨a, ⟨b, c⟩, d, e, f, g, h, i, j, k, l, m, o, p, q⟩ := x
  obtain ⟨h_a, ⟨h_b, h_c⟩, h_d, h_e, h_f, h_g, h_h, h_i, h_j, h_k, h_l, h_m, h_o, h_p, h_q⟩ := h
  simp only [e_T_laws_eqMate, q_eqRing ⟨h_b, h_c⟩, q_eqItemS h_d, q_eqIntS h_e, q_eqStringS h_f, q_eqToken ⟨h_k, h_l, h_m, h_o, h_p, h_q⟩, Option.bind_some, beq_self_eq_true, Bool.not_true, cond_false]
theorem q_eqBundle {x : (ET.pair (.int .i64) (.pair (.int .i64) (.pair (.int .i64) (.sl false (.pair (.int .i64) (.pair (.int .i64) (.pair (.int .i64) .str))))))).den} (h : (ET.pair (.int .i64) (.pair (.int .i64) (.pair (.int .i64) (.sl false (.pair (.int .i64) (.pair (.int .i64) (.pair (.int .i64) .str))))))).small x) : T_laws_eqBundle (x, x) = some true := by
  obtain ⟨a, b, c, d⟩ := x
  obtain ⟨h_a, h_b, h_c, h_d⟩ := h
  simp only [e_T_laws_eqBundle, q_eqItemS h_d, Option.bind_some, beq_self_eq_true, Bool.not_true, cond_false]
theorem q_eqBundleS {a : (ET.sl false (.pair (.int .i64) (.pair (.int .i64) (.pair (.int .i64) (.sl false (.pair (.int .i64) (.pair (.int .i64) (.pair (.int .i64) .str)))))))).den} (h : (ET.sl false (.pair (.int .i64) (.pair (.int .i64) (.pair (.int .i64) (.sl false (.pair (.int .i64) (.pair (.int .i64) (.pair (.int .i64) .str)))))))).small a) : T_laws_eqBundleS (a, a) = some true := by
  have h1 : a.length ≤ 1048576 := h.1
  rw [e_T_laws_eqBundleS, eq_sl (L := L_laws_eqBundleS_1) (Nat.le_trans h1 (by decide)) (fun n i y hy => ?_) (fun n => ?_)]
  · simp
  · have hlt := (List.getElem?_eq_some_iff.1 hy).1
    rw [e_L_laws_eqBundleS_1]
    simp only [show ((i : Int) < (a.length : Int)) by omega, decide_true, cond_true, Int.natCast_nonneg, if_true, Int.toNat_natCast, hy, Option.bind_some, beq_self_eq_true, Bool.not_true, cond_false, q_eqBundle (h.2 y (List.mem_of_getElem? hy))]
    rw [wrap_ok (by omega) (by omega)]
  · rw [e_L_laws_eqBundleS_1]; simp
theorem q_eqEvent {x : (ET.pair (.int .i64) (.pair (.pair (.int .i64) (.sl false (.int .i64))) (.pair (.pair (.int .i64) (.pair (.int .i64) (.pair (.int .i64) .str))) (.sl false (.int .i64))))).den} (h : (ET.pair (.int .i64) (.pair (.pair (.int .i64) (.sl false (.int .i64))) (.pair (.pair (.int .i64) (.pair (.int .i64) (.pair (.int .i64) .str))) (.sl false (.int .i64))))).small x) : T_laws_eqEvent (x, x) = some true := by
  obtain ⟨a, ⟨b, c⟩, ⟨d, e, f, g⟩, h⟩ := x
  obtain ⟨h_a, ⟨h_b, h_c⟩, ⟨h_d, h_e, h_f, h_g⟩, h_h⟩ := h
  simp only [e_T_laws_eqEvent, q_eqRing ⟨h_b, h_c⟩, q_eqItem ⟨h_d, h_e, h_f, h_g⟩, q_eqIntS h_h, Option.bind_some, beq_self_eq_true, Bool.not_true, cond_false]
theorem q_eqEventS {a : (ET.sl false (.pair (.int .i64) (.pair (.pair (.int .i64) (.sl false (.int .i64))) (.pair (.pair (.int .i64) (.pair (.int .i64) (.pair (.int .i64) .str))) (.sl false (.int .i64)))))).den} (h : (ET.sl false (.pair (.int .i64) (.pair (.pair (.int .i64) (.sl false (.int .i64))) (.pair (.pair (.int .i64) (.pair (.int .i64) (.pair (.int .i64) .str))) (.sl false (.int .i64)))))).small a) : T_laws_eqEventS (a, a) = some true := by
  have h1 : a.length ≤ 1048576 := h.1
  rw [e_T_laws_eqEventS, eq_sl (L := L_laws_eqEventS_1) (Nat.le_trans h1 (by decide)) (fun n i y hy => ?_) (fun n => ?_)]
  · simp
  · have hlt := (List.getElem?_eq_some_iff.1 hy).1
    rw [e_L_laws_eqEventS_1]
    simp only [show ((i : Int) < (a.length : Int)) by omega, decide_true, cond_true, Int.natCast_nonneg, if_true, Int.toNat_natCast, hy, Option.bind_some, beq_self_eq_true, Bool.not_true, cond_false, q_eqEvent (h.2 y (List.mem_of_getElem? hy))]
    rw [wrap_ok (by omega) (by omega)]
  · rw [e_L_laws_eqEventS_1]; simp
theorem q_eqDaemon {x : (ET.pair (.int .i64) (.pair .bool (.pair (.pair (.int .i64) (.pair (.pair (.int .i64) (.sl false (.int .i64))) (.pair (.sl false (.pair (.int .i64) (.pair (.int .i64) (.pair (.int .i64) .str)))) (.pair (.sl false (.int .i64)) (.pair (.sl false .str) (.pair (.int .i64) (.pair (.int .i64) (.pair (.int .i64) (.pair (.int .i64) (.pair (.int .i64) (.pair (.int .i64) (.pair (.int .i64) (.pair (.int .i64) (.pair (.int .i64) (.sl false (.int .i64)))))))))))))))) (.pair (.int .i64) (.pair (.int .i64) (.pair (.pair (.int .i64) (.sl false (.int .i64))) (.pair (.sl false (.pair (.int .i64) (.pair (.int .i64) (.pair (.int .i64) (.sl false (.pair (.int .i64) (.pair (.int .i64) (.pair (.int .i64) .str)))))))) (.sl false (.pair (.int .i64) (.pair (.pair (.int .i64) (.sl false (.int .i64))) (.pair (.pair (.int .i64) (.pair (.int .i64) (.pair (.int .i64) .str))) (.sl false (.int .i64))))))))))))).den} (h : (ET.pair (.int .i64) (.pair .bool (.pair (.pair (.int .i64) (.pair (.pair (.int .i64) (.sl false (.int .i64))) (.pair (.sl false (.pair (.int .i64) (.pair (.int .i64) (.pair (.int .i64) .str)))) (.pair (.sl false (.int .i64)) (.pair (.sl false .str) (.pair (.int .i64) (.pair (.int .i64) (.pair (.int .i64) (.pair (.int .i64) (.pair (.int .i64) (.pair (.int .i64) (.pair (.int .i64) (.pair (.int .i64) (.pair (.int .i64) (.sl false (.int .i64)))))))))))))))) (.pair (.int .i64) (.pair (.int .i64) (.pair (.pair (.int .i64) (.sl false (.int .i64))) (.pair (.sl false (.pair (.int .i64) (.pair (.int .i64) (.pair (.int .i64) (.sl false (.pair (.int .i64) (.pair (.int .i64) (.pair (.int .i64) .str)))))))) (.sl false (.pair (.int .i64) (.pair (.pair (.int .i64) (.sl false (.int .i64))) (.pair (.pair (.int .i64) (.pair (.int .i64) (.pair (.int .i64) .str))) (.sl false (.int .i64))))))))))))).small x) : T_laws_eqDaemon (x, x) = some true := by
  obtain ⟨a, b, ⟨c, ⟨d, e⟩, f, g, h, i, j, k, l, m, o, p, q, r, s⟩, t, u, ⟨v, w⟩, x, y⟩ := x
  obtain ⟨h_a, h_b, ⟨h_c, ⟨h_d, h_e⟩, h_f, h_g, h_h, h_i, h_j, h_k, h_l, h_m, h_o, h_p, h_q, h_r, h_s⟩, h_t, h_u, ⟨h_v, h_w⟩, h_x, h_y⟩ := h
  simp only [e_T_laws_eqDaemon, q_eqMate ⟨h_c, ⟨h_d, h_e⟩, h_f, h_g, h_h, h_i, h_j, h_k, h_l, h_m, h_o, h_p, h_q, h_r, h_s⟩, q_eqRing ⟨h_v, h_w⟩, q_eqBundleS h_x, q_eqEventS h_y, Option.bind_some, beq_self_eq_true, Bool.not_true, cond_false]
theorem q_eqDaemonS {a : (ET.sl false (.pair (.int .i64) (.pair .bool (.pair (.pair (.int .i64) (.pair (.pair (.int .i64) (.sl false (.int .i64))) (.pair (.sl false (.pair (.int .i64) (.pair (.int .i64) (.pair (.int .i64) .str)))) (.pair (.sl false (.int .i64)) (.pair (.sl false .str) (.pair (.int .i64) (.pair (.int .i64) (.pair (.int .i64) (.pair (.int .i64) (.pair (.int .i64) (.pair (.int .i64) (.pair (.int .i64) (.pair (.int .i64) (.pair (.int .i64) (.sl false (.int .i64)))))))))))))))) (.pair (.int .i64) (.pair (.int .i64) (.pair (.pair (.int .i64) (.sl false (.int .i64))) (.pair (.sl false (.pair (.int .i64) (.pair (.int .i64) (.pair (.int .i64) (.sl false (.pair (.int .i64) (.pair (.int .i64) (.pair (.int .i64) .str)))))))) (.sl false (.pair (.int .i64) (.pair (.pair (.int .i64) (.sl false (.int .i64))) (.pair (.pair (.int .i64) (.pair (.int .i64) (.pair (.int .i64) .str))) (.sl false (.int .i64)))))))))))))).den} (h : (ET.sl false (.pair (.int .i64) (.pair .bool (.pair (.pair (.int .i64) (.pair (.pair (.int .i64) (.sl false (.int .i64))) (.pair (.sl false (.pair (.int .i64) (.pair (.int .i64) (.pair (.int .i64) .str)))) (.pair (.sl false (.int .i64)) (.pair (.sl false .str) (.pair (.int .i64) (.pair (.int .i64) (.pair (.int .i64) (.pair (.int .i64) (.pair (.int .i64) (.pair (.int .i64) (.pair (.int .i64) (.pair (.int .i64) (.pair (.int .i64) (.sl false (.int .i64)))))))))))))))) (.pair (.int .i64) (.pair (.int .i64) (.pair (.pair (.int .i64) (.sl false (.int .i64))) (.pair (.sl false (.pair (.int .i64) (.pair (.int .i64) (.pair (.int .i64) (.sl false (.pair (.int .i64) (.pair (.int .i64) (.pair (.int .i64) .str)))))))) (.sl false (.pair (.int .i64) (.pair (.pair (.int .i64) (.sl false (.int .i64))) (.pair (.pair (.int .i64) (.pair (.int .i64) (.pair (.int .i64) .str))) (.sl false (.int .i64)))))))))))))).small a) : T_laws_eqDaemonS (a, a) = some true := by
  have h1 : a.length ≤ 1048576 := h.1
  rw [e_T_laws_eqDaemonS, eq_sl (L := L_laws_eqDaemonS_1) (Nat.le_trans h1 (by decide)) (fun n i y hy => ?_) (fun n => ?_)]
  · simp
  · have hlt := (List.getElem?_eq_some_iff.1 hy).1
    rw [e_L_laws_eqDaemonS_1]
    simp only [show ((i : Int) < (a.length : Int)) by omega, decide_true, cond_true, Int.natCast_nonneg, if_true, Int.toNat_natCast, hy, Option.bind_some, beq_self_eq_true, Bool.not_true, cond_false, q_eqDaemon (h.2 y (List.mem_of_getElem? hy))]
    rw [wrap_ok (by omega) (by omega)]
  · rw [e_L_laws_eqDaemonS_1]; simp
theorem q_eqLetter {x : (ET.pair (.int .i64) (.pair (.int .i64) (.pair (.int .i64) (.pair (.pair (.int .i64) (.pair (.int .i64) (.pair (.int .i64) .str))) (.pair (.pair (.int .i64) (.pair (.int .i64) (.pair (.int .i64) (.pair (.int .i64) (.pair (.int .i64) (.sl false (.int .i64))))))) (.pair (.int .i64) (.pair (.int .i64) (.pair (.int .i64) (.sl false (.pair (.int .i64) (.pair (.int .i64) (.pair (.int .i64) .str)))))))))))).den} (h : (ET.pair (.int .i64) (.pair (.int .i64) (.pair (.int .i64) (.pair (.pair (.int .i64) (.pair (.int .i64) (.pair (.int .i64) .str))) (.pair (.pair (.int .i64) (.pair (.int .i64) (.pair (.int .i64) (.pair (.int .i64) (.pair (.int .i64) (.sl false (.int .i64))))))) (.pair (.int .i64) (.pair (.int .i64) (.pair (.int .i64) (.sl false (.pair (.int .i64) (.pair (.int .i64) (.pair (.int .i64) .str)))))))))))).small x) : T_laws_eqLetter (x, x) = some true := by
  obtain ⟨a, b, c, ⟨d, e, f, g⟩, ⟨h, i, j, k, l, m⟩, o, p, q, r⟩ := x
  obtain ⟨h_a, h_b, h_c, ⟨h_d, h_e, h_f, h_g⟩, ⟨h_h, h_i, h_j, h_k, h_l, h_m⟩, h_o, h_p, h_q, h_r⟩ := h
  simp only [e_T_laws_eqLetter, q_eqItem ⟨h_d, h_e, h_f, h_g⟩, q_eqToken ⟨h_h, h_i, h_j, h_k, h_l, h_m⟩, q_eqBundle ⟨h_o, h_p, h_q, h_r⟩, Option.bind_some, beq_self_eq_true, Bool.not_true, cond_false]
theorem q_eqLetterS {a : (ET.sl false (.pair (.int .i64) (.pair (.int .i64) (.pair (.int .i64) (.pair (.pair (.int .i64) (.pair (.int .i64) (.pair (.int .i64) .str))) (.pair (.pair (.int .i64) (.pair (.int .i64) (.pair (.int .i64) (.pair (.int .i64) (.pair (.int .i64) (.sl false (.int .i64))))))) (.pair (.int .i64) (.pair (.int .i64) (.pair (.int .i64) (.sl false (.pair (.int .i64) (.pair (.int .i64) (.pair (.int .i64) .str))))))))))))).den} (h : (ET.sl false (.pair (.int .i64) (.pair (.int .i64) (.pair (.int .i64) (.pair (.pair (.int .i64) (.pair (.int .i64) (.pair (.int .i64) .str))) (.pair (.pair (.int .i64) (.pair (.int .i64) (.pair (.int .i64) (.pair (.int .i64) (.pair (.int .i64) (.sl false (.int .i64))))))) (.pair (.int .i64) (.pair (.int .i64) (.pair (.int .i64) (.sl false (.pair (.int .i64) (.pair (.int .i64) (.pair (.int .i64) .str))))))))))))).small a) : T_laws_eqLetterS (a, a) = some true := by
  have h1 : a.length ≤ 1048576 := h.1
  rw [e_T_laws_eqLetterS, eq_sl (L := L_laws_eqLetterS_1) (Nat.le_trans h1 (by decide)) (fun n i y hy => ?_) (fun n => ?_)]
  · simp
  · have hlt := (List.getElem?_eq_some_iff.1 hy).1
    rw [e_L_laws_eqLetterS_1]
    simp only [show ((i : Int) < (a.length : Int)) by omega, decide_true, cond_true, Int.natCast_nonneg, if_true, Int.toNat_natCast, hy, Option.bind_some, beq_self_eq_true, Bool.not_true, cond_false, q_eqLetter (h.2 y (List.mem_of_getElem? hy))]
    rw [wrap_ok (by omega) (by omega)]
  · rw [e_L_laws_eqLetterS_1]; simp
theorem q_eqWorld {x : (ET.pair (.sl false (.pair (.int .i64) (.sl false (.int .i64)))) (.pair (.sl false (.pair (.int .i64) (.pair .bool (.pair (.pair (.int .i64) (.pair (.pair (.int .i64) (.sl false (.int .i64))) (.pair (.sl false (.pair (.int .i64) (.pair (.int .i64) (.pair (.int .i64) .str)))) (.pair (.sl false (.int .i64)) (.pair (.sl false .str) (.pair (.int .i64) (.pair (.int .i64) (.pair (.int .i64) (.pair (.int .i64) (.pair (.int .i64) (.pair (.int .i64) (.pair (.int .i64) (.pair (.int .i64) (.pair (.int .i64) (.sl false (.int .i64)))))))))))))))) (.pair (.int .i64) (.pair (.int .i64) (.pair (.pair (.int .i64) (.sl false (.int .i64))) (.pair (.sl false (.pair (.int .i64) (.pair (.int .i64) (.pair (.int .i64) (.sl false (.pair (.int .i64) (.pair (.int .i64) (.pair (.int .i64) .str)))))))) (.sl false (.pair (.int .i64) (.pair (.pair (.int .i64) (.sl false (.int .i64))) (.pair (.pair (.int .i64) (.pair (.int .i64) (.pair (.int .i64) .str))) (.sl false (.int .i64)))))))))))))) (.pair (.sl false (.pair (.int .i64) (.pair (.int .i64) (.pair (.int .i64) (.pair (.pair (.int .i64) (.pair (.int .i64) (.pair (.int .i64) .str))) (.pair (.pair (.int .i64) (.pair (.int .i64) (.pair (.int .i64) (.pair (.int .i64) (.pair (.int .i64) (.sl false (.int .i64))))))) (.pair (.int .i64) (.pair (.int .i64) (.pair (.int .i64) (.sl false (.pair (.int .i64) (.pair (.int .i64) (.pair (.int .i64) .str))))))))))))) (.sl false (.pair (.int .i64) (.pair (.pair (.int .i64) (.sl false (.int .i64))) (.pair (.pair (.int .i64) (.pair (.int .i64) (.pair (.int .i64) .str))) (.sl false (.int .i64))))))))).den} (h : (ET.pair (.sl false (.pair (.int .i64) (.sl false (.int .i64)))) (.pair (.sl false (.pair (.int .i64) (.pair .bool (.pair (.pair (.int .i64) (.pair (.pair (.int .i64) (.sl false (.int .i64))) (.pair (.sl false (.pair (.int .i64) (.pair (.int .i64) (.pair (.int .i64) .str)))) (.pair (.sl false (.int .i64)) (.pair (.sl false .str) (.pair (.int .i64) (.pair (.int .i64) (.pair (.int .i64) (.pair (.int .i64) (.pair (.int .i64) (.pair (.int .i64) (.pair (.int .i64) (.pair (.int .i64) (.pair (.int .i64) (.sl false (.int .i64)))))))))))))))) (.pair (.int .i64) (.pair (.int .i64) (.pair (.pair (.int .i64) (.sl false (.int .i64))) (.pair (.sl false (.pair (.int .i64) (.pair (.int .i64) (.pair (.int .i64) (.sl false (.pair (.int .i64) (.pair (.int .i64) (.pair (.int .i64) .str)))))))) (.sl false (.pair (.int .i64) (.pair (.pair (.int .i64) (.sl false (.int .i64))) (.pair (.pair (.int .i64) (.pair (.int .i64) (.pair (.int .i64) .str))) (.sl false (.int .i64)))))))))))))) (.pair (.sl false (.pair (.int .i64) (.pair (.int .i64) (.pair (.int .i64) (.pair (.pair (.int .i64) (.pair (.int .i64) (.pair (.int .i64) .str))) (.pair (.pair (.int .i64) (.pair (.int .i64) (.pair (.int .i64) (.pair (.int .i64) (.pair (.int .i64) (.sl false (.int .i64))))))) (.pair (.int .i64) (.pair (.int .i64) (.pair (.int .i64) (.sl false (.pair (.int .i64) (.pair (.int .i64) (.pair (.int .i64) .str))))))))))))) (.sl false (.pair (.int .i64) (.pair (.pair (.int .i64) (.sl false (.int .i64))) (.pair (.pair (.int .i64) (.pair (.int .i64) (.pair (.int .i64) .str))) (.sl false (.int .i64))))))))).small x) : T_laws_eqWorld (x, x) = some true := by
  obtain ⟨a, b, c, d⟩ := x
  obtain ⟨h_a, h_b, h_c, h_d⟩ := h
  simp only [e_T_laws_eqWorld, q_eqRingS h_a, q_eqDaemonS h_b, q_eqLetterS h_c, q_eqEventS h_d, Option.bind_some, beq_self_eq_true, Bool.not_true, cond_false]
theorem q_eqReader {x : (ET.pair .str .bool).den} (h : (ET.pair .str .bool).small x) : T_laws_eqReader (x, x) = some true := by
  obtain ⟨a, b⟩ := x
  obtain ⟨h_a, h_b⟩ := h
  simp only [e_T_laws_eqReader, Option.bind_some, beq_self_eq_true, Bool.not_true, cond_false]
theorem q_eqSession {x : (ET.pair (.int .i64) (.pair .str (.pair (.pair .str .bool) (.pair .bool (.sl false .str))))).den} (h : (ET.pair (.int .i64) (.pair .str (.pair (.pair .str .bool) (.pair .bool (.sl false .str))))).small x) : T_laws_eqSession (x, x) = some true := by
  obtain ⟨a, b, ⟨c, d⟩, e, f⟩ := x
  obtain ⟨h_a, h_b, ⟨h_c, h_d⟩, h_e, h_f⟩ := h
  simp only [e_T_laws_eqSession, q_eqReader ⟨h_c, h_d⟩, q_eqStringS h_f, Option.bind_some, beq_self_eq_true, Bool.not_true, cond_false]
theorem q_eqBox {x : (ET.pair .str (.pair (.sl false .str) .bool)).den} (h : (ET.pair .str (.pair (.sl false .str) .bool)).small x) : T_laws_eqBox (x, x) = some true := by
  obtain ⟨a, b, c⟩ := x
  obtain ⟨h_a, h_b, h_c⟩ := h
  simp only [e_T_laws_eqBox, q_eqStringS h_b, Option.bind_some, beq_self_eq_true, Bool.not_true, cond_false]
theorem q_eqCaller {x : (ET.pair (.pair (.int .i64) (.pair .str (.pair (.pair .str .bool) (.pair .bool (.sl false .str))))) (.pair (.pair .str (.pair (.sl false .str) .bool)) (.pair .str (.sl false .str)))).den} (h : (ET.pair (.pair (.int .i64) (.pair .str (.pair (.pair .str .bool) (.pair .bool (.sl false .str))))) (.pair (.pair .str (.pair (.sl false .str) .bool)) (.pair .str (.sl false .str)))).small x) : T_laws_eqCaller (x, x) = some true := by
  obtain ⟨⟨a, b, ⟨c, d⟩, e, f⟩, ⟨g, h, i⟩, j, k⟩ := x
  obtain ⟨⟨h_a, h_b, ⟨h_c, h_d⟩, h_e, h_f⟩, ⟨h_g, h_h, h_i⟩, h_j, h_k⟩ := h
  simp only [e_T_laws_eqCaller, q_eqSession ⟨h_a, h_b, ⟨h_c, h_d⟩, h_e, h_f⟩, q_eqBox ⟨h_g, h_h, h_i⟩, q_eqStringS h_k, Option.bind_some, beq_self_eq_true, Bool.not_true, cond_false]
theorem q_eqCallerS {a : (ET.sl false (.pair (.pair (.int .i64) (.pair .str (.pair (.pair .str .bool) (.pair .bool (.sl false .str))))) (.pair (.pair .str (.pair (.sl false .str) .bool)) (.pair .str (.sl false .str))))).den} (h : (ET.sl false (.pair (.pair (.int .i64) (.pair .str (.pair (.pair .str .bool) (.pair .bool (.sl false .str))))) (.pair (.pair .str (.pair (.sl false .str) .bool)) (.pair .str (.sl false .str))))).small a) : T_laws_eqCallerS (a, a) = some true := by
  have h1 : a.length ≤ 1048576 := h.1
  rw [e_T_laws_eqCallerS, eq_sl (L := L_laws_eqCallerS_1) (Nat.le_trans h1 (by decide)) (fun n i y hy => ?_) (fun n => ?_)]
  · simp
  · have hlt := (List.getElem?_eq_some_iff.1 hy).1
    rw [e_L_laws_eqCallerS_1]
    simp only [show ((i : Int) < (a.length : Int)) by omega, decide_true, cond_true, Int.natCast_nonneg, if_true, Int.toNat_natCast, hy, Option.bind_some, beq_self_eq_true, Bool.not_true, cond_false, q_eqCaller (h.2 y (List.mem_of_getElem? hy))]
    rw [wrap_ok (by omega) (by omega)]
  · rw [e_L_laws_eqCallerS_1]; simp
theorem q_eqGroup {x : (ET.pair .str (.sl false .str)).den} (h : (ET.pair .str (.sl false .str)).small x) : T_laws_eqGroup (x, x) = some true := by
  obtain ⟨a, b⟩ := x
  obtain ⟨h_a, h_b⟩ := h
  simp only [e_T_laws_eqGroup, q_eqStringS h_b, Option.bind_some, beq_self_eq_true, Bool.not_true, cond_false]
theorem q_eqGroupS {a : (ET.sl false (.pair .str (.sl false .str))).den} (h : (ET.sl false (.pair .str (.sl false .str))).small a) : T_laws_eqGroupS (a, a) = some true := by
  have h1 : a.length ≤ 1048576 := h.1
  rw [e_T_laws_eqGroupS, eq_sl (L := L_laws_eqGroupS_1) (Nat.le_trans h1 (by decide)) (fun n i y hy => ?_) (fun n => ?_)]
  · simp
  · have hlt := (List.getElem?_eq_some_iff.1 hy).1
    rw [e_L_laws_eqGroupS_1]
    simp only [show ((i : Int) < (a.length : Int)) by omega, decide_true, cond_true, Int.natCast_nonneg, if_true, Int.toNat_natCast, hy, Option.bind_some, beq_self_eq_true, Bool.not_true, cond_false, q_eqGroup (h.2 y (List.mem_of_getElem? hy))]
    rw [wrap_ok (by omega) (by omega)]
  · rw [e_L_laws_eqGroupS_1]; simp
theorem q_eqTable {a : (ET.sl false (.pair .str (.sl false .str))).den} (h_a : (ET.sl false (.pair .str (.sl false .str))).small a) : T_laws_eqTable (a, a) = some true := by
  simp only [e_T_laws_eqTable, q_eqGroupS h_a, Option.bind_some, beq_self_eq_true, Bool.not_true, cond_false]
theorem q_eqTableS {a : (ET.sl false (.sl false (.pair .str (.sl false .str)))).den} (h : (ET.sl false (.sl false (.pair .str (.sl false .str)))).small a) : T_laws_eqTableS (a, a) = some true := by
  have h1 : a.length ≤ 1048576 := h.1
  rw [e_T_laws_eqTableS, eq_sl (L := L_laws_eqTableS_1) (Nat.le_trans h1 (by decide)) (fun n i y hy => ?_) (fun n => ?_)]
  · simp
  · have hlt := (List.getElem?_eq_some_iff.1 hy).1
    rw [e_L_laws_eqTableS_1]
    simp only [show ((i : Int) < (a.length : Int)) by omega, decide_true, cond_true, Int.natCast_nonneg, if_true, Int.toNat_natCast, hy, Option.bind_some, beq_self_eq_true, Bool.not_true, cond_false, q_eqTable (h.2 y (List.mem_of_getElem? hy))]
    rw [wrap_ok (by omega) (by omega)]
  · rw [e_L_laws_eqTableS_1]; simp
theorem q_eqHall {x : (ET.pair (.pair (.sl false (.pair (.int .i64) (.sl false (.int .i64)))) (.pair (.sl false (.pair (.int .i64) (.pair .bool (.pair (.pair (.int .i64) (.pair (.pair (.int .i64) (.sl false (.int .i64))) (.pair (.sl false (.pair (.int .i64) (.pair (.int .i64) (.pair (.int .i64) .str)))) (.pair (.sl false (.int .i64)) (.pair (.sl false .str) (.pair (.int .i64) (.pair (.int .i64) (.pair (.int .i64) (.pair (.int .i64) (.pair (.int .i64) (.pair (.int .i64) (.pair (.int .i64) (.pair (.int .i64) (.pair (.int .i64) (.sl false (.int .i64)))))))))))))))) (.pair (.int .i64) (.pair (.int .i64) (.pair (.pair (.int .i64) (.sl false (.int .i64))) (.pair (.sl false (.pair (.int .i64) (.pair (.int .i64) (.pair (.int .i64) (.sl false (.pair (.int .i64) (.pair (.int .i64) (.pair (.int .i64) .str)))))))) (.sl false (.pair (.int .i64) (.pair (.pair (.int .i64) (.sl false (.int .i64))) (.pair (.pair (.int .i64) (.pair (.int .i64) (.pair (.int .i64) .str))) (.sl false (.int .i64)))))))))))))) (.pair (.sl false (.pair (.int .i64) (.pair (.int .i64) (.pair (.int .i64) (.pair (.pair (.int .i64) (.pair (.int .i64) (.pair (.int .i64) .str))) (.pair (.pair (.int .i64) (.pair (.int .i64) (.pair (.int .i64) (.pair (.int .i64) (.pair (.int .i64) (.sl false (.int .i64))))))) (.pair (.int .i64) (.pair (.int .i64) (.pair (.int .i64) (.sl false (.pair (.int .i64) (.pair (.int .i64) (.pair (.int .i64) .str))))))))))))) (.sl false (.pair (.int .i64) (.pair (.pair (.int .i64) (.sl false (.int .i64))) (.pair (.pair (.int .i64) (.pair (.int .i64) (.pair (.int .i64) .str))) (.sl false (.int .i64))))))))) (.pair (.sl false (.pair (.pair (.int .i64) (.pair .str (.pair (.pair .str .bool) (.pair .bool (.sl false .str))))) (.pair (.pair .str (.pair (.sl false .str) .bool)) (.pair .str (.sl false .str))))) (.pair (.sl false (.sl false (.pair .str (.sl false .str)))) (.sl false (.int .i64))))).den} (h : (ET.pair (.pair (.sl false (.pair (.int .i64) (.sl false (.int .i64)))) (.pair (.sl false (.pair (.int .i64) (.pair .bool (.pair (.pair (.int .i64) (.pair (.pair (.int .i64) (.sl false (.int .i64))) (.pair (.sl false (.pair (.int .i64) (.pair (.int .i64) (.pair (.int .i64) .str)))) (.pair (.sl false (.int .i64)) (.pair (.sl false .str) (.pair (.int .i64) (.pair (.int .i64) (.pair (.int .i64) (.pair (.int .i64) (.pair (.int .i64) (.pair (.int .i64) (.pair (.int .i64) (.pair (.int .i64) (.pair (.int .i64) (.sl false (.int .i64)))))))))))))))) (.pair (.int .i64) (.pair (.int .i64) (.pair (.pair (.int .i64) (.sl false (.int .i64))) (.pair (.sl false (.pair (.int .i64) (.pair (.int .i64) (.pair (.int .i64) (.sl false (.pair (.int .i64) (.pair (.int .i64) (.pair (.int .i64) .str)))))))) (.sl false (.pair (.int .i64) (.pair (.pair (.int .i64) (.sl false (.int .i64))) (.pair (.pair (.int .i64) (.pair (.int .i64) (.pair (.int .i64) .str))) (.sl false (.int .i64)))))))))))))) (.pair (.sl false (.pair (.int .i64) (.pair (.int .i64) (.pair (.int .i64) (.pair (.pair (.int .i64) (.pair (.int .i64) (.pair (.int .i64) .str))) (.pair (.pair (.int .i64) (.pair (.int .i64) (.pair (.int .i64) (.pair (.int .i64) (.pair (.int .i64) (.sl false (.int .i64))))))) (.pair (.int .i64) (.pair (.int .i64) (.pair (.int .i64) (.sl false (.pair (.int .i64) (.pair (.int .i64) (.pair (.int .i64) .str))))))))))))) (.sl false (.pair (.int .i64) (.pair (.pair (.int .i64) (.sl false (.int .i64))) (.pair (.pair (.int .i64) (.pair (.int .i64) (.pair (.int .i64) .str))) (.sl false (.int .i64))))))))) (.pair (.sl false (.pair (.pair (.int .i64) (.pair .str (.pair (.pair .str .bool) (.pair .bool (.sl false .str))))) (.pair (.pair .str (.pair (.sl false .str) .bool)) (.pair .str (.sl false .str))))) (.pair (.sl false (.sl false (.pair .str (.sl false .str)))) (.sl false (.int .i64))))).small x) : T_laws_eqHall (x, x) = some true := by
  obtain ⟨⟨a, b, c, d⟩, e, f, g⟩ := x
  obtain ⟨⟨h_a, h_b, h_c, h_d⟩, h_e, h_f, h_g⟩ := h
  simp only [e_T_laws_eqHall, q_eqWorld ⟨h_a, h_b, h_c, h_d⟩, q_eqCallerS h_e, q_eqTableS h_f, q_eqIntS h_g, Option.bind_some, beq_self_eq_true, Bool.not_true, cond_false]
theorem small_len {s : List UInt8} (h : ET.str.small s) : s.length ≤ maxLen := Nat.le_trans h (by decide)
theorem smallL_len {e : ET} {o : Bool} {s : List e.den} (h : (ET.sl o e).small s) : s.length ≤ maxLen := Nat.le_trans h.1 (by decide)
theorem x_inRange (a b c : Int) : T_spec_l01In (a, b, c) = some (decide (b ≤ a ∧ a ≤ c)) ∧ T_impl_inRange (a, b, c) = some (decide (b ≤ a ∧ a ≤ c)) := by
  rw [e_T_spec_l01In, e_T_impl_inRange]
  by_cases h : b ≤ a <;> simp [h]
abbrev StrT := List UInt8
def once (a b l : List StrT) (s : StrT) : Bool := ((a.count s : Int) == 1) && ((b.count s : Int) == 1) && ((l.count s : Int) == 1)
def plcF (s : StrT) : List StrT → Nat → Int
  | [], _ => -1
  | y :: ys, i => bif y == s then (i : Int) else plcF s ys (i + 1)
def plc (b : List StrT) (s : StrT) : Int := plcF s b 0
theorem plcF_le {s : StrT} : ∀ {b : List StrT} {i j : Nat}, b[j]? = some s → plcF s b i ≤ (i + j : Nat) ∧ (i : Int) ≤ plcF s b i ∧ b[(plcF s b i - i).toNat]? = some s
  | [], i, j, h => by simp at h
  | y :: ys, i, 0, h => by
    simp only [List.getElem?_cons_zero, Option.some.injEq] at h
    subst h
    simp only [plcF, beq_self_eq_true, cond_true]
    refine ⟨by omega, by omega, ?_⟩
    simp
  | y :: ys, i, j + 1, h => by
    simp only [List.getElem?_cons_succ] at h
    simp only [plcF]
    cases hy : y == s
    · obtain ⟨h1, h2, h3⟩ := plcF_le (i := i + 1) h
      simp only [cond_false]
      refine ⟨by omega, by omega, ?_⟩
      have : (plcF s ys (i + 1) - (i : Int)).toNat = (plcF s ys (i + 1) - ((i + 1 : Nat) : Int)).toNat + 1 := by omega
      rw [this, List.getElem?_cons_succ]; exact h3
    · simp only [cond_true]
      have := eq_of_beq hy
      subst this
      exact ⟨by omega, by omega, by simp⟩
theorem plc_le {s : StrT} {b : List StrT} {j : Nat} (h : b[j]? = some s) : plc b s ≤ j ∧ 0 ≤ plc b s ∧ b[(plc b s).toNat]? = some s := by
  have := plcF_le (i := 0) h
  simpa [plc] using this
theorem one_at {s : StrT} : ∀ {b : List StrT} {i j : Nat}, b.count s = 1 → b[i]? = some s → b[j]? = some s → i = j
  | [], i, j, h, _, _ => by simp at h
  | y :: ys, i, j, h, hi, hj => by
    by_cases hy : y = s
    · subst hy
      have h0 : ys.count y = 0 := by simpa using h
      have hn : ∀ k : Nat, ys[k]? ≠ some y := fun k hk => (List.count_eq_zero.1 h0) (List.mem_of_getElem? hk)
      cases i with
      | zero => cases j with
        | zero => rfl
        | succ j => exact absurd (by simpa using hj) (hn j)
      | succ i => exact absurd (by simpa using hi) (hn i)
    · have h1 : ys.count s = 1 := by rwa [List.count_cons_of_ne (by simpa using hy)] at h
      cases i with
      | zero => simp at hi; exact absurd hi hy
      | succ i => cases j with
        | zero => simp at hj; exact absurd hj hy
        | succ j => have := one_at (i := i) (j := j) h1 (by simpa using hi) (by simpa using hj); omega
theorem once_count {a b l : List StrT} {s : StrT} (h : once a b l s = true) : a.count s = 1 ∧ b.count s = 1 ∧ l.count s = 1 := by
  simp only [once, Bool.and_eq_true, beq_iff_eq] at h
  omega
theorem once_comm {a b l : List StrT} : once b a l = once a b l := by
  funext s; simp only [once]; rw [Bool.and_comm ((b.count s : Int) == 1)]
def pairB (a b l : List StrT) : Prop := a.Pairwise (fun s t => once a b l s = true → once a b l t = true → ¬ plc b t < plc b s)
theorem pair_iff (a b l : List StrT) : pairB a b l ↔ a.filter (once a b l) = b.filter (once b a l) := by
  rw [once_comm (a := a) (b := b)]
  have hB : (b.filter (once a b l)).Pairwise (fun s t => plc b s ≤ plc b t) := by
    rw [List.pairwise_filter, List.pairwise_iff_getElem]
    intro i j hi hj hij h1 h2
    have e1 := plc_le (List.getElem?_eq_getElem hi)
    have e2 := plc_le (List.getElem?_eq_getElem hj)
    have := one_at (once_count h2).2.1 e2.2.2 (List.getElem?_eq_getElem hj)
    omega
  have hA : pairB a b l ↔ (a.filter (once a b l)).Pairwise (fun s t => plc b s ≤ plc b t) := by
    rw [List.pairwise_filter, pairB]
    constructor
    · intro h; exact h.imp (fun h h1 h2 => by have := h h1 h2; omega)
    · intro h; exact h.imp (fun h h1 h2 => by have := h h1 h2; omega)
  rw [hA]
  constructor
  · intro h
    refine List.Perm.eq_of_pairwise (le := fun s t => plc b s ≤ plc b t) ?_ h hB ?_
    · intro s t hs ht h1 h2
      rw [List.mem_filter] at hs ht
      have m1 : s ∈ b := List.count_pos_iff.1 (by rw [(once_count hs.2).2.1]; exact Nat.one_pos)
      obtain ⟨i, hi⟩ := List.mem_iff_getElem?.1 m1
      obtain ⟨j, hj⟩ := List.mem_iff_getElem?.1 ht.1
      have e1 := plc_le hi
      have e2 := plc_le hj
      have : (plc b s) = plc b t := by omega
      rw [this] at e1
      exact Option.some.inj (e1.2.2.symm.trans e2.2.2)
    · rw [List.perm_iff_count]
      intro s
      by_cases hs : once a b l s = true
      · rw [List.count_filter hs, List.count_filter hs, (once_count hs).1, (once_count hs).2.1]
      · rw [List.count_eq_zero.2 (fun h => hs (List.mem_filter.1 h).2), List.count_eq_zero.2 (fun h => hs (List.mem_filter.1 h).2)]
  · intro h; rw [h]; exact hB
theorem fold_cnt (s : StrT) : ∀ (l : List StrT) (k : Int), 0 ≤ k → k + l.length ≤ 9223372036854775807 → l.foldl (fun c y => bif y == s then IntKind.i64.wrap (c + 1) else c) k = k + (l.count s : Int)
  | [], k, _, _ => by simp
  | y :: l, k, h1, h2 => by
    simp only [List.length_cons] at h2
    simp only [List.foldl_cons, List.count_cons]
    cases y == s
    · rw [cond_false, fold_cnt s l k h1 (by omega)]; simp
    · rw [cond_true, wrap_ok (by omega) (by omega), fold_cnt s l (k + 1) (by omega) (by omega)]; simp; omega
theorem x_count {a : List StrT} {s : StrT} (h : a.length ≤ 4194304) : T_spec_l21Count (a, s) = some (a.count s : Int) := by
  rw [e_T_spec_l21Count]
  have h1 := runL_loop (L := L_spec_l21Count_1) a (fun c i => (a, s, c, i)) (fun c => c) (fun _ y c => .inl (bif y == s then IntKind.i64.wrap (c + 1) else c)) (fun n c i y hy hi => by
    rw [e_L_spec_l21Count_1]
    simp only [show ((i : Int) < (a.length : Int)) by omega, decide_true, cond_true, Int.natCast_nonneg, if_true, Int.toNat_natCast, hy, Option.bind_some]
    cases y == s <;> simp only [cond_true, cond_false, Option.bind_some, Sum.elim_inl, wrap_ok (n := (i : Int) + 1) (by omega) (by omega)]) (fun n s' => by rw [e_L_spec_l21Count_1]; simp) (by rw [maxLen_eq]; omega) 0
  rw [h1, runL_fold, fold_cnt s a 0 (by omega) (by omega)]; simp
theorem x_once {a : List StrT} {s : StrT} (h : a.length ≤ 4194304) : T_impl_isOnce (a, s) = some ((a.count s : Int) == 1) := by
  rw [e_T_impl_isOnce]
  have h1 := runL_loop (L := L_impl_isOnce_1) a (fun c i => (s, c, a, (a.length : Int), i)) (fun c => c) (fun _ y c => .inl (bif y == s then IntKind.i64.wrap (c + 1) else c)) (fun n c i y hy hi => by
    rw [e_L_impl_isOnce_1]
    simp only [show ((i : Int) < (a.length : Int)) by omega, decide_true, cond_true, Int.natCast_nonneg, if_true, Int.toNat_natCast, hy, Option.bind_some]
    cases y == s <;> simp only [cond_true, cond_false, Option.bind_some, Sum.elim_inl, wrap_ok (n := (i : Int) + 1) (by omega) (by omega)]) (fun n s' => by rw [e_L_impl_isOnce_1]; simp) (by rw [maxLen_eq]; omega) 0
  rw [h1, runL_fold, fold_cnt s a 0 (by omega) (by omega)]; simp
theorem runL_plc (s : StrT) : ∀ (l : List StrT) (k : Nat), (Sum.elim (fun _ => (-1 : Int)) (fun r => r) (runL (fun i y (_ : Unit) => bif y == s then (.inr (i : Int) : Unit ⊕ Int) else .inl ()) k l ())) = plcF s l k
  | [], _ => rfl
  | y :: l, k => by
    simp only [runL, plcF]
    cases y == s
    · simpa using runL_plc s l (k + 1)
    · rfl
theorem x_place {a : List StrT} {s : StrT} (h : a.length ≤ 4194304) : T_spec_l21Place (a, s) = some (plc a s) := by
  rw [e_T_spec_l21Place]
  have h1 := runL_loop (L := L_spec_l21Place_1) a (fun (_ : Unit) i => (a, s, i)) (fun _ => ()) (fun i y _ => bif y == s then .inr (i : Int) else .inl ()) (fun n c i y hy hi => by
    rw [e_L_spec_l21Place_1]
    simp only [show ((i : Int) < (a.length : Int)) by omega, decide_true, cond_true, Int.natCast_nonneg, if_true, Int.toNat_natCast, hy, Option.bind_some]
    cases y == s <;> simp only [cond_true, cond_false, Sum.elim_inl, Sum.elim_inr, wrap_ok (n := (i : Int) + 1) (by omega) (by omega)]) (fun n s' => by rw [e_L_spec_l21Place_1]; simp) (by rw [maxLen_eq]; omega) ()
  rw [h1]
  have h2 := runL_plc s a 0
  rw [plc, ← h2]
  cases runL (fun i y (_ : Unit) => bif y == s then (.inr (i : Int) : Unit ⊕ Int) else .inl ()) 0 a () <;> rfl
def badB (a b l : List StrT) (s t : StrT) : Bool := once a b l s && once a b l t && decide (plc b t < plc b s)
theorem x_pair1 {a b l : List StrT} {i : Nat} {t : StrT} (ha : a.length ≤ 4194304) (hb : b.length ≤ 4194304) (hl : l.length ≤ 4194304) (ht : a[i]? = some t) :
    L_spec_l21Pair_1 fuel (a, b, l, (i : Int), 0) = some (bif (a.take i).all (fun s => !badB a b l s t) then .inl (a, b, l, (i : Int)) else .inr false) := by
  have hi := (List.getElem?_eq_some_iff.1 ht).1
  have hlen : (a.take i).length = i := by simp; omega
  have h1 := runL_loop (L := L_spec_l21Pair_1) (a.take i) (fun (_ : Unit) e => (a, b, l, (i : Int), e)) (fun _ => (a, b, l, (i : Int))) (fun _ y _ => bif !badB a b l y t then .inl () else .inr false) (fun n c e y hy he => by
    rw [hlen] at he
    have hy' : a[e]? = some y := by rwa [List.getElem?_take_of_lt he] at hy
    rw [e_L_spec_l21Pair_1]
    simp only [show ((e : Int) < (i : Int)) by omega, decide_true, cond_true, Int.natCast_nonneg, if_true, Int.toNat_natCast, hy', ht, Option.bind_some, x_count ha, x_count hb, x_count hl, x_place hb, wrap_ok (n := (e : Int) + 1) (by omega) (by omega)]
    simp only [badB, once]
    cases (a.count y : Int) == 1 <;> cases (a.count t : Int) == 1 <;> cases (b.count y : Int) == 1 <;> cases (b.count t : Int) == 1 <;> cases (l.count y : Int) == 1 <;> cases (l.count t : Int) == 1 <;> simp only [Bool.not_false, Bool.not_true, cond_true, cond_false, Option.bind_some, Sum.elim_inl, Sum.elim_inr, Bool.and_true, Bool.and_false, Bool.false_and, Bool.true_and, x_place hb, wrap_ok (n := (e : Int) + 1) (by omega) (by omega)] <;> cases decide (plc b t < plc b y) <;> simp only [Bool.not_false, Bool.not_true, cond_true, cond_false, Option.bind_some, Sum.elim_inl, Sum.elim_inr, Bool.and_true, Bool.and_false, Bool.false_and, Bool.true_and, x_place hb, wrap_ok (n := (e : Int) + 1) (by omega) (by omega)]) (fun n s' => by rw [hlen, e_L_spec_l21Pair_1]; simp) (by rw [maxLen_eq]; omega) ()
  rw [h1, runL_all]
  cases (a.take i).all (fun s => !badB a b l s t) <;> rfl
theorem runL_pairs {α : Type} (p : α → α → Bool) (a : List α) : ∀ (l l1 : List α), a = l1 ++ l → l1.Pairwise (fun x y => p x y = true) →
    (a.Pairwise (fun x y => p x y = true) ∧ runL (fun i y (_ : Unit) => bif (a.take i).all (fun x => p x y) then (.inl () : Unit ⊕ Bool) else .inr false) l1.length l () = .inl ()) ∨
    (¬ a.Pairwise (fun x y => p x y = true) ∧ runL (fun i y (_ : Unit) => bif (a.take i).all (fun x => p x y) then (.inl () : Unit ⊕ Bool) else .inr false) l1.length l () = .inr false)
  | [], l1, h, h1 => by rw [List.append_nil] at h; subst h; exact .inl ⟨h1, rfl⟩
  | y :: l, l1, h, h1 => by
    have ht : a.take l1.length = l1 := by rw [h]; simp
    simp only [runL, ht]
    by_cases hp : l1.all (fun x => p x y) = true
    · simp only [hp, cond_true, Sum.elim_inl]
      have := runL_pairs p a l (l1 ++ [y]) (by rw [h]; simp) (by
        rw [List.pairwise_append]
        refine ⟨h1, by simp, fun x hx z hz => ?_⟩
        simp only [List.mem_singleton] at hz
        subst hz
        exact List.all_eq_true.1 hp x hx)
      rwa [List.length_append, List.length_singleton] at this
    · have hf : l1.all (fun x => p x y) = false := by simpa using hp
      simp only [hf, cond_false, Sum.elim_inr]
      refine .inr ⟨fun hc => hp ?_, trivial⟩
      rw [h, List.pairwise_append] at hc
      exact List.all_eq_true.2 fun x hx => hc.2.2 x hx y (by simp)
theorem x_pair {a b l : List StrT} (ha : a.length ≤ 4194304) (hb : b.length ≤ 4194304) (hl : l.length ≤ 4194304) :
    T_spec_l21Pair (a, b, l) = some (a.filter (once a b l) == b.filter (once b a l)) := by
  rw [e_T_spec_l21Pair]
  have h1 := runL_loop (L := L_spec_l21Pair_2) a (fun (_ : Unit) e => (a, b, l, e)) (fun _ => ()) (fun i y _ => bif (a.take i).all (fun s => !badB a b l s y) then .inl () else .inr false) (fun n c i y hy hi => by
    rw [e_L_spec_l21Pair_2]
    simp only [show ((i : Int) < (a.length : Int)) by omega, decide_true, cond_true, x_pair1 ha hb hl hy, Option.bind_some]
    cases (a.take i).all (fun s => !badB a b l s y) <;> simp only [cond_true, cond_false, Sum.elim_inl, Sum.elim_inr, wrap_ok (n := (i : Int) + 1) (by omega) (by omega)]) (fun n s' => by rw [e_L_spec_l21Pair_2]; simp) (by rw [maxLen_eq]; omega) ()
  rw [h1]
  have hpb : a.Pairwise (fun x y => (!badB a b l x y) = true) ↔ pairB a b l := by
    unfold pairB
    have : ∀ x y, ((!badB a b l x y) = true) ↔ (once a b l x = true → once a b l y = true → ¬ plc b y < plc b x) := fun x y => by
      unfold badB
      cases once a b l x <;> cases once a b l y <;> simp
    simp only [this]
  rcases runL_pairs (fun x y => !badB a b l x y) a a [] rfl List.Pairwise.nil with ⟨g1, g2⟩ | ⟨g1, g2⟩
  · rw [show runL _ 0 a () = _ from g2]
    have := (pair_iff a b l).1 (hpb.1 g1)
    simp [this]
  · rw [show runL _ 0 a () = _ from g2]
    have : ¬ a.filter (once a b l) = b.filter (once b a l) := fun hc => g1 (hpb.2 ((pair_iff a b l).2 hc))
    simp [this]
theorem x_shared {a b l : List StrT} (ha : a.length ≤ 4194304) (hb : b.length ≤ 4194304) (hl : l.length ≤ 4194304) : T_impl_sharedBy (a, b, l) = some (a.filter (once a b l)) := by
  rw [e_T_impl_sharedBy]
  obtain ⟨s', h1, h2⟩ := loop_all (L := L_impl_sharedBy_1) a (fun s i => (a, b, l, s, a, (a.length : Int), i)) (fun s => s) (fun i s => s = (a.take i).filter (once a b l)) (fun i y s hy hi hs => by
    refine ⟨(a.take (i + 1)).filter (once a b l), rfl, fun n => ?_⟩
    have hlen : s.length ≤ i := by rw [hs]; exact Nat.le_trans (List.length_filter_le _ _) (by simp; omega)
    have hnext : (a.take (i + 1)).filter (once a b l) = s ++ (bif once a b l y then [y] else []) := by
      rw [List.take_add_one, hy, List.filter_append, ← hs]
      cases h : once a b l y <;> simp [h]
    have hc1 : (s.length + 1) * 16 ≤ 140737488355328 := by omega
    have hc2 : s.length + 1 ≤ 9223372036854775807 := by omega
    rw [e_L_impl_sharedBy_1, hnext, once]
    simp only [show ((i : Int) < (a.length : Int)) by omega, decide_true, cond_true, Int.natCast_nonneg, if_true, Int.toNat_natCast, hy, Option.bind_some, x_once ha, x_once hb, x_once hl, wrap_ok (n := (i : Int) + 1) (by omega) (by omega)]
    cases (a.count y : Int) == 1 <;> cases (b.count y : Int) == 1 <;> cases (l.count y : Int) == 1 <;> simp only [cond_true, cond_false, Option.bind_some, Sum.elim_inl, Bool.and_true, Bool.and_false, Bool.false_and, Bool.true_and, List.append_nil, List.length_singleton, List.append_eq, hc1, hc2, and_self, if_true, wrap_ok (n := (i : Int) + 1) (by omega) (by omega)]) (fun n s hs => by rw [e_L_impl_sharedBy_1]; simp) (by rw [maxLen_eq]; omega) [] (by simp)
  rw [h2, h1]; simp
theorem x_equal {a b : List StrT} (ha : a.length ≤ 4194304) : T_slices_Equal___string_string_ (a, b) = some (a == b) := by
  rw [e_T_slices_Equal___string_string_]
  by_cases hl : a.length = b.length
  · have h1 := runL_loop (L := L_slices_Equal___string_string__1) (a.zip b) (fun (_ : Unit) i => (a, b, (a.length : Int), i)) (fun _ => ()) (fun _ y _ => bif y.1 == y.2 then .inl () else .inr false) (fun n c i y hy hi => by
      rw [List.getElem?_zip_eq_some] at hy
      rw [e_L_slices_Equal___string_string__1]
      have hi' : i < a.length := (List.getElem?_eq_some_iff.1 hy.1).1
      simp only [show ((i : Int) < (a.length : Int)) by omega, decide_true, cond_true, Int.natCast_nonneg, if_true, Int.toNat_natCast, hy.1, hy.2, Option.bind_some]
      cases y.1 == y.2 <;> simp only [cond_true, cond_false, Bool.not_true, Bool.not_false, Sum.elim_inl, Sum.elim_inr, wrap_ok (n := (i : Int) + 1) (by omega) (by omega)]) (fun n s' => by rw [show (a.zip b).length = a.length by rw [List.length_zip]; omega, e_L_slices_Equal___string_string__1]; simp) (by rw [maxLen_eq, List.length_zip]; omega) ()
    have hz : (a.zip b).all (fun y => y.1 == y.2) = (a == b) := by
      clear h1 ha
      induction a generalizing b with
      | nil => cases b with
        | nil => rfl
        | cons _ _ => simp at hl
      | cons x a ih => cases b with
        | nil => simp at hl
        | cons z b => simp only [List.zip_cons_cons, List.all_cons, List.cons_beq_cons, ih (by simpa using hl)]
    rw [show ((a.length : Int) == (b.length : Int)) = true by rw [beq_iff_eq]; omega]
    simp only [Bool.not_true, cond_false]
    rw [h1, runL_all, hz]
    cases a == b <;> rfl
  · have : (a == b) = false := by rw [beq_eq_false_iff_ne]; intro h; exact hl (by rw [h])
    rw [show ((a.length : Int) == (b.length : Int)) = false by rw [beq_eq_false_iff_ne]; omega, this]; rfl
abbrev EventT := Int × (Int × List Int) × (Int × Int × Int × List UInt8) × List Int
def textL (l : List EventT) : List StrT := l.filterMap (fun y => bif y.1 == 1 then some y.2.2.1.2.2.2 else none)
theorem x_textsS {a : List EventT} (ha : a.length ≤ 1048576) : T_spec_l21Texts a = some (textL a) := by
  rw [e_T_spec_l21Texts]
  obtain ⟨s', h1, h2⟩ := loop_all (L := L_spec_l21Texts_1) a (fun s i => (a, s, i)) (fun s => s) (fun i s => s = textL (a.take i)) (fun i y s hy hi hs => by
    refine ⟨textL (a.take (i + 1)), rfl, fun n => ?_⟩
    have hlen : s.length ≤ i := by rw [hs]; exact Nat.le_trans (List.length_filterMap_le _ _) (by simp; omega)
    have hnext : textL (a.take (i + 1)) = s ++ (bif y.1 == 1 then [y.2.2.1.2.2.2] else []) := by
      rw [hs, textL, textL, List.take_add_one, hy, List.filterMap_append]
      cases h : y.1 == 1 <;> simp [h]
    have hc1 : (s.length + 1) * 16 ≤ 140737488355328 := by omega
    have hc2 : s.length + 1 ≤ 9223372036854775807 := by omega
    rw [e_L_spec_l21Texts_1, hnext]
    simp only [show ((i : Int) < (a.length : Int)) by omega, decide_true, cond_true, Int.natCast_nonneg, if_true, Int.toNat_natCast, hy, Option.bind_some]
    cases y.1 == 1 <;> simp only [cond_true, cond_false, Option.bind_some, Sum.elim_inl, List.append_nil, List.length_singleton, List.append_eq, hc1, hc2, and_self, if_true, wrap_ok (n := (i : Int) + 1) (by omega) (by omega)]) (fun n s hs => by rw [e_L_spec_l21Texts_1]; simp) (by rw [maxLen_eq]; omega) [] (by simp [textL])
  rw [h2, h1]; simp
theorem x_textsI {a : List EventT} (ha : a.length ≤ 1048576) : T_impl_textsOf a = some (textL a) := by
  rw [e_T_impl_textsOf]
  obtain ⟨s', h1, h2⟩ := loop_all (L := L_impl_textsOf_1) a (fun s i => (s, a, (a.length : Int), i)) (fun s => s) (fun i s => s = textL (a.take i)) (fun i y s hy hi hs => by
    refine ⟨textL (a.take (i + 1)), rfl, fun n => ?_⟩
    have hlen : s.length ≤ i := by rw [hs]; exact Nat.le_trans (List.length_filterMap_le _ _) (by simp; omega)
    have hnext : textL (a.take (i + 1)) = s ++ (bif y.1 == 1 then [y.2.2.1.2.2.2] else []) := by
      rw [hs, textL, textL, List.take_add_one, hy, List.filterMap_append]
      cases h : y.1 == 1 <;> simp [h]
    have hc1 : (s.length + 1) * 16 ≤ 140737488355328 := by omega
    have hc2 : s.length + 1 ≤ 9223372036854775807 := by omega
    rw [e_L_impl_textsOf_1, hnext]
    simp only [show ((i : Int) < (a.length : Int)) by omega, decide_true, cond_true, Int.natCast_nonneg, if_true, Int.toNat_natCast, hy, Option.bind_some]
    cases y.1 == 1 <;> simp only [cond_true, cond_false, Option.bind_some, Sum.elim_inl, List.append_nil, List.length_singleton, List.append_eq, hc1, hc2, and_self, if_true, wrap_ok (n := (i : Int) + 1) (by omega) (by omega)]) (fun n s hs => by rw [e_L_impl_textsOf_1]; simp) (by rw [maxLen_eq]; omega) [] (by simp [textL])
  rw [h2, h1]; simp
theorem textL_len (a : List EventT) : (textL a).length ≤ a.length := List.length_filterMap_le _ _
theorem x_CloneI {a : List Int} (h : a.length ≤ 1048576) : T_slices_Clone___int_int_ a = some a := by
  rw [e_T_slices_Clone___int_int_, if_pos ⟨by omega, by omega⟩]
  cases a with
  | nil => exact both_same
  | cons x l => rfl
theorem x_copyLog {a : List EventT} (ha : a.length ≤ 1048576) (hm : ∀ y ∈ a, y.2.1.2.length ≤ 1048576 ∧ y.2.2.2.length ≤ 1048576) : T_impl_copyLog a = some a := by
  rw [e_T_impl_copyLog]
  obtain ⟨s', h1, h2⟩ := loop_all (L := L_impl_copyLog_1) a (fun s i => (s, a, (a.length : Int), i)) (fun s => s) (fun i s => s = a.take i) (fun i y s hy hi hs => by
    refine ⟨a.take (i + 1), rfl, fun n => ?_⟩
    have hlen : s.length ≤ i := by rw [hs]; simp; omega
    have hnext : a.take (i + 1) = s ++ [y] := by
      rw [hs, List.take_add_one, hy]; rfl
    have hc1 : (s.length + 1) * 104 ≤ 140737488355328 := by omega
    have hc2 : s.length + 1 ≤ 9223372036854775807 := by omega
    obtain ⟨m1, m2⟩ := hm y (List.mem_of_getElem? hy)
    obtain ⟨y1, ⟨y2, y3⟩, ⟨y4, y5, y6, y7⟩, y8⟩ := y
    rw [e_L_impl_copyLog_1, hnext]
    simp only [show ((i : Int) < (a.length : Int)) by omega, decide_true, cond_true, Int.natCast_nonneg, if_true, Int.toNat_natCast, hy, Option.bind_some, e_T_impl_copyEvent, e_T_impl_copyRing, x_CloneI m1, x_CloneI m2, List.length_singleton, List.append_eq, hc1, hc2, and_self, wrap_ok (n := (i : Int) + 1) (by omega) (by omega)]) (fun n s hs => by rw [e_L_impl_copyLog_1]; simp) (by rw [maxLen_eq]; omega) [] (by simp)
  rw [h2, h1]; simp
theorem x_Concat {a : List (List StrT)} (h2 : a.length ≤ 2) (h : ∀ y ∈ a, y.length ≤ 1048576) : T_slices_Concat___string_string_ a = some a.flatten := by
  rw [e_T_slices_Concat___string_string_]
  obtain ⟨s', h1, h3⟩ := loop_all (L := L_slices_Concat___string_string__1) a (fun (s : Int) i => (a, s, a, (a.length : Int), i)) (fun s => (a, s)) (fun i s => 0 ≤ s ∧ s ≤ i * 1048576) (fun i y s hy hi hs => by
    have hl := h y (List.mem_of_getElem? hy)
    refine ⟨s + y.length, ⟨by omega, by omega⟩, fun n => ?_⟩
    rw [e_L_slices_Concat___string_string__1]
    simp only [show ((i : Int) < (a.length : Int)) by omega, decide_true, cond_true, Int.natCast_nonneg, if_true, Int.toNat_natCast, hy, Option.bind_some, wrap_ok (n := s + (y.length : Int)) (by omega) (by omega), show ¬ (s + (y.length : Int) < 0) by omega, decide_false, cond_false, wrap_ok (n := (i : Int) + 1) (by omega) (by omega)]) (fun n s hs => by rw [e_L_slices_Concat___string_string__1]; simp) (by rw [maxLen_eq]; omega) 0 (by simp)
  have hg : T_slices_Grow___string_string_ ([], s') = some [] := by
    unfold T_slices_Grow___string_string_
    simp only
    rw [if_pos ⟨by omega, by omega⟩]
  obtain ⟨s2, h4, h5⟩ := loop_all (L := L_slices_Concat___string_string__2) a (fun (s : List StrT) i => (s, a, (a.length : Int), i)) (fun s => s) (fun i s => s = (a.take i).flatten ∧ s.length ≤ i * 1048576) (fun i y s hy hi hs => by
    have hl := h y (List.mem_of_getElem? hy)
    refine ⟨s ++ y, ⟨by rw [hs.1, List.take_add_one, hy]; simp, by rw [List.length_append]; omega⟩, fun n => ?_⟩
    have hc1 : (s.length + y.length) * 16 ≤ 140737488355328 := by omega
    have hc2 : s.length + y.length ≤ 9223372036854775807 := by omega
    rw [e_L_slices_Concat___string_string__2]
    simp only [show ((i : Int) < (a.length : Int)) by omega, decide_true, cond_true, Int.natCast_nonneg, if_true, Int.toNat_natCast, hy, Option.bind_some, hc1, hc2, and_self, List.append_eq, wrap_ok (n := (i : Int) + 1) (by omega) (by omega)]) (fun n s hs => by rw [e_L_slices_Concat___string_string__2]; simp) (by rw [maxLen_eq]; omega) [] (by simp)
  rw [h3]
  simp only [Option.bind_some, Sum.elim_inl, hg, h5]
  rw [h4.1]; simp
abbrev DaemonT := Int × Bool × (Int × (Int × List Int) × List (Int × Int × Int × List UInt8) × List Int × List (List UInt8) × Int × Int × Int × Int × Int × Int × Int × Int × Int × List Int) × Int × Int × (Int × List Int) × List (Int × Int × Int × List (Int × Int × Int × List UInt8)) × List EventT
abbrev CallerT := (Int × List UInt8 × (List UInt8 × Bool) × Bool × List (List UInt8)) × (List UInt8 × List (List UInt8) × Bool) × List UInt8 × List (List UInt8)
def heardL (e : List CallerT) (i : Nat) : List StrT := match e[i]? with
  | some y => y.2.2.2 ++ y.2.1.2.1
  | none => []
def logL (b : List DaemonT) (d : Int) : List StrT := if 1 ≤ d ∧ d ≤ b.length then (match b[(d - 1).toNat]? with | some y => textL y.2.2.2.2.2.2.2 | none => []) else []
def SmC (e : List CallerT) : Prop := e.length ≤ 1048576 ∧ ∀ y ∈ e, y.2.2.2.length ≤ 1048576 ∧ y.2.1.2.1.length ≤ 1048576
def SmD (b : List DaemonT) : Prop := b.length ≤ 1048576 ∧ ∀ y ∈ b, List.length y.2.2.2.2.2.2.2 ≤ 1048576 ∧ ∀ z ∈ y.2.2.2.2.2.2.2, z.2.1.2.length ≤ 1048576 ∧ z.2.2.2.length ≤ 1048576
theorem heard_len {e : List CallerT} (h : SmC e) (i : Nat) : (heardL e i).length ≤ 4194304 := by
  unfold heardL
  split
  · rename_i y hy
    have := h.2 y (List.mem_of_getElem? hy)
    rw [List.length_append]; omega
  · simp
theorem x_HeardS {a : List (Int × List Int)} {b : List DaemonT} {c : List (Int × Int × Int × (Int × Int × Int × List UInt8) × (Int × Int × Int × Int × Int × List Int) × Int × Int × Int × List (Int × Int × Int × List UInt8))} {d : List EventT} {e : List CallerT} {f : List (List (List UInt8 × List (List UInt8)))} {g : List Int} {i : Nat} (h : SmC e) (hi : i < e.length) :
    T_spec_Heard (((a, b, c, d), e, f, g), IntKind.i64.wrap ((i : Int) + 1)) = some (heardL e i) := by
  obtain ⟨hl, hc⟩ := h
  have hy : e[i]? = some e[i] := List.getElem?_eq_getElem hi
  obtain ⟨h1, h2⟩ := hc e[i] (List.getElem_mem hi)
  rw [wrap_ok (by omega) (by omega), e_T_spec_Heard, (x_inRange _ _ _).1]
  have hw : IntKind.i64.wrap ((i : Int) + 1 - 1) = (i : Int) := by rw [wrap_ok (by omega) (by omega)]; omega
  rw [heardL, hy]
  generalize e[i] = y at h1 h2 hy
  simp only [show (1 : Int) ≤ (i : Int) + 1 ∧ (i : Int) + 1 ≤ (e.length : Int) by omega, and_self, decide_true, Option.bind_some, Bool.not_true, cond_false, hw, Int.natCast_nonneg, if_true, Int.toNat_natCast, hy,
    show (0 + y.2.2.2.length) * 16 ≤ 140737488355328 by omega, show 0 + y.2.2.2.length ≤ 9223372036854775807 by omega, show (y.2.2.2.length + y.2.1.2.1.length) * 16 ≤ 140737488355328 by omega, show y.2.2.2.length + y.2.1.2.1.length ≤ 9223372036854775807 by omega, List.append_eq]
theorem x_HeardI {a : List (Int × List Int)} {b : List DaemonT} {c : List (Int × Int × Int × (Int × Int × Int × List UInt8) × (Int × Int × Int × Int × Int × List Int) × Int × Int × Int × List (Int × Int × Int × List UInt8))} {d : List EventT} {e : List CallerT} {f : List (List (List UInt8 × List (List UInt8)))} {g : List Int} {i : Nat} (h : SmC e) (hi : i < e.length) :
    T_impl_Heard (((a, b, c, d), e, f, g), IntKind.i64.wrap ((i : Int) + 1)) = some (heardL e i) := by
  obtain ⟨hl, hc⟩ := h
  have hy : e[i]? = some e[i] := List.getElem?_eq_getElem hi
  obtain ⟨h1, h2⟩ := hc e[i] (List.getElem_mem hi)
  rw [wrap_ok (by omega) (by omega), e_T_impl_Heard, (x_inRange _ _ _).2]
  have hw : IntKind.i64.wrap ((i : Int) + 1 - 1) = (i : Int) := by rw [wrap_ok (by omega) (by omega)]; omega
  rw [heardL, hy]
  generalize e[i] = y at h1 h2 hy
  have hcc : T_slices_Concat___string_string_ [y.2.2.2, y.2.1.2.1] = some (y.2.2.2 ++ y.2.1.2.1) := by
    rw [x_Concat (by simp) (by simp only [List.mem_cons, List.not_mem_nil, or_false]; rintro z (rfl | rfl) <;> assumption)]; simp
  simp only [show (1 : Int) ≤ (i : Int) + 1 ∧ (i : Int) + 1 ≤ (e.length : Int) by omega, and_self, decide_true, Option.bind_some, Bool.not_true, cond_false, hw, Int.natCast_nonneg, if_true, Int.toNat_natCast, hy, hcc]
theorem log_len {b : List DaemonT} (h : SmD b) (d : Int) : (logL b d).length ≤ 4194304 := by
  unfold logL
  split
  · split
    · rename_i y hy
      have := (h.2 y (List.mem_of_getElem? hy)).1
      have := textL_len y.2.2.2.2.2.2.2
      omega
    · simp
  · simp
theorem x_LogOf {a : List (Int × List Int)} {b : List DaemonT} {c : List (Int × Int × Int × (Int × Int × Int × List UInt8) × (Int × Int × Int × Int × Int × List Int) × Int × Int × Int × List (Int × Int × Int × List UInt8))} {d : List EventT} {e : Int} (h : SmD b) :
    ∃ l, T_impl_LogOf ((a, b, c, d), e) = some l ∧ T_impl_textsOf l = some (logL b e) := by
  rw [e_T_impl_LogOf, (x_inRange _ _ _).2, logL]
  have hl := h.1
  by_cases hr : 1 ≤ e ∧ e ≤ (b.length : Int)
  · have hw : IntKind.i64.wrap (e - 1) = e - 1 := wrap_ok (by omega) (by omega)
    have hy : b[(e - 1).toNat]? = some b[(e - 1).toNat] := List.getElem?_eq_getElem (by omega)
    obtain ⟨h1, h2⟩ := h.2 _ (List.mem_of_getElem? hy)
    rw [if_pos hr]
    simp only [hr, and_self, decide_true, Option.bind_some, Bool.not_true, cond_false, hw, show (0 : Int) ≤ e - 1 by omega, if_true, hy, x_copyLog h1 h2]
    exact ⟨_, rfl, x_textsI h1⟩
  · rw [if_neg hr]
    simp only [hr, decide_false, Option.bind_some, Bool.not_false, cond_true]
    exact ⟨_, rfl, by rw [x_textsI (by simp)]; rfl⟩
def badH (b : List DaemonT) (e : List CallerT) (i k : Nat) (y z : CallerT) : Bool :=
  y.1.1 == z.1.1 && !((heardL e i).filter (once (heardL e i) (heardL e k) (logL b y.1.1)) == (heardL e k).filter (once (heardL e k) (heardL e i) (logL b y.1.1)))
theorem once_nil {a b : List StrT} : once a b [] = fun _ => false := by
  funext s; simp [once]
theorem filt_none (l : List StrT) : l.filter (fun _ => false) = [] := by
  simp
def stI (b : List DaemonT) (e : List CallerT) (i : Nat) (y : CallerT) (k : Nat) (z : CallerT) (_ : Unit) : Unit ⊕ Bool := bif badH b e i k y z then .inr false else .inl ()
def stO (b : List DaemonT) (e : List CallerT) (i : Nat) (y : CallerT) (_ : Unit) : Unit ⊕ Bool := runL (stI b e i y) 0 (e.take i) ()
theorem x_one1S {a : List (Int × List Int)} {b : List DaemonT} {c : List (Int × Int × Int × (Int × Int × Int × List UInt8) × (Int × Int × Int × Int × Int × List Int) × Int × Int × Int × List (Int × Int × Int × List UInt8))} {d : List EventT} {e : List CallerT} {f : List (List (List UInt8 × List (List UInt8)))} {g : List Int} {i : Nat} {y : CallerT} (h : SmC e) (hD : SmD b) (hy : e[i]? = some y) :
    L_spec_OneHeard_1 fuel (((a, b, c, d), e, f, g), (i : Int), 0) = some (Sum.elim (fun _ => .inl (((a, b, c, d), e, f, g), (i : Int))) (fun r => .inr r) (stO b e i y ())) := by
  have hi := (List.getElem?_eq_some_iff.1 hy).1
  have hlen : (e.take i).length = i := by simp; omega
  have hel := h.1
  have hbl := hD.1
  refine runL_loop (L := L_spec_OneHeard_1) (e.take i) (fun (_ : Unit) k => (((a, b, c, d), e, f, g), (i : Int), k)) (fun _ => (((a, b, c, d), e, f, g), (i : Int))) (stI b e i y) (fun n s k z hz hk => ?_) (fun n s' => by rw [hlen, e_L_spec_OneHeard_1]; simp) (by rw [maxLen_eq]; omega) ()
  rw [hlen] at hk
  have hz' : e[k]? = some z := by rwa [List.getElem?_take_of_lt hk] at hz
  have hk' : k < e.length := by omega
  rw [e_L_spec_OneHeard_1]
  simp only [show ((k : Int) < (i : Int)) by omega, decide_true, cond_true, Int.natCast_nonneg, if_true, Int.toNat_natCast, hy, hz', Option.bind_some, x_HeardS h hi, x_HeardS h hk', (x_inRange _ _ _).1, stI, badH, logL]
  cases y.1.1 == z.1.1
  · simp only [cond_false, Bool.false_and, Option.bind_some, Sum.elim_inl, wrap_ok (n := (k : Int) + 1) (by omega) (by omega)]
  · by_cases hr : 1 ≤ y.1.1 ∧ y.1.1 ≤ (b.length : Int)
    · have hw : IntKind.i64.wrap (y.1.1 - 1) = y.1.1 - 1 := wrap_ok (by omega) (by omega)
      have hq : b[(y.1.1 - 1).toNat]? = some b[(y.1.1 - 1).toNat] := List.getElem?_eq_getElem (by omega)
      obtain ⟨g1, g2⟩ := hD.2 _ (List.mem_of_getElem? hq)
      have ht := textL_len b[(y.1.1 - 1).toNat].2.2.2.2.2.2.2
      simp only [hr, and_self, decide_true, cond_true, if_true, hw, show (0 : Int) ≤ y.1.1 - 1 by omega, hq, Option.bind_some, x_textsS g1, x_pair (heard_len h i) (heard_len h k) (show (textL b[(y.1.1 - 1).toNat].2.2.2.2.2.2.2).length ≤ 4194304 by omega), Sum.elim_inl, Bool.true_and]
      cases (heardL e i).filter (once (heardL e i) (heardL e k) (textL b[(y.1.1 - 1).toNat].2.2.2.2.2.2.2)) == (heardL e k).filter (once (heardL e k) (heardL e i) (textL b[(y.1.1 - 1).toNat].2.2.2.2.2.2.2)) <;> simp only [Bool.not_true, Bool.not_false, cond_true, cond_false, Sum.elim_inl, Sum.elim_inr, wrap_ok (n := (k : Int) + 1) (by omega) (by omega)]
    · simp only [hr, decide_false, cond_false, cond_true, if_false, once_nil, Option.bind_some, Sum.elim_inl, filt_none, beq_self_eq_true, Bool.not_true, Bool.and_false, wrap_ok (n := (k : Int) + 1) (by omega) (by omega)]
theorem x_one1I {a : List (Int × List Int)} {b : List DaemonT} {c : List (Int × Int × Int × (Int × Int × Int × List UInt8) × (Int × Int × Int × Int × Int × List Int) × Int × Int × Int × List (Int × Int × Int × List UInt8))} {d : List EventT} {e : List CallerT} {f : List (List (List UInt8 × List (List UInt8)))} {g : List Int} {i : Nat} {y : CallerT} {q r : Int} (h : SmC e) (hD : SmD b) (hy : e[i]? = some y) :
    L_impl_OneHeard_1 fuel (((a, b, c, d), e, f, g), (i : Int), q, r, (((e.take i).drop 0).length : Int), 0) = some (Sum.elim (fun _ => .inl (((a, b, c, d), e, f, g), q, r)) (fun r => .inr r) (stO b e i y ())) := by
  have hi := (List.getElem?_eq_some_iff.1 hy).1
  have hlen : (e.take i).length = i := by simp; omega
  have hel := h.1
  have hbl := hD.1
  rw [List.drop_zero]
  refine runL_loop (L := L_impl_OneHeard_1) (e.take i) (fun (_ : Unit) k => (((a, b, c, d), e, f, g), (i : Int), q, r, ((e.take i).length : Int), k)) (fun _ => (((a, b, c, d), e, f, g), q, r)) (stI b e i y) (fun n s k z hz hk => ?_) (fun n s' => by rw [e_L_impl_OneHeard_1]; simp) (by rw [maxLen_eq]; omega) ()
  have hk1 := hk
  rw [hlen] at hk
  have hz' : e[k]? = some z := by rwa [List.getElem?_take_of_lt hk] at hz
  have hk' : k < e.length := by omega
  obtain ⟨l, g1, g2⟩ := x_LogOf (a := a) (c := c) (d := d) (e := y.1.1) hD
  rw [e_L_impl_OneHeard_1]
  simp only [show ((k : Int) < ((e.take i).length : Int)) by omega, decide_true, cond_true, Int.natCast_nonneg, if_true, Int.toNat_natCast, hy, hz', Option.bind_some, x_HeardI h hi, x_HeardI h hk', stI, badH, g1, g2, x_shared (heard_len h i) (heard_len h k) (log_len hD y.1.1), x_shared (heard_len h k) (heard_len h i) (log_len hD y.1.1), x_equal (Nat.le_trans (List.length_filter_le _ _) (heard_len h i)), show (z.1.1 == y.1.1) = (y.1.1 == z.1.1) from Bool.beq_comm]
  cases y.1.1 == z.1.1
  · simp only [cond_false, cond_true, Bool.not_false, Bool.false_and, Option.bind_some, Sum.elim_inl, wrap_ok (n := (k : Int) + 1) (by omega) (by omega)]
  · cases (heardL e i).filter (once (heardL e i) (heardL e k) (logL b y.1.1)) == (heardL e k).filter (once (heardL e k) (heardL e i) (logL b y.1.1)) <;> simp only [Bool.not_true, Bool.not_false, Bool.true_and, cond_true, cond_false, Option.bind_some, Sum.elim_inl, Sum.elim_inr, wrap_ok (n := (k : Int) + 1) (by omega) (by omega)]
theorem x_OneHeard {a : List (Int × List Int)} {b : List DaemonT} {c : List (Int × Int × Int × (Int × Int × Int × List UInt8) × (Int × Int × Int × Int × Int × List Int) × Int × Int × Int × List (Int × Int × Int × List UInt8))} {d : List EventT} {e : List CallerT} {f : List (List (List UInt8 × List (List UInt8)))} {g : List Int} (h : SmC e) (hD : SmD b) :
    ∃ v, T_spec_OneHeard ((a, b, c, d), e, f, g) = some v ∧ T_impl_OneHeard ((a, b, c, d), e, f, g) = some v := by
  have hel := h.1
  rw [e_T_spec_OneHeard, e_T_impl_OneHeard]
  have h1 := runL_loop (L := L_spec_OneHeard_2) e (fun (_ : Unit) i => (((a, b, c, d), e, f, g), i)) (fun _ => ()) (stO b e) (fun n s i y hy hi => by
    rw [e_L_spec_OneHeard_2]
    simp only [show ((i : Int) < (e.length : Int)) by omega, decide_true, cond_true, x_one1S h hD hy, Option.bind_some]
    cases stO b e i y () <;> simp only [Sum.elim_inl, Sum.elim_inr, wrap_ok (n := (i : Int) + 1) (by omega) (by omega)]) (fun n s' => by rw [e_L_spec_OneHeard_2]; simp) (by rw [maxLen_eq]; omega) ()
  have h2 := runL_loop (L := L_impl_OneHeard_2) e (fun (_ : Unit) i => (((a, b, c, d), e, f, g), (e.length : Int), i)) (fun _ => ()) (stO b e) (fun n s i y hy hi => by
    rw [e_L_impl_OneHeard_2]
    simp only [show ((i : Int) < (e.length : Int)) by omega, show ((i : Int) ≤ (e.length : Int)) by omega, decide_true, cond_true, Int.natCast_nonneg, and_self, if_true, Int.toNat_natCast, x_one1I h hD hy, Option.bind_some]
    cases stO b e i y () <;> simp only [Sum.elim_inl, Sum.elim_inr, wrap_ok (n := (i : Int) + 1) (by omega) (by omega)]) (fun n s' => by rw [e_L_impl_OneHeard_2]; simp) (by rw [maxLen_eq]; omega) ()
  rw [h1, h2]
  cases runL (stO b e) 0 e () with
  | inl _ => exact ⟨true, rfl, rfl⟩
  | inr v => exact ⟨v, rfl, rfl⟩
theorem law_FnExactOneHeard (w : (ET.pair (.pair (.sl false (.pair (.int .i64) (.sl false (.int .i64)))) (.pair (.sl false (.pair (.int .i64) (.pair .bool (.pair (.pair (.int .i64) (.pair (.pair (.int .i64) (.sl false (.int .i64))) (.pair (.sl false (.pair (.int .i64) (.pair (.int .i64) (.pair (.int .i64) .str)))) (.pair (.sl false (.int .i64)) (.pair (.sl false .str) (.pair (.int .i64) (.pair (.int .i64) (.pair (.int .i64) (.pair (.int .i64) (.pair (.int .i64) (.pair (.int .i64) (.pair (.int .i64) (.pair (.int .i64) (.pair (.int .i64) (.sl false (.int .i64)))))))))))))))) (.pair (.int .i64) (.pair (.int .i64) (.pair (.pair (.int .i64) (.sl false (.int .i64))) (.pair (.sl false (.pair (.int .i64) (.pair (.int .i64) (.pair (.int .i64) (.sl false (.pair (.int .i64) (.pair (.int .i64) (.pair (.int .i64) .str)))))))) (.sl false (.pair (.int .i64) (.pair (.pair (.int .i64) (.sl false (.int .i64))) (.pair (.pair (.int .i64) (.pair (.int .i64) (.pair (.int .i64) .str))) (.sl false (.int .i64)))))))))))))) (.pair (.sl false (.pair (.int .i64) (.pair (.int .i64) (.pair (.int .i64) (.pair (.pair (.int .i64) (.pair (.int .i64) (.pair (.int .i64) .str))) (.pair (.pair (.int .i64) (.pair (.int .i64) (.pair (.int .i64) (.pair (.int .i64) (.pair (.int .i64) (.sl false (.int .i64))))))) (.pair (.int .i64) (.pair (.int .i64) (.pair (.int .i64) (.sl false (.pair (.int .i64) (.pair (.int .i64) (.pair (.int .i64) .str))))))))))))) (.sl false (.pair (.int .i64) (.pair (.pair (.int .i64) (.sl false (.int .i64))) (.pair (.pair (.int .i64) (.pair (.int .i64) (.pair (.int .i64) .str))) (.sl false (.int .i64))))))))) (.pair (.sl false (.pair (.pair (.int .i64) (.pair .str (.pair (.pair .str .bool) (.pair .bool (.sl false .str))))) (.pair (.pair .str (.pair (.sl false .str) .bool)) (.pair .str (.sl false .str))))) (.pair (.sl false (.sl false (.pair .str (.sl false .str)))) (.sl false (.int .i64))))).den) (h : (ET.pair (.pair (.sl false (.pair (.int .i64) (.sl false (.int .i64)))) (.pair (.sl false (.pair (.int .i64) (.pair .bool (.pair (.pair (.int .i64) (.pair (.pair (.int .i64) (.sl false (.int .i64))) (.pair (.sl false (.pair (.int .i64) (.pair (.int .i64) (.pair (.int .i64) .str)))) (.pair (.sl false (.int .i64)) (.pair (.sl false .str) (.pair (.int .i64) (.pair (.int .i64) (.pair (.int .i64) (.pair (.int .i64) (.pair (.int .i64) (.pair (.int .i64) (.pair (.int .i64) (.pair (.int .i64) (.pair (.int .i64) (.sl false (.int .i64)))))))))))))))) (.pair (.int .i64) (.pair (.int .i64) (.pair (.pair (.int .i64) (.sl false (.int .i64))) (.pair (.sl false (.pair (.int .i64) (.pair (.int .i64) (.pair (.int .i64) (.sl false (.pair (.int .i64) (.pair (.int .i64) (.pair (.int .i64) .str)))))))) (.sl false (.pair (.int .i64) (.pair (.pair (.int .i64) (.sl false (.int .i64))) (.pair (.pair (.int .i64) (.pair (.int .i64) (.pair (.int .i64) .str))) (.sl false (.int .i64)))))))))))))) (.pair (.sl false (.pair (.int .i64) (.pair (.int .i64) (.pair (.int .i64) (.pair (.pair (.int .i64) (.pair (.int .i64) (.pair (.int .i64) .str))) (.pair (.pair (.int .i64) (.pair (.int .i64) (.pair (.int .i64) (.pair (.int .i64) (.pair (.int .i64) (.sl false (.int .i64))))))) (.pair (.int .i64) (.pair (.int .i64) (.pair (.int .i64) (.sl false (.pair (.int .i64) (.pair (.int .i64) (.pair (.int .i64) .str))))))))))))) (.sl false (.pair (.int .i64) (.pair (.pair (.int .i64) (.sl false (.int .i64))) (.pair (.pair (.int .i64) (.pair (.int .i64) (.pair (.int .i64) .str))) (.sl false (.int .i64))))))))) (.pair (.sl false (.pair (.pair (.int .i64) (.pair .str (.pair (.pair .str .bool) (.pair .bool (.sl false .str))))) (.pair (.pair .str (.pair (.sl false .str) .bool)) (.pair .str (.sl false .str))))) (.pair (.sl false (.sl false (.pair .str (.sl false .str)))) (.sl false (.int .i64))))).ok w) : T_laws_FnExactOneHeard w = some true := by
  obtain ⟨r, h1, h2, h3⟩ := z_szHall w 1048576 h (by decide) (by decide)
  obtain ⟨⟨a, b, c, d⟩, e, f, g⟩ := w
  rw [e_T_laws_FnExactOneHeard, h1]
  simp only [Option.bind_some]
  by_cases hr : r < 0
  · simp [hr]
  · have hs := h3 (by omega)
    obtain ⟨v, h4, h5⟩ := x_OneHeard (a := a) (b := b) (c := c) (d := d) (e := e) (f := f) (g := g) ⟨hs.2.1.1, fun y hy => ⟨(hs.2.1.2 y hy).2.2.2.1, (hs.2.1.2 y hy).2.1.2.1.1⟩⟩ ⟨hs.1.2.1.1, fun y hy => ⟨(hs.1.2.1.2 y hy).2.2.2.2.2.2.2.1, fun z hz => ⟨((hs.1.2.1.2 y hy).2.2.2.2.2.2.2.2 z hz).2.1.2.1, ((hs.1.2.1.2 y hy).2.2.2.2.2.2.2.2 z hz).2.2.2.1⟩⟩⟩
    simp only [hr, decide_false, cond_false, c_toHall hs, Option.bind_some, h4, h5, q_eqHall hs, beq_self_eq_true, Bool.not_true]
end Xs
end Go.Proofs.YtkjpdhdmjjepfaaGreat
