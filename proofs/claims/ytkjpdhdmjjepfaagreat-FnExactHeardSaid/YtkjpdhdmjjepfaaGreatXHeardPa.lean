/- What the reference's function answers, and the program's: the same. -/
import Derived.Test.YtkjpdhdmjjepfaaGreatT10
import Derived.Test.YtkjpdhdmjjepfaaGreatXHeardE
namespace Go.Proofs.YtkjpdhdmjjepfaaGreat
open Go Vm
set_option linter.unusedVariables false
set_option linter.unusedSimpArgs false
namespace Xs
theorem zm_szIntS : SzOkM (.sl false (.int .i64)) T_laws_szIntS :=
  szm_flat (e := (.int .i64)) (fun _ => by simp [ET.ms]) e_T_laws_szIntS
theorem z_szIntS : SzOk (.sl false (.int .i64)) T_laws_szIntS := zm_szIntS.sz
theorem zm_szRing : SzOkM (.pair (.int .i64) (.sl false (.int .i64))) T_laws_szRing := by
  rintro ⟨a, b⟩ n ⟨h_a, h_b⟩ h0 hn
  show SzM n (fun left_ => ET.ms (.pair (.int .i64) (.sl false (.int .i64))) (a, b) ≤ n - left_) _
  rw [e_T_laws_szRing]
  refine SzM.call zm_szIntS h_b (by omega) (by omega) (by omega) fun r1 p1 q1 s1 => ?_
  refine SzM.fin (by omega) ?_
  try simp -implicitDefEqProofs only [ms_pair, ms_int, ms_bool, ms_str] at s1
  try simp -implicitDefEqProofs only [ms_pair, ms_int, ms_bool, ms_str]
  omega
theorem z_szRing : SzOk (.pair (.int .i64) (.sl false (.int .i64))) T_laws_szRing := zm_szRing.sz
theorem zm_szRingS : SzOkM (.sl false (.pair (.int .i64) (.sl false (.int .i64)))) T_laws_szRingS :=
  szm_sl (e := (.pair (.int .i64) (.sl false (.int .i64)))) (fun y b => T_laws_szRing (y, b)) e_T_laws_szRingS e_L_laws_szRingS_1 zm_szRing
theorem z_szRingS : SzOk (.sl false (.pair (.int .i64) (.sl false (.int .i64)))) T_laws_szRingS := zm_szRingS.sz
theorem zm_szItem : SzOkM (.pair (.int .i64) (.pair (.int .i64) (.pair (.int .i64) .str))) T_laws_szItem := by
  rintro ⟨a, b, c, d⟩ n ⟨h_a, h_b, h_c, h_d⟩ h0 hn
  show SzM n (fun left_ => ET.ms (.pair (.int .i64) (.pair (.int .i64) (.pair (.int .i64) .str))) (a, b, c, d) ≤ n - left_) _
  rw [e_T_laws_szItem]
  refine SzM.str h_d (by omega) (by omega) (by omega) fun p1 w1 => ?_
  try rw [w1]
  refine SzM.fin (by omega) ?_
  try simp -implicitDefEqProofs only [ms_pair, ms_int, ms_bool, ms_str]
  omega
theorem z_szItem : SzOk (.pair (.int .i64) (.pair (.int .i64) (.pair (.int .i64) .str))) T_laws_szItem := zm_szItem.sz
theorem zm_szItemS : SzOkM (.sl false (.pair (.int .i64) (.pair (.int .i64) (.pair (.int .i64) .str)))) T_laws_szItemS :=
  szm_sl (e := (.pair (.int .i64) (.pair (.int .i64) (.pair (.int .i64) .str)))) (fun y b => T_laws_szItem (y, b)) e_T_laws_szItemS e_L_laws_szItemS_1 zm_szItem
theorem z_szItemS : SzOk (.sl false (.pair (.int .i64) (.pair (.int .i64) (.pair (.int .i64) .str)))) T_laws_szItemS := zm_szItemS.sz
theorem zm_szStringS : SzOkM (.sl false .str) T_laws_szStringS :=
  szm_sl (e := .str) (fun y b => some (IntKind.i64.wrap (b - (y.length : Int)))) e_T_laws_szStringS e_L_laws_szStringS_1 szm_str
theorem z_szStringS : SzOk (.sl false .str) T_laws_szStringS := zm_szStringS.sz
theorem zm_szToken : SzOkM (.pair (.int .i64) (.pair (.int .i64) (.pair (.int .i64) (.pair (.int .i64) (.pair (.int .i64) (.sl false (.int .i64))))))) T_laws_szToken := by
  rintro ⟨a, b, c, d, e, f⟩ n ⟨h_a, h_b, h_c, h_d, h_e, h_f⟩ h0 hn
  show SzM n (fun left_ => ET.ms (.pair (.int .i64) (.pair (.int .i64) (.pair (.int .i64) (.pair (.int .i64) (.pair (.int .i64) (.sl false (.int .i64))))))) (a, b, c, d, e, f) ≤ n - left_) _
  rw [e_T_laws_szToken]
  refine SzM.call zm_szIntS h_f (by omega) (by omega) (by omega) fun r1 p1 q1 s1 => ?_
  refine SzM.fin (by omega) ?_
  try simp -implicitDefEqProofs only [ms_pair, ms_int, ms_bool, ms_str] at s1
  try simp -implicitDefEqProofs only [ms_pair, ms_int, ms_bool, ms_str]
  omega
theorem z_szToken : SzOk (.pair (.int .i64) (.pair (.int .i64) (.pair (.int .i64) (.pair (.int .i64) (.pair (.int .i64) (.sl false (.int .i64))))))) T_laws_szToken := zm_szToken.sz
theorem zm_szMate : SzOkM (.pair (.int .i64) (.pair (.pair (.int .i64) (.sl false (.int .i64))) (.pair (.sl false (.pair (.int .i64) (.pair (.int .i64) (.pair (.int .i64) .str)))) (.pair (.sl false (.int .i64)) (.pair (.sl false .str) (.pair (.int .i64) (.pair (.int .i64) (.pair (.int .i64) (.pair (.int .i64) (.pair (.int .i64) (.pair (.int .i64) (.pair (.int .i64) (.pair (.int .i64) (.pair (.int .i64) (.sl false (.int .i64)))))))))))))))) T_laws_szMate := by
  rintro ⟨a, ⟨b, c⟩, d, e, f, g, h, i, j, k, l, m, o, p, q⟩ n ⟨h_a, ⟨h_b, h_c⟩, h_d, h_e, h_f, h_g, h_h, h_i, h_j, h_k, h_l, h_m, h_o, h_p, h_q⟩ h0 hn
  show SzM n (fun left_ => ET.ms (.pair (.int .i64) (.pair (.pair (.int .i64) (.sl false (.int .i64))) (.pair (.sl false (.pair (.int .i64) (.pair (.int .i64) (.pair (.int .i64) .str)))) (.pair (.sl false (.int .i64)) (.pair (.sl false .str) (.pair (.int .i64) (.pair (.int .i64) (.pair (.int .i64) (.pair (.int .i64) (.pair (.int .i64) (.pair (.int .i64) (.pair (.int .i64) (.pair (.int .i64) (.pair (.int .i64) (.sl false (.int .i64)))))))))))))))) (a, (b, c), d, e, f, g, h, i, j, k, l, m, o, p, q) ≤ n - left_) _
  rw [e_T_laws_szMate]
  refine SzM.call zm_szRing ⟨h_b, h_c⟩ (by omega) (by omega) (by omega) fun r1 p1 q1 s1 => ?_
  refine SzM.call zm_szItemS h_d (by omega) (by omega) (by omega) fun r2 p2 q2 s2 => ?_
  refine SzM.call zm_szIntS h_e (by omega) (by omega) (by omega) fun r3 p3 q3 s3 => ?_
  refine SzM.call zm_szStringS h_f (by omega) (by omega) (by omega) fun r4 p4 q4 s4 => ?_
  refine SzM.call zm_szToken ⟨h_k, h_l, h_m, h_o, h_p, h_q⟩ (by omega) (by omega) (by omega) fun r5 p5 q5 s5 => ?_
  refine SzM.fin (by omega) ?_
  try simp -implicitDefEqProofs only [ms_pair, ms_int, ms_bool, ms_str] at s1
  try simp -implicitDefEqProofs only [ms_pair, ms_int, ms_bool, ms_str] at s2
  try simp -implicitDefEqProofs only [ms_pair, ms_int, ms_bool, ms_str] at s3
  try simp -implicitDefEqProofs only [ms_pair, ms_int, ms_bool, ms_str] at s4
  try simp -implicitDefEqProofs only [ms_pair, ms_int, ms_bool, ms_str] at s5
  try simp -implicitDefEqProofs only [ms_pair, ms_int, ms_bool, ms_str]
  omega
theorem z_szMate : SzOk (.pair (.int .i64) (.pair (.pair (.int .i64) (.sl false (.int .i64))) (.pair (.sl false (.pair (.int .i64) (.pair (.int .i64) (.pair (.int .i64) .str)))) (.pair (.sl false (.int .i64)) (.pair (.sl false .str) (.pair (.int .i64) (.pair (.int .i64) (.pair (.int .i64) (.pair (.int .i64) (.pair (.int .i64) (.pair (.int .i64) (.pair (.int .i64) (.pair (.int .i64) (.pair (.int .i64) (.sl false (.int .i64)))))))))))))))) T_laws_szMate := zm_szMate.sz
theorem zm_szBundle : SzOkM (.pair (.int .i64) (.pair (.int .i64) (.pair (.int .i64) (.sl false (.pair (.int .i64) (.pair (.int .i64) (.pair (.int .i64) .str))))))) T_laws_szBundle := by
  rintro ⟨a, b, c, d⟩ n ⟨h_a, h_b, h_c, h_d⟩ h0 hn
  show SzM n (fun left_ => ET.ms (.pair (.int .i64) (.pair (.int .i64) (.pair (.int .i64) (.sl false (.pair (.int .i64) (.pair (.int .i64) (.pair (.int .i64) .str))))))) (a, b, c, d) ≤ n - left_) _
  rw [e_T_laws_szBundle]
  refine SzM.call zm_szItemS h_d (by omega) (by omega) (by omega) fun r1 p1 q1 s1 => ?_
  refine SzM.fin (by omega) ?_
  try simp -implicitDefEqProofs only [ms_pair, ms_int, ms_bool, ms_str] at s1
  try simp -implicitDefEqProofs only [ms_pair, ms_int, ms_bool, ms_str]
  omega
theorem z_szBundle : SzOk (.pair (.int .i64) (.pair (.int .i64) (.pair (.int .i64) (.sl false (.pair (.int .i64) (.pair (.int .i64) (.pair (.int .i64) .str))))))) T_laws_szBundle := zm_szBundle.sz
theorem zm_szBundleS : SzOkM (.sl false (.pair (.int .i64) (.pair (.int .i64) (.pair (.int .i64) (.sl false (.pair (.int .i64) (.pair (.int .i64) (.pair (.int .i64) .str)))))))) T_laws_szBundleS :=
  szm_sl (e := (.pair (.int .i64) (.pair (.int .i64) (.pair (.int .i64) (.sl false (.pair (.int .i64) (.pair (.int .i64) (.pair (.int .i64) .str)))))))) (fun y b => T_laws_szBundle (y, b)) e_T_laws_szBundleS e_L_laws_szBundleS_1 zm_szBundle
theorem z_szBundleS : SzOk (.sl false (.pair (.int .i64) (.pair (.int .i64) (.pair (.int .i64) (.sl false (.pair (.int .i64) (.pair (.int .i64) (.pair (.int .i64) .str)))))))) T_laws_szBundleS := zm_szBundleS.sz
theorem zm_szEvent : SzOkM (.pair (.int .i64) (.pair (.pair (.int .i64) (.sl false (.int .i64))) (.pair (.pair (.int .i64) (.pair (.int .i64) (.pair (.int .i64) .str))) (.sl false (.int .i64))))) T_laws_szEvent := by
  rintro ⟨a, ⟨b, c⟩, ⟨d, e, f, g⟩, h⟩ n ⟨h_a, ⟨h_b, h_c⟩, ⟨h_d, h_e, h_f, h_g⟩, h_h⟩ h0 hn
  show SzM n (fun left_ => ET.ms (.pair (.int .i64) (.pair (.pair (.int .i64) (.sl false (.int .i64))) (.pair (.pair (.int .i64) (.pair (.int .i64) (.pair (.int .i64) .str))) (.sl false (.int .i64))))) (a, (b, c), (d, e, f, g), h) ≤ n - left_) _
  rw [e_T_laws_szEvent]
  refine SzM.call zm_szRing ⟨h_b, h_c⟩ (by omega) (by omega) (by omega) fun r1 p1 q1 s1 => ?_
  refine SzM.call zm_szItem ⟨h_d, h_e, h_f, h_g⟩ (by omega) (by omega) (by omega) fun r2 p2 q2 s2 => ?_
  refine SzM.call zm_szIntS h_h (by omega) (by omega) (by omega) fun r3 p3 q3 s3 => ?_
  refine SzM.fin (by omega) ?_
  try simp -implicitDefEqProofs only [ms_pair, ms_int, ms_bool, ms_str] at s1
  try simp -implicitDefEqProofs only [ms_pair, ms_int, ms_bool, ms_str] at s2
  try simp -implicitDefEqProofs only [ms_pair, ms_int, ms_bool, ms_str] at s3
  try simp -implicitDefEqProofs only [ms_pair, ms_int, ms_bool, ms_str]
  omega
theorem z_szEvent : SzOk (.pair (.int .i64) (.pair (.pair (.int .i64) (.sl false (.int .i64))) (.pair (.pair (.int .i64) (.pair (.int .i64) (.pair (.int .i64) .str))) (.sl false (.int .i64))))) T_laws_szEvent := zm_szEvent.sz
theorem zm_szEventS : SzOkM (.sl false (.pair (.int .i64) (.pair (.pair (.int .i64) (.sl false (.int .i64))) (.pair (.pair (.int .i64) (.pair (.int .i64) (.pair (.int .i64) .str))) (.sl false (.int .i64)))))) T_laws_szEventS :=
  szm_sl (e := (.pair (.int .i64) (.pair (.pair (.int .i64) (.sl false (.int .i64))) (.pair (.pair (.int .i64) (.pair (.int .i64) (.pair (.int .i64) .str))) (.sl false (.int .i64)))))) (fun y b => T_laws_szEvent (y, b)) e_T_laws_szEventS e_L_laws_szEventS_1 zm_szEvent
theorem z_szEventS : SzOk (.sl false (.pair (.int .i64) (.pair (.pair (.int .i64) (.sl false (.int .i64))) (.pair (.pair (.int .i64) (.pair (.int .i64) (.pair (.int .i64) .str))) (.sl false (.int .i64)))))) T_laws_szEventS := zm_szEventS.sz
theorem zm_szDaemon : SzOkM (.pair (.int .i64) (.pair .bool (.pair (.pair (.int .i64) (.pair (.pair (.int .i64) (.sl false (.int .i64))) (.pair (.sl false (.pair (.int .i64) (.pair (.int .i64) (.pair (.int .i64) .str)))) (.pair (.sl false (.int .i64)) (.pair (.sl false .str) (.pair (.int .i64) (.pair (.int .i64) (.pair (.int .i64) (.pair (.int .i64) (.pair (.int .i64) (.pair (.int .i64) (.pair (.int .i64) (.pair (.int .i64) (.pair (.int .i64) (.sl false (.int .i64)))))))))))))))) (.pair (.int .i64) (.pair (.int .i64) (.pair (.pair (.int .i64) (.sl false (.int .i64))) (.pair (.sl false (.pair (.int .i64) (.pair (.int .i64) (.pair (.int .i64) (.sl false (.pair (.int .i64) (.pair (.int .i64) (.pair (.int .i64) .str)))))))) (.sl false (.pair (.int .i64) (.pair (.pair (.int .i64) (.sl false (.int .i64))) (.pair (.pair (.int .i64) (.pair (.int .i64) (.pair (.int .i64) .str))) (.sl false (.int .i64))))))))))))) T_laws_szDaemon := by
  rintro ⟨a, b, ⟨c, ⟨d, e⟩, f, g, h, i, j, k, l, m, o, p, q, r, s⟩, t, u, ⟨v, w⟩, x, y⟩ n ⟨h_a, h_b, ⟨h_c, ⟨h_d, h_e⟩, h_f, h_g, h_h, h_i, h_j, h_k, h_l, h_m, h_o, h_p, h_q, h_r, h_s⟩, h_t, h_u, ⟨h_v, h_w⟩, h_x, h_y⟩ h0 hn
  show SzM n (fun left_ => ET.ms (.pair (.int .i64) (.pair .bool (.pair (.pair (.int .i64) (.pair (.pair (.int .i64) (.sl false (.int .i64))) (.pair (.sl false (.pair (.int .i64) (.pair (.int .i64) (.pair (.int .i64) .str)))) (.pair (.sl false (.int .i64)) (.pair (.sl false .str) (.pair (.int .i64) (.pair (.int .i64) (.pair (.int .i64) (.pair (.int .i64) (.pair (.int .i64) (.pair (.int .i64) (.pair (.int .i64) (.pair (.int .i64) (.pair (.int .i64) (.sl false (.int .i64)))))))))))))))) (.pair (.int .i64) (.pair (.int .i64) (.pair (.pair (.int .i64) (.sl false (.int .i64))) (.pair (.sl false (.pair (.int .i64) (.pair (.int .i64) (.pair (.int .i64) (.sl false (.pair (.int .i64) (.pair (.int .i64) (.pair (.int .i64) .str)))))))) (.sl false (.pair (.int .i64) (.pair (.pair (.int .i64) (.sl false (.int .i64))) (.pair (.pair (.int .i64) (.pair (.int .i64) (.pair (.int .i64) .str))) (.sl false (.int .i64))))))))))))) (a, b, (c, (d, e), f, g, h, i, j, k, l, m, o, p, q, r, s), t, u, (v, w), x, y) ≤ n - left_) _
  rw [e_T_laws_szDaemon]
  refine SzM.call zm_szMate ⟨h_c, ⟨h_d, h_e⟩, h_f, h_g, h_h, h_i, h_j, h_k, h_l, h_m, h_o, h_p, h_q, h_r, h_s⟩ (by omega) (by omega) (by omega) fun r1 p1 q1 s1 => ?_
  refine SzM.call zm_szRing ⟨h_v, h_w⟩ (by omega) (by omega) (by omega) fun r2 p2 q2 s2 => ?_
  refine SzM.call zm_szBundleS h_x (by omega) (by omega) (by omega) fun r3 p3 q3 s3 => ?_
  refine SzM.call zm_szEventS h_y (by omega) (by omega) (by omega) fun r4 p4 q4 s4 => ?_
  refine SzM.fin (by omega) ?_
  try simp -implicitDefEqProofs only [ms_pair, ms_int, ms_bool, ms_str] at s1
  try simp -implicitDefEqProofs only [ms_pair, ms_int, ms_bool, ms_str] at s2
  try simp -implicitDefEqProofs only [ms_pair, ms_int, ms_bool, ms_str] at s3
  try simp -implicitDefEqProofs only [ms_pair, ms_int, ms_bool, ms_str] at s4
  try simp -implicitDefEqProofs only [ms_pair, ms_int, ms_bool, ms_str]
  omega
theorem z_szDaemon : SzOk (.pair (.int .i64) (.pair .bool (.pair (.pair (.int .i64) (.pair (.pair (.int .i64) (.sl false (.int .i64))) (.pair (.sl false (.pair (.int .i64) (.pair (.int .i64) (.pair (.int .i64) .str)))) (.pair (.sl false (.int .i64)) (.pair (.sl false .str) (.pair (.int .i64) (.pair (.int .i64) (.pair (.int .i64) (.pair (.int .i64) (.pair (.int .i64) (.pair (.int .i64) (.pair (.int .i64) (.pair (.int .i64) (.pair (.int .i64) (.sl false (.int .i64)))))))))))))))) (.pair (.int .i64) (.pair (.int .i64) (.pair (.pair (.int .i64) (.sl false (.int .i64))) (.pair (.sl false (.pair (.int .i64) (.pair (.int .i64) (.pair (.int .i64) (.sl false (.pair (.int .i64) (.pair (.int .i64) (.pair (.int .i64) .str)))))))) (.sl false (.pair (.int .i64) (.pair (.pair (.int .i64) (.sl false (.int .i64))) (.pair (.pair (.int .i64) (.pair (.int .i64) (.pair (.int .i64) .str))) (.sl false (.int .i64))))))))))))) T_laws_szDaemon := zm_szDaemon.sz
theorem zm_szDaemonS : SzOkM (.sl false (.pair (.int .i64) (.pair .bool (.pair (.pair (.int .i64) (.pair (.pair (.int .i64) (.sl false (.int .i64))) (.pair (.sl false (.pair (.int .i64) (.pair (.int .i64) (.pair (.int .i64) .str)))) (.pair (.sl false (.int .i64)) (.pair (.sl false .str) (.pair (.int .i64) (.pair (.int .i64) (.pair (.int .i64) (.pair (.int .i64) (.pair (.int .i64) (.pair (.int .i64) (.pair (.int .i64) (.pair (.int .i64) (.pair (.int .i64) (.sl false (.int .i64)))))))))))))))) (.pair (.int .i64) (.pair (.int .i64) (.pair (.pair (.int .i64) (.sl false (.int .i64))) (.pair (.sl false (.pair (.int .i64) (.pair (.int .i64) (.pair (.int .i64) (.sl false (.pair (.int .i64) (.pair (.int .i64) (.pair (.int .i64) .str)))))))) (.sl false (.pair (.int .i64) (.pair (.pair (.int .i64) (.sl false (.int .i64))) (.pair (.pair (.int .i64) (.pair (.int .i64) (.pair (.int .i64) .str))) (.sl false (.int .i64)))))))))))))) T_laws_szDaemonS :=
  szm_sl (e := (.pair (.int .i64) (.pair .bool (.pair (.pair (.int .i64) (.pair (.pair (.int .i64) (.sl false (.int .i64))) (.pair (.sl false (.pair (.int .i64) (.pair (.int .i64) (.pair (.int .i64) .str)))) (.pair (.sl false (.int .i64)) (.pair (.sl false .str) (.pair (.int .i64) (.pair (.int .i64) (.pair (.int .i64) (.pair (.int .i64) (.pair (.int .i64) (.pair (.int .i64) (.pair (.int .i64) (.pair (.int .i64) (.pair (.int .i64) (.sl false (.int .i64)))))))))))))))) (.pair (.int .i64) (.pair (.int .i64) (.pair (.pair (.int .i64) (.sl false (.int .i64))) (.pair (.sl false (.pair (.int .i64) (.pair (.int .i64) (.pair (.int .i64) (.sl false (.pair (.int .i64) (.pair (.int .i64) (.pair (.int .i64) .str)))))))) (.sl false (.pair (.int .i64) (.pair (.pair (.int .i64) (.sl false (.int .i64))) (.pair (.pair (.int .i64) (.pair (.int .i64) (.pair (.int .i64) .str))) (.sl false (.int .i64)))))))))))))) (fun y b => T_laws_szDaemon (y, b)) e_T_laws_szDaemonS e_L_laws_szDaemonS_1 zm_szDaemon
theorem z_szDaemonS : SzOk (.sl false (.pair (.int .i64) (.pair .bool (.pair (.pair (.int .i64) (.pair (.pair (.int .i64) (.sl false (.int .i64))) (.pair (.sl false (.pair (.int .i64) (.pair (.int .i64) (.pair (.int .i64) .str)))) (.pair (.sl false (.int .i64)) (.pair (.sl false .str) (.pair (.int .i64) (.pair (.int .i64) (.pair (.int .i64) (.pair (.int .i64) (.pair (.int .i64) (.pair (.int .i64) (.pair (.int .i64) (.pair (.int .i64) (.pair (.int .i64) (.sl false (.int .i64)))))))))))))))) (.pair (.int .i64) (.pair (.int .i64) (.pair (.pair (.int .i64) (.sl false (.int .i64))) (.pair (.sl false (.pair (.int .i64) (.pair (.int .i64) (.pair (.int .i64) (.sl false (.pair (.int .i64) (.pair (.int .i64) (.pair (.int .i64) .str)))))))) (.sl false (.pair (.int .i64) (.pair (.pair (.int .i64) (.sl false (.int .i64))) (.pair (.pair (.int .i64) (.pair (.int .i64) (.pair (.int .i64) .str))) (.sl false (.int .i64)))))))))))))) T_laws_szDaemonS := zm_szDaemonS.sz
theorem zm_szLetter : SzOkM (.pair (.int .i64) (.pair (.int .i64) (.pair (.int .i64) (.pair (.pair (.int .i64) (.pair (.int .i64) (.pair (.int .i64) .str))) (.pair (.pair (.int .i64) (.pair (.int .i64) (.pair (.int .i64) (.pair (.int .i64) (.pair (.int .i64) (.sl false (.int .i64))))))) (.pair (.int .i64) (.pair (.int .i64) (.pair (.int .i64) (.sl false (.pair (.int .i64) (.pair (.int .i64) (.pair (.int .i64) .str)))))))))))) T_laws_szLetter := by
  rintro ⟨a, b, c, ⟨d, e, f, g⟩, ⟨h, i, j, k, l, m⟩, o, p, q, r⟩ n ⟨h_a, h_b, h_c, ⟨h_d, h_e, h_f, h_g⟩, ⟨h_h, h_i, h_j, h_k, h_l, h_m⟩, h_o, h_p, h_q, h_r⟩ h0 hn
  show SzM n (fun left_ => ET.ms (.pair (.int .i64) (.pair (.int .i64) (.pair (.int .i64) (.pair (.pair (.int .i64) (.pair (.int .i64) (.pair (.int .i64) .str))) (.pair (.pair (.int .i64) (.pair (.int .i64) (.pair (.int .i64) (.pair (.int .i64) (.pair (.int .i64) (.sl false (.int .i64))))))) (.pair (.int .i64) (.pair (.int .i64) (.pair (.int .i64) (.sl false (.pair (.int .i64) (.pair (.int .i64) (.pair (.int .i64) .str)))))))))))) (a, b, c, (d, e, f, g), (h, i, j, k, l, m), o, p, q, r) ≤ n - left_) _
  rw [e_T_laws_szLetter]
  refine SzM.call zm_szItem ⟨h_d, h_e, h_f, h_g⟩ (by omega) (by omega) (by omega) fun r1 p1 q1 s1 => ?_
  refine SzM.call zm_szToken ⟨h_h, h_i, h_j, h_k, h_l, h_m⟩ (by omega) (by omega) (by omega) fun r2 p2 q2 s2 => ?_
  refine SzM.call zm_szBundle ⟨h_o, h_p, h_q, h_r⟩ (by omega) (by omega) (by omega) fun r3 p3 q3 s3 => ?_
  refine SzM.fin (by omega) ?_
  try simp -implicitDefEqProofs only [ms_pair, ms_int, ms_bool, ms_str] at s1
  try simp -implicitDefEqProofs only [ms_pair, ms_int, ms_bool, ms_str] at s2
  try simp -implicitDefEqProofs only [ms_pair, ms_int, ms_bool, ms_str] at s3
  try simp -implicitDefEqProofs only [ms_pair, ms_int, ms_bool, ms_str]
  omega
theorem z_szLetter : SzOk (.pair (.int .i64) (.pair (.int .i64) (.pair (.int .i64) (.pair (.pair (.int .i64) (.pair (.int .i64) (.pair (.int .i64) .str))) (.pair (.pair (.int .i64) (.pair (.int .i64) (.pair (.int .i64) (.pair (.int .i64) (.pair (.int .i64) (.sl false (.int .i64))))))) (.pair (.int .i64) (.pair (.int .i64) (.pair (.int .i64) (.sl false (.pair (.int .i64) (.pair (.int .i64) (.pair (.int .i64) .str)))))))))))) T_laws_szLetter := zm_szLetter.sz
theorem zm_szLetterS : SzOkM (.sl false (.pair (.int .i64) (.pair (.int .i64) (.pair (.int .i64) (.pair (.pair (.int .i64) (.pair (.int .i64) (.pair (.int .i64) .str))) (.pair (.pair (.int .i64) (.pair (.int .i64) (.pair (.int .i64) (.pair (.int .i64) (.pair (.int .i64) (.sl false (.int .i64))))))) (.pair (.int .i64) (.pair (.int .i64) (.pair (.int .i64) (.sl false (.pair (.int .i64) (.pair (.int .i64) (.pair (.int .i64) .str))))))))))))) T_laws_szLetterS :=
  szm_sl (e := (.pair (.int .i64) (.pair (.int .i64) (.pair (.int .i64) (.pair (.pair (.int .i64) (.pair (.int .i64) (.pair (.int .i64) .str))) (.pair (.pair (.int .i64) (.pair (.int .i64) (.pair (.int .i64) (.pair (.int .i64) (.pair (.int .i64) (.sl false (.int .i64))))))) (.pair (.int .i64) (.pair (.int .i64) (.pair (.int .i64) (.sl false (.pair (.int .i64) (.pair (.int .i64) (.pair (.int .i64) .str))))))))))))) (fun y b => T_laws_szLetter (y, b)) e_T_laws_szLetterS e_L_laws_szLetterS_1 zm_szLetter
theorem z_szLetterS : SzOk (.sl false (.pair (.int .i64) (.pair (.int .i64) (.pair (.int .i64) (.pair (.pair (.int .i64) (.pair (.int .i64) (.pair (.int .i64) .str))) (.pair (.pair (.int .i64) (.pair (.int .i64) (.pair (.int .i64) (.pair (.int .i64) (.pair (.int .i64) (.sl false (.int .i64))))))) (.pair (.int .i64) (.pair (.int .i64) (.pair (.int .i64) (.sl false (.pair (.int .i64) (.pair (.int .i64) (.pair (.int .i64) .str))))))))))))) T_laws_szLetterS := zm_szLetterS.sz
theorem zm_szWorld : SzOkM (.pair (.sl false (.pair (.int .i64) (.sl false (.int .i64)))) (.pair (.sl false (.pair (.int .i64) (.pair .bool (.pair (.pair (.int .i64) (.pair (.pair (.int .i64) (.sl false (.int .i64))) (.pair (.sl false (.pair (.int .i64) (.pair (.int .i64) (.pair (.int .i64) .str)))) (.pair (.sl false (.int .i64)) (.pair (.sl false .str) (.pair (.int .i64) (.pair (.int .i64) (.pair (.int .i64) (.pair (.int .i64) (.pair (.int .i64) (.pair (.int .i64) (.pair (.int .i64) (.pair (.int .i64) (.pair (.int .i64) (.sl false (.int .i64)))))))))))))))) (.pair (.int .i64) (.pair (.int .i64) (.pair (.pair (.int .i64) (.sl false (.int .i64))) (.pair (.sl false (.pair (.int .i64) (.pair (.int .i64) (.pair (.int .i64) (.sl false (.pair (.int .i64) (.pair (.int .i64) (.pair (.int .i64) .str)))))))) (.sl false (.pair (.int .i64) (.pair (.pair (.int .i64) (.sl false (.int .i64))) (.pair (.pair (.int .i64) (.pair (.int .i64) (.pair (.int .i64) .str))) (.sl false (.int .i64)))))))))))))) (.pair (.sl false (.pair (.int .i64) (.pair (.int .i64) (.pair (.int .i64) (.pair (.pair (.int .i64) (.pair (.int .i64) (.pair (.int .i64) .str))) (.pair (.pair (.int .i64) (.pair (.int .i64) (.pair (.int .i64) (.pair (.int .i64) (.pair (.int .i64) (.sl false (.int .i64))))))) (.pair (.int .i64) (.pair (.int .i64) (.pair (.int .i64) (.sl false (.pair (.int .i64) (.pair (.int .i64) (.pair (.int .i64) .str))))))))))))) (.sl false (.pair (.int .i64) (.pair (.pair (.int .i64) (.sl false (.int .i64))) (.pair (.pair (.int .i64) (.pair (.int .i64) (.pair (.int .i64) .str))) (.sl false (.int .i64))))))))) T_laws_szWorld := by
  rintro ⟨a, b, c, d⟩ n ⟨h_a, h_b, h_c, h_d⟩ h0 hn
  show SzM n (fun left_ => ET.ms (.pair (.sl false (.pair (.int .i64) (.sl false (.int .i64)))) (.pair (.sl false (.pair (.int .i64) (.pair .bool (.pair (.pair (.int .i64) (.pair (.pair (.int .i64) (.sl false (.int .i64))) (.pair (.sl false (.pair (.int .i64) (.pair (.int .i64) (.pair (.int .i64) .str)))) (.pair (.sl false (.int .i64)) (.pair (.sl false .str) (.pair (.int .i64) (.pair (.int .i64) (.pair (.int .i64) (.pair (.int .i64) (.pair (.int .i64) (.pair (.int .i64) (.pair (.int .i64) (.pair (.int .i64) (.pair (.int .i64) (.sl false (.int .i64)))))))))))))))) (.pair (.int .i64) (.pair (.int .i64) (.pair (.pair (.int .i64) (.sl false (.int .i64))) (.pair (.sl false (.pair (.int .i64) (.pair (.int .i64) (.pair (.int .i64) (.sl false (.pair (.int .i64) (.pair (.int .i64) (.pair (.int .i64) .str)))))))) (.sl false (.pair (.int .i64) (.pair (.pair (.int .i64) (.sl false (.int .i64))) (.pair (.pair (.int .i64) (.pair (.int .i64) (.pair (.int .i64) .str))) (.sl false (.int .i64)))))))))))))) (.pair (.sl false (.pair (.int .i64) (.pair (.int .i64) (.pair (.int .i64) (.pair (.pair (.int .i64) (.pair (.int .i64) (.pair (.int .i64) .str))) (.pair (.pair (.int .i64) (.pair (.int .i64) (.pair (.int .i64) (.pair (.int .i64) (.pair (.int .i64) (.sl false (.int .i64))))))) (.pair (.int .i64) (.pair (.int .i64) (.pair (.int .i64) (.sl false (.pair (.int .i64) (.pair (.int .i64) (.pair (.int .i64) .str))))))))))))) (.sl false (.pair (.int .i64) (.pair (.pair (.int .i64) (.sl false (.int .i64))) (.pair (.pair (.int .i64) (.pair (.int .i64) (.pair (.int .i64) .str))) (.sl false (.int .i64))))))))) (a, b, c, d) ≤ n - left_) _
  rw [e_T_laws_szWorld]
  refine SzM.call zm_szRingS h_a (by omega) (by omega) (by omega) fun r1 p1 q1 s1 => ?_
  refine SzM.call zm_szDaemonS h_b (by omega) (by omega) (by omega) fun r2 p2 q2 s2 => ?_
  refine SzM.call zm_szLetterS h_c (by omega) (by omega) (by omega) fun r3 p3 q3 s3 => ?_
  refine SzM.call zm_szEventS h_d (by omega) (by omega) (by omega) fun r4 p4 q4 s4 => ?_
  refine SzM.fin (by omega) ?_
  try simp -implicitDefEqProofs only [ms_pair, ms_int, ms_bool, ms_str] at s1
  try simp -implicitDefEqProofs only [ms_pair, ms_int, ms_bool, ms_str] at s2
  try simp -implicitDefEqProofs only [ms_pair, ms_int, ms_bool, ms_str] at s3
  try simp -implicitDefEqProofs only [ms_pair, ms_int, ms_bool, ms_str] at s4
  try simp -implicitDefEqProofs only [ms_pair, ms_int, ms_bool, ms_str]
  omega
theorem z_szWorld : SzOk (.pair (.sl false (.pair (.int .i64) (.sl false (.int .i64)))) (.pair (.sl false (.pair (.int .i64) (.pair .bool (.pair (.pair (.int .i64) (.pair (.pair (.int .i64) (.sl false (.int .i64))) (.pair (.sl false (.pair (.int .i64) (.pair (.int .i64) (.pair (.int .i64) .str)))) (.pair (.sl false (.int .i64)) (.pair (.sl false .str) (.pair (.int .i64) (.pair (.int .i64) (.pair (.int .i64) (.pair (.int .i64) (.pair (.int .i64) (.pair (.int .i64) (.pair (.int .i64) (.pair (.int .i64) (.pair (.int .i64) (.sl false (.int .i64)))))))))))))))) (.pair (.int .i64) (.pair (.int .i64) (.pair (.pair (.int .i64) (.sl false (.int .i64))) (.pair (.sl false (.pair (.int .i64) (.pair (.int .i64) (.pair (.int .i64) (.sl false (.pair (.int .i64) (.pair (.int .i64) (.pair (.int .i64) .str)))))))) (.sl false (.pair (.int .i64) (.pair (.pair (.int .i64) (.sl false (.int .i64))) (.pair (.pair (.int .i64) (.pair (.int .i64) (.pair (.int .i64) .str))) (.sl false (.int .i64)))))))))))))) (.pair (.sl false (.pair (.int .i64) (.pair (.int .i64) (.pair (.int .i64) (.pair (.pair (.int .i64) (.pair (.int .i64) (.pair (.int .i64) .str))) (.pair (.pair (.int .i64) (.pair (.int .i64) (.pair (.int .i64) (.pair (.int .i64) (.pair (.int .i64) (.sl false (.int .i64))))))) (.pair (.int .i64) (.pair (.int .i64) (.pair (.int .i64) (.sl false (.pair (.int .i64) (.pair (.int .i64) (.pair (.int .i64) .str))))))))))))) (.sl false (.pair (.int .i64) (.pair (.pair (.int .i64) (.sl false (.int .i64))) (.pair (.pair (.int .i64) (.pair (.int .i64) (.pair (.int .i64) .str))) (.sl false (.int .i64))))))))) T_laws_szWorld := zm_szWorld.sz
theorem zm_szReader : SzOkM (.pair .str .bool) T_laws_szReader := by
  rintro ⟨a, b⟩ n ⟨h_a, h_b⟩ h0 hn
  show SzM n (fun left_ => ET.ms (.pair .str .bool) (a, b) ≤ n - left_) _
  rw [e_T_laws_szReader]
  refine SzM.str h_a (by omega) (by omega) (by omega) fun p1 w1 => ?_
  try rw [w1]
  refine SzM.fin (by omega) ?_
  try simp -implicitDefEqProofs only [ms_pair, ms_int, ms_bool, ms_str]
  omega
theorem z_szReader : SzOk (.pair .str .bool) T_laws_szReader := zm_szReader.sz
theorem zm_szSession : SzOkM (.pair (.int .i64) (.pair .str (.pair (.pair .str .bool) (.pair .bool (.sl false .str))))) T_laws_szSession := by
  rintro ⟨a, b, ⟨c, d⟩, e, f⟩ n ⟨h_a, h_b, ⟨h_c, h_d⟩, h_e, h_f⟩ h0 hn
  show SzM n (fun left_ => ET.ms (.pair (.int .i64) (.pair .str (.pair (.pair .str .bool) (.pair .bool (.sl false .str))))) (a, b, (c, d), e, f) ≤ n - left_) _
  rw [e_T_laws_szSession]
  refine SzM.str h_b (by omega) (by omega) (by omega) fun p1 w1 => ?_
  try rw [w1]
  refine SzM.call zm_szReader ⟨h_c, h_d⟩ (by omega) (by omega) (by omega) fun r2 p2 q2 s2 => ?_
  refine SzM.call zm_szStringS h_f (by omega) (by omega) (by omega) fun r3 p3 q3 s3 => ?_
  refine SzM.fin (by omega) ?_
  try simp -implicitDefEqProofs only [ms_pair, ms_int, ms_bool, ms_str] at s2
  try simp -implicitDefEqProofs only [ms_pair, ms_int, ms_bool, ms_str] at s3
  try simp -implicitDefEqProofs only [ms_pair, ms_int, ms_bool, ms_str]
  omega
theorem z_szSession : SzOk (.pair (.int .i64) (.pair .str (.pair (.pair .str .bool) (.pair .bool (.sl false .str))))) T_laws_szSession := zm_szSession.sz
theorem zm_szBox : SzOkM (.pair .str (.pair (.sl false .str) .bool)) T_laws_szBox := by
  rintro ⟨a, b, c⟩ n ⟨h_a, h_b, h_c⟩ h0 hn
  show SzM n (fun left_ => ET.ms (.pair .str (.pair (.sl false .str) .bool)) (a, b, c) ≤ n - left_) _
  rw [e_T_laws_szBox]
  refine SzM.str h_a (by omega) (by omega) (by omega) fun p1 w1 => ?_
  try rw [w1]
  refine SzM.call zm_szStringS h_b (by omega) (by omega) (by omega) fun r2 p2 q2 s2 => ?_
  refine SzM.fin (by omega) ?_
  try simp -implicitDefEqProofs only [ms_pair, ms_int, ms_bool, ms_str] at s2
  try simp -implicitDefEqProofs only [ms_pair, ms_int, ms_bool, ms_str]
  omega
theorem z_szBox : SzOk (.pair .str (.pair (.sl false .str) .bool)) T_laws_szBox := zm_szBox.sz
theorem zm_szCaller : SzOkM (.pair (.pair (.int .i64) (.pair .str (.pair (.pair .str .bool) (.pair .bool (.sl false .str))))) (.pair (.pair .str (.pair (.sl false .str) .bool)) (.pair .str (.sl false .str)))) T_laws_szCaller := by
  rintro ⟨⟨a, b, ⟨c, d⟩, e, f⟩, ⟨g, h, i⟩, j, k⟩ n ⟨⟨h_a, h_b, ⟨h_c, h_d⟩, h_e, h_f⟩, ⟨h_g, h_h, h_i⟩, h_j, h_k⟩ h0 hn
  show SzM n (fun left_ => ET.ms (.pair (.pair (.int .i64) (.pair .str (.pair (.pair .str .bool) (.pair .bool (.sl false .str))))) (.pair (.pair .str (.pair (.sl false .str) .bool)) (.pair .str (.sl false .str)))) ((a, b, (c, d), e, f), (g, h, i), j, k) ≤ n - left_) _
  rw [e_T_laws_szCaller]
  refine SzM.call zm_szSession ⟨h_a, h_b, ⟨h_c, h_d⟩, h_e, h_f⟩ (by omega) (by omega) (by omega) fun r1 p1 q1 s1 => ?_
  refine SzM.call zm_szBox ⟨h_g, h_h, h_i⟩ (by omega) (by omega) (by omega) fun r2 p2 q2 s2 => ?_
  refine SzM.str h_j (by omega) (by omega) (by omega) fun p3 w3 => ?_
  try rw [w3]
  refine SzM.call zm_szStringS h_k (by omega) (by omega) (by omega) fun r4 p4 q4 s4 => ?_
  refine SzM.fin (by omega) ?_
  try simp -implicitDefEqProofs only [ms_pair, ms_int, ms_bool, ms_str] at s1
  try simp -implicitDefEqProofs only [ms_pair, ms_int, ms_bool, ms_str] at s2
  try simp -implicitDefEqProofs only [ms_pair, ms_int, ms_bool, ms_str] at s4
  try simp -implicitDefEqProofs only [ms_pair, ms_int, ms_bool, ms_str]
  omega
theorem z_szCaller : SzOk (.pair (.pair (.int .i64) (.pair .str (.pair (.pair .str .bool) (.pair .bool (.sl false .str))))) (.pair (.pair .str (.pair (.sl false .str) .bool)) (.pair .str (.sl false .str)))) T_laws_szCaller := zm_szCaller.sz
theorem zm_szCallerS : SzOkM (.sl false (.pair (.pair (.int .i64) (.pair .str (.pair (.pair .str .bool) (.pair .bool (.sl false .str))))) (.pair (.pair .str (.pair (.sl false .str) .bool)) (.pair .str (.sl false .str))))) T_laws_szCallerS :=
  szm_sl (e := (.pair (.pair (.int .i64) (.pair .str (.pair (.pair .str .bool) (.pair .bool (.sl false .str))))) (.pair (.pair .str (.pair (.sl false .str) .bool)) (.pair .str (.sl false .str))))) (fun y b => T_laws_szCaller (y, b)) e_T_laws_szCallerS e_L_laws_szCallerS_1 zm_szCaller
theorem z_szCallerS : SzOk (.sl false (.pair (.pair (.int .i64) (.pair .str (.pair (.pair .str .bool) (.pair .bool (.sl false .str))))) (.pair (.pair .str (.pair (.sl false .str) .bool)) (.pair .str (.sl false .str))))) T_laws_szCallerS := zm_szCallerS.sz
theorem zm_szGroup : SzOkM (.pair .str (.sl false .str)) T_laws_szGroup := by
  rintro ⟨a, b⟩ n ⟨h_a, h_b⟩ h0 hn
  show SzM n (fun left_ => ET.ms (.pair .str (.sl false .str)) (a, b) ≤ n - left_) _
  rw [e_T_laws_szGroup]
  refine SzM.str h_a (by omega) (by omega) (by omega) fun p1 w1 => ?_
  try rw [w1]
  refine SzM.call zm_szStringS h_b (by omega) (by omega) (by omega) fun r2 p2 q2 s2 => ?_
  refine SzM.fin (by omega) ?_
  try simp -implicitDefEqProofs only [ms_pair, ms_int, ms_bool, ms_str] at s2
  try simp -implicitDefEqProofs only [ms_pair, ms_int, ms_bool, ms_str]
  omega
theorem z_szGroup : SzOk (.pair .str (.sl false .str)) T_laws_szGroup := zm_szGroup.sz
theorem zm_szGroupS : SzOkM (.sl false (.pair .str (.sl false .str))) T_laws_szGroupS :=
  szm_sl (e := (.pair .str (.sl false .str))) (fun y b => T_laws_szGroup (y, b)) e_T_laws_szGroupS e_L_laws_szGroupS_1 zm_szGroup
theorem z_szGroupS : SzOk (.sl false (.pair .str (.sl false .str))) T_laws_szGroupS := zm_szGroupS.sz
theorem zm_szTable : SzOkM (.sl false (.pair .str (.sl false .str))) T_laws_szTable := by
  rintro a n h_a h0 hn
  show SzM n (fun left_ => ET.ms (.sl false (.pair .str (.sl false .str))) a ≤ n - left_) _
  rw [e_T_laws_szTable]
  refine SzM.call zm_szGroupS h_a (by omega) (by omega) (by omega) fun r1 p1 q1 s1 => ?_
  refine SzM.fin (by omega) ?_
  try simp -implicitDefEqProofs only [ms_pair, ms_int, ms_bool, ms_str] at s1
  try simp -implicitDefEqProofs only [ms_pair, ms_int, ms_bool, ms_str]
  omega
theorem z_szTable : SzOk (.sl false (.pair .str (.sl false .str))) T_laws_szTable := zm_szTable.sz
theorem zm_szTableS : SzOkM (.sl false (.sl false (.pair .str (.sl false .str)))) T_laws_szTableS :=
  szm_sl (e := (.sl false (.pair .str (.sl false .str)))) (fun y b => T_laws_szTable (y, b)) e_T_laws_szTableS e_L_laws_szTableS_1 zm_szTable
theorem z_szTableS : SzOk (.sl false (.sl false (.pair .str (.sl false .str)))) T_laws_szTableS := zm_szTableS.sz
theorem zm_szHall : SzOkM (.pair (.pair (.sl false (.pair (.int .i64) (.sl false (.int .i64)))) (.pair (.sl false (.pair (.int .i64) (.pair .bool (.pair (.pair (.int .i64) (.pair (.pair (.int .i64) (.sl false (.int .i64))) (.pair (.sl false (.pair (.int .i64) (.pair (.int .i64) (.pair (.int .i64) .str)))) (.pair (.sl false (.int .i64)) (.pair (.sl false .str) (.pair (.int .i64) (.pair (.int .i64) (.pair (.int .i64) (.pair (.int .i64) (.pair (.int .i64) (.pair (.int .i64) (.pair (.int .i64) (.pair (.int .i64) (.pair (.int .i64) (.sl false (.int .i64)))))))))))))))) (.pair (.int .i64) (.pair (.int .i64) (.pair (.pair (.int .i64) (.sl false (.int .i64))) (.pair (.sl false (.pair (.int .i64) (.pair (.int .i64) (.pair (.int .i64) (.sl false (.pair (.int .i64) (.pair (.int .i64) (.pair (.int .i64) .str)))))))) (.sl false (.pair (.int .i64) (.pair (.pair (.int .i64) (.sl false (.int .i64))) (.pair (.pair (.int .i64) (.pair (.int .i64) (.pair (.int .i64) .str))) (.sl false (.int .i64)))))))))))))) (.pair (.sl false (.pair (.int .i64) (.pair (.int .i64) (.pair (.int .i64) (.pair (.pair (.int .i64) (.pair (.int .i64) (.pair (.int .i64) .str))) (.pair (.pair (.int .i64) (.pair (.int .i64) (.pair (.int .i64) (.pair (.int .i64) (.pair (.int .i64) (.sl false (.int .i64))))))) (.pair (.int .i64) (.pair (.int .i64) (.pair (.int .i64) (.sl false (.pair (.int .i64) (.pair (.int .i64) (.pair (.int .i64) .str))))))))))))) (.sl false (.pair (.int .i64) (.pair (.pair (.int .i64) (.sl false (.int .i64))) (.pair (.pair (.int .i64) (.pair (.int .i64) (.pair (.int .i64) .str))) (.sl false (.int .i64))))))))) (.pair (.sl false (.pair (.pair (.int .i64) (.pair .str (.pair (.pair .str .bool) (.pair .bool (.sl false .str))))) (.pair (.pair .str (.pair (.sl false .str) .bool)) (.pair .str (.sl false .str))))) (.pair (.sl false (.sl false (.pair .str (.sl false .str)))) (.sl false (.int .i64))))) T_laws_szHall := by
  rintro ⟨⟨a, b, c, d⟩, e, f, g⟩ n ⟨⟨h_a, h_b, h_c, h_d⟩, h_e, h_f, h_g⟩ h0 hn
  show SzM n (fun left_ => ET.ms (.pair (.pair (.sl false (.pair (.int .i64) (.sl false (.int .i64)))) (.pair (.sl false (.pair (.int .i64) (.pair .bool (.pair (.pair (.int .i64) (.pair (.pair (.int .i64) (.sl false (.int .i64))) (.pair (.sl false (.pair (.int .i64) (.pair (.int .i64) (.pair (.int .i64) .str)))) (.pair (.sl false (.int .i64)) (.pair (.sl false .str) (.pair (.int .i64) (.pair (.int .i64) (.pair (.int .i64) (.pair (.int .i64) (.pair (.int .i64) (.pair (.int .i64) (.pair (.int .i64) (.pair (.int .i64) (.pair (.int .i64) (.sl false (.int .i64)))))))))))))))) (.pair (.int .i64) (.pair (.int .i64) (.pair (.pair (.int .i64) (.sl false (.int .i64))) (.pair (.sl false (.pair (.int .i64) (.pair (.int .i64) (.pair (.int .i64) (.sl false (.pair (.int .i64) (.pair (.int .i64) (.pair (.int .i64) .str)))))))) (.sl false (.pair (.int .i64) (.pair (.pair (.int .i64) (.sl false (.int .i64))) (.pair (.pair (.int .i64) (.pair (.int .i64) (.pair (.int .i64) .str))) (.sl false (.int .i64)))))))))))))) (.pair (.sl false (.pair (.int .i64) (.pair (.int .i64) (.pair (.int .i64) (.pair (.pair (.int .i64) (.pair (.int .i64) (.pair (.int .i64) .str))) (.pair (.pair (.int .i64) (.pair (.int .i64) (.pair (.int .i64) (.pair (.int .i64) (.pair (.int .i64) (.sl false (.int .i64))))))) (.pair (.int .i64) (.pair (.int .i64) (.pair (.int .i64) (.sl false (.pair (.int .i64) (.pair (.int .i64) (.pair (.int .i64) .str))))))))))))) (.sl false (.pair (.int .i64) (.pair (.pair (.int .i64) (.sl false (.int .i64))) (.pair (.pair (.int .i64) (.pair (.int .i64) (.pair (.int .i64) .str))) (.sl false (.int .i64))))))))) (.pair (.sl false (.pair (.pair (.int .i64) (.pair .str (.pair (.pair .str .bool) (.pair .bool (.sl false .str))))) (.pair (.pair .str (.pair (.sl false .str) .bool)) (.pair .str (.sl false .str))))) (.pair (.sl false (.sl false (.pair .str (.sl false .str)))) (.sl false (.int .i64))))) ((a, b, c, d), e, f, g) ≤ n - left_) _
  rw [e_T_laws_szHall]
  refine SzM.call zm_szWorld ⟨h_a, h_b, h_c, h_d⟩ (by omega) (by omega) (by omega) fun r1 p1 q1 s1 => ?_
  refine SzM.call zm_szCallerS h_e (by omega) (by omega) (by omega) fun r2 p2 q2 s2 => ?_
  refine SzM.call zm_szTableS h_f (by omega) (by omega) (by omega) fun r3 p3 q3 s3 => ?_
  refine SzM.call zm_szIntS h_g (by omega) (by omega) (by omega) fun r4 p4 q4 s4 => ?_
  refine SzM.fin (by omega) ?_
  try simp -implicitDefEqProofs only [ms_pair, ms_int, ms_bool, ms_str] at s1
  try simp -implicitDefEqProofs only [ms_pair, ms_int, ms_bool, ms_str] at s2
  try simp -implicitDefEqProofs only [ms_pair, ms_int, ms_bool, ms_str] at s3
  try simp -implicitDefEqProofs only [ms_pair, ms_int, ms_bool, ms_str] at s4
  try simp -implicitDefEqProofs only [ms_pair, ms_int, ms_bool, ms_str]
  omega
theorem z_szHall : SzOk (.pair (.pair (.sl false (.pair (.int .i64) (.sl false (.int .i64)))) (.pair (.sl false (.pair (.int .i64) (.pair .bool (.pair (.pair (.int .i64) (.pair (.pair (.int .i64) (.sl false (.int .i64))) (.pair (.sl false (.pair (.int .i64) (.pair (.int .i64) (.pair (.int .i64) .str)))) (.pair (.sl false (.int .i64)) (.pair (.sl false .str) (.pair (.int .i64) (.pair (.int .i64) (.pair (.int .i64) (.pair (.int .i64) (.pair (.int .i64) (.pair (.int .i64) (.pair (.int .i64) (.pair (.int .i64) (.pair (.int .i64) (.sl false (.int .i64)))))))))))))))) (.pair (.int .i64) (.pair (.int .i64) (.pair (.pair (.int .i64) (.sl false (.int .i64))) (.pair (.sl false (.pair (.int .i64) (.pair (.int .i64) (.pair (.int .i64) (.sl false (.pair (.int .i64) (.pair (.int .i64) (.pair (.int .i64) .str)))))))) (.sl false (.pair (.int .i64) (.pair (.pair (.int .i64) (.sl false (.int .i64))) (.pair (.pair (.int .i64) (.pair (.int .i64) (.pair (.int .i64) .str))) (.sl false (.int .i64)))))))))))))) (.pair (.sl false (.pair (.int .i64) (.pair (.int .i64) (.pair (.int .i64) (.pair (.pair (.int .i64) (.pair (.int .i64) (.pair (.int .i64) .str))) (.pair (.pair (.int .i64) (.pair (.int .i64) (.pair (.int .i64) (.pair (.int .i64) (.pair (.int .i64) (.sl false (.int .i64))))))) (.pair (.int .i64) (.pair (.int .i64) (.pair (.int .i64) (.sl false (.pair (.int .i64) (.pair (.int .i64) (.pair (.int .i64) .str))))))))))))) (.sl false (.pair (.int .i64) (.pair (.pair (.int .i64) (.sl false (.int .i64))) (.pair (.pair (.int .i64) (.pair (.int .i64) (.pair (.int .i64) .str))) (.sl false (.int .i64))))))))) (.pair (.sl false (.pair (.pair (.int .i64) (.pair .str (.pair (.pair .str .bool) (.pair .bool (.sl false .str))))) (.pair (.pair .str (.pair (.sl false .str) .bool)) (.pair .str (.sl false .str))))) (.pair (.sl false (.sl false (.pair .str (.sl false .str)))) (.sl false (.int .i64))))) T_laws_szHall := zm_szHall.sz
theorem c_toIntS {a : (ET.sl false (.int .i64)).den} (h : (ET.sl false (.int .i64)).small a) : T_laws_toIntS a = some a := by
  have h1 : a.length ≤ 1048576 := h.1
  refine to_sl (L := L_laws_toIntS_1) 0 h1 ?_ (fun n b i y hy hi => ?_) (fun n b => ?_)
  · rw [e_T_laws_toIntS, if_pos ⟨by omega, rfl, by omega, by omega⟩]; rfl
  · have hlt := (List.getElem?_eq_some_iff.1 hy).1
    rw [e_L_laws_toIntS_1]
    simp only [show ((i : Int) < (a.length : Int)) by omega, decide_true, cond_true, Int.natCast_nonneg, if_true, Int.toNat_natCast, hy, Option.bind_some, hi, List.getElem?_eq_getElem hi]
    rw [wrap_ok (by omega) (by omega)]
  · rw [e_L_laws_toIntS_1]; simp
theorem c_toRing {x : (ET.pair (.int .i64) (.sl false (.int .i64))).den} (h : (ET.pair (.int .i64) (.sl false (.int .i64))).small x) : T_laws_toRing x = some x := by
  obtain ⟨a, b⟩ := x
  obtain ⟨h_a, h_b⟩ := h
  simp only [e_T_laws_toRing, c_toIntS h_b, Option.bind_some]
theorem c_toRingS {a : (ET.sl false (.pair (.int .i64) (.sl false (.int .i64)))).den} (h : (ET.sl false (.pair (.int .i64) (.sl false (.int .i64)))).small a) : T_laws_toRingS a = some a := by
  have h1 : a.length ≤ 1048576 := h.1
  refine to_sl (L := L_laws_toRingS_1) (0, []) h1 ?_ (fun n b i y hy hi => ?_) (fun n b => ?_)
  · rw [e_T_laws_toRingS, if_pos ⟨by omega, rfl, by omega, by omega⟩]; rfl
  · have hlt := (List.getElem?_eq_some_iff.1 hy).1
    rw [e_L_laws_toRingS_1]
    simp only [show ((i : Int) < (a.length : Int)) by omega, decide_true, cond_true, Int.natCast_nonneg, if_true, Int.toNat_natCast, hy, Option.bind_some, hi, List.getElem?_eq_getElem hi, c_toRing (h.2 y (List.mem_of_getElem? hy))]
    rw [wrap_ok (by omega) (by omega)]
  · rw [e_L_laws_toRingS_1]; simp
theorem c_toItem {x : (ET.pair (.int .i64) (.pair (.int .i64) (.pair (.int .i64) .str))).den} (h : (ET.pair (.int .i64) (.pair (.int .i64) (.pair (.int .i64) .str))).small x) : T_laws_toItem x = some x := by
  obtain ⟨a, b, c, d⟩ := x
  obtain ⟨h_a, h_b, h_c, h_d⟩ := h
  simp only [e_T_laws_toItem, Option.bind_some]
theorem c_toItemS {a : (ET.sl false (.pair (.int .i64) (.pair (.int .i64) (.pair (.int .i64) .str)))).den} (h : (ET.sl false (.pair (.int .i64) (.pair (.int .i64) (.pair (.int .i64) .str)))).small a) : T_laws_toItemS a = some a := by
  have h1 : a.length ≤ 1048576 := h.1
  refine to_sl (L := L_laws_toItemS_1) (0, 0, 0, []) h1 ?_ (fun n b i y hy hi => ?_) (fun n b => ?_)
  · rw [e_T_laws_toItemS, if_pos ⟨by omega, rfl, by omega, by omega⟩]; rfl
  · have hlt := (List.getElem?_eq_some_iff.1 hy).1
    rw [e_L_laws_toItemS_1]
    simp only [show ((i : Int) < (a.length : Int)) by omega, decide_true, cond_true, Int.natCast_nonneg, if_true, Int.toNat_natCast, hy, Option.bind_some, hi, List.getElem?_eq_getElem hi, c_toItem (h.2 y (List.mem_of_getElem? hy))]
    rw [wrap_ok (by omega) (by omega)]
  · rw [e_L_laws_toItemS_1]; simp
theorem c_toStringS {a : (ET.sl false (.str)).den} (h : (ET.sl false (.str)).small a) : T_laws_toStringS a = some a := by
  have h1 : a.length ≤ 1048576 := h.1
  refine to_sl (L := L_laws_toStringS_1) [] h1 ?_ (fun n b i y hy hi => ?_) (fun n b => ?_)
  · rw [e_T_laws_toStringS, if_pos ⟨by omega, rfl, by omega, by omega⟩]; rfl
  · have hlt := (List.getElem?_eq_some_iff.1 hy).1
    rw [e_L_laws_toStringS_1]
    simp only [show ((i : Int) < (a.length : Int)) by omega, decide_true, cond_true, Int.natCast_nonneg, if_true, Int.toNat_natCast, hy, Option.bind_some, hi, List.getElem?_eq_getElem hi]
    rw [wrap_ok (by omega) (by omega)]
  · rw [e_L_laws_toStringS_1]; simp
theorem c_toToken {x : (ET.pair (.int .i64) (.pair (.int .i64) (.pair (.int .i64) (.pair (.int .i64) (.pair (.int .i64) (.sl false (.int .i64))))))).den} (h : (ET.pair (.int .i64) (.pair (.int .i64) (.pair (.int .i64) (.pair (.int .i64) (.pair (.int .i64) (.sl false (.int .i64))))))).small x) : T_laws_toToken x = some x := by
  obtain ⟨a, b, c, d, e, f⟩ := x
  obtain ⟨h_a, h_b, h_c, h_d, h_e, h_f⟩ := h
  simp only [e_T_laws_toToken, c_toIntS h_f, Option.bind_some]
theorem c_toMate {x : (ET.pair (.int .i64) (.pair (.pair (.int .i64) (.sl false (.int .i64))) (.pair (.sl false (.pair (.int .i64) (.pair (.int .i64) (.pair (.int .i64) .str)))) (.pair (.sl false (.int .i64)) (.pair (.sl false .str) (.pair (.int .i64) (.pair (.int .i64) (.pair (.int .i64) (.pair (.int .i64) (.pair (.int .i64) (.pair (.int .i64) (.pair (.int .i64) (.pair (.int .i64) (.pair (.int .i64) (.sl false (.int .i64)))))))))))))))).den} (h : (ET.pair (.int .i64) (.pair (.pair (.int .i64) (.sl false (.int .i64))) (.pair (.sl false (.pair (.int .i64) (.pair (.int .i64) (.pair (.int .i64) .str)))) (.pair (.sl false (.int .i64)) (.pair (.sl false .str) (.pair (.int .i64) (.pair (.int .i64) (.pair (.int .i64) (.pair (.int .i64) (.pair (.int .i64) (.pair (.int .i64) (.pair (.int .i64) (.pair (.int .i64) (.pair (.int .i64) (.sl false (.int .i64)))))))))))))))).small x) : T_laws_toMate x = some x := by
  obtain ⟨a, ⟨b, c⟩, d, e, f, g, h, i, j, k, l, m, o, p, q⟩ := x
  obtain ⟨h_a, ⟨h_b, h_c⟩, h_d, h_e, h_f, h_g, h_h, h_i, h_j, h_k, h_l, h_m, h_o, h_p, h_q⟩ := h
  simp only [e_T_laws_toMate, c_toRing ⟨h_b, h_c⟩, c_toItemS h_d, c_toIntS h_e, c_toStringS h_f, c_toToken ⟨h_k, h_l, h_m, h_o, h_p, h_q⟩, Option.bind_some]
theorem c_toBundle {x : (ET.pair (.int .i64) (.pair (.int .i64) (.pair (.int .i64) (.sl false (.pair (.int .i64) (.pair (.int .i64) (.pair (.int .i64) .str))))))).den} (h : (ET.pair (.int .i64) (.pair (.int .i64) (.pair (.int .i64) (.sl false (.pair (.int .i64) (.pair (.int .i64) (.pair (.int .i64) .str))))))).small x) : T_laws_toBundle x = some x := by
  obtain ⟨a, b, c, d⟩ := x
  obtain ⟨h_a, h_b, h_c, h_d⟩ := h
  simp only [e_T_laws_toBundle, c_toItemS h_d, Option.bind_some]
theorem c_toBundleS {a : (ET.sl false (.pair (.int .i64) (.pair (.int .i64) (.pair (.int .i64) (.sl false (.pair (.int .i64) (.pair (.int .i64) (.pair (.int .i64) .str)))))))).den} (h : (ET.sl false (.pair (.int .i64) (.pair (.int .i64) (.pair (.int .i64) (.sl false (.pair (.int .i64) (.pair (.int .i64) (.pair (.int .i64) .str)))))))).small a) : T_laws_toBundleS a = some a := by
  have h1 : a.length ≤ 1048576 := h.1
  refine to_sl (L := L_laws_toBundleS_1) (0, 0, 0, []) h1 ?_ (fun n b i y hy hi => ?_) (fun n b => ?_)
  · rw [e_T_laws_toBundleS, if_pos ⟨by omega, rfl, by omega, by omega⟩]; rfl
  · have hlt := (List.getElem?_eq_some_iff.1 hy).1
    rw [e_L_laws_toBundleS_1]
    simp only [show ((i : Int) < (a.length : Int)) by omega, decide_true, cond_true, Int.natCast_nonneg, if_true, Int.toNat_natCast, hy, Option.bind_some, hi, List.getElem?_eq_getElem hi, c_toBundle (h.2 y (List.mem_of_getElem? hy))]
    rw [wrap_ok (by omega) (by omega)]
  · rw [e_L_laws_toBundleS_1]; simp
theorem c_toEvent {x : (ET.pair (.int .i64) (.pair (.pair (.int .i64) (.sl false (.int .i64))) (.pair (.pair (.int .i64) (.pair (.int .i64) (.pair (.int .i64) .str))) (.sl false (.int .i64))))).den} (h : (ET.pair (.int .i64) (.pair (.pair (.int .i64) (.sl false (.int .i64))) (.pair (.pair (.int .i64) (.pair (.int .i64) (.pair (.int .i64) .str))) (.sl false (.int .i64))))).small x) : T_laws_toEvent x = some x := by
  obtain ⟨a, ⟨b, c⟩, ⟨d, e, f, g⟩, h⟩ := x
  obtain ⟨h_a, ⟨h_b, h_c⟩, ⟨h_d, h_e, h_f, h_g⟩, h_h⟩ := h
  simp only [e_T_laws_toEvent, c_toRing ⟨h_b, h_c⟩, c_toItem ⟨h_d, h_e, h_f, h_g⟩, c_toIntS h_h, Option.bind_some]
theorem c_toEventS {a : (ET.sl false (.pair (.int .i64) (.pair (.pair (.int .i64) (.sl false (.int .i64))) (.pair (.pair (.int .i64) (.pair (.int .i64) (.pair (.int .i64) .str))) (.sl false (.int .i64)))))).den} (h : (ET.sl false (.pair (.int .i64) (.pair (.pair (.int .i64) (.sl false (.int .i64))) (.pair (.pair (.int .i64) (.pair (.int .i64) (.pair (.int .i64) .str))) (.sl false (.int .i64)))))).small a) : T_laws_toEventS a = some a := by
  have h1 : a.length ≤ 1048576 := h.1
  refine to_sl (L := L_laws_toEventS_1) (0, (0, []), (0, 0, 0, []), []) h1 ?_ (fun n b i y hy hi => ?_) (fun n b => ?_)
  · rw [e_T_laws_toEventS, if_pos ⟨by omega, rfl, by omega, by omega⟩]; rfl
  · have hlt := (List.getElem?_eq_some_iff.1 hy).1
    rw [e_L_laws_toEventS_1]
    simp only [show ((i : Int) < (a.length : Int)) by omega, decide_true, cond_true, Int.natCast_nonneg, if_true, Int.toNat_natCast, hy, Option.bind_some, hi, List.getElem?_eq_getElem hi, c_toEvent (h.2 y (List.mem_of_getElem? hy))]
    rw [wrap_ok (by omega) (by omega)]
  · rw [e_L_laws_toEventS_1]; simp
theorem c_toDaemon {x : (ET.pair (.int .i64) (.pair .bool (.pair (.pair (.int .i64) (.pair (.pair (.int .i64) (.sl false (.int .i64))) (.pair (.sl false (.pair (.int .i64) (.pair (.int .i64) (.pair (.int .i64) .str)))) (.pair (.sl false (.int .i64)) (.pair (.sl false .str) (.pair (.int .i64) (.pair (.int .i64) (.pair (.int .i64) (.pair (.int .i64) (.pair (.int .i64) (.pair (.int .i64) (.pair (.int .i64) (.pair (.int .i64) (.pair (.int .i64) (.sl false (.int .i64)))))))))))))))) (.pair (.int .i64) (.pair (.int .i64) (.pair (.pair (.int .i64) (.sl false (.int .i64))) (.pair (.sl false (.pair (.int .i64) (.pair (.int .i64) (.pair (.int .i64) (.sl false (.pair (.int .i64) (.pair (.int .i64) (.pair (.int .i64) .str)))))))) (.sl false (.pair (.int .i64) (.pair (.pair (.int .i64) (.sl false (.int .i64))) (.pair (.pair (.int .i64) (.pair (.int .i64) (.pair (.int .i64) .str))) (.sl false (.int .i64))))))))))))).den} (h : (ET.pair (.int .i64) (.pair .bool (.pair (.pair (.int .i64) (.pair (.pair (.int .i64) (.sl false (.int .i64))) (.pair (.sl false (.pair (.int .i64) (.pair (.int .i64) (.pair (.int .i64) .str)))) (.pair (.sl false (.int .i64)) (.pair (.sl false .str) (.pair (.int .i64) (.pair (.int .i64) (.pair (.int .i64) (.pair (.int .i64) (.pair (.int .i64) (.pair (.int .i64) (.pair (.int .i64) (.pair (.int .i64) (.pair (.int .i64) (.sl false (.int .i64)))))))))))))))) (.pair (.int .i64) (.pair (.int .i64) (.pair (.pair (.int .i64) (.sl false (.int .i64))) (.pair (.sl false (.pair (.int .i64) (.pair (.int .i64) (.pair (.int .i64) (.sl false (.pair (.int .i64) (.pair (.int .i64) (.pair (.int .i64) .str)))))))) (.sl false (.pair (.int .i64) (.pair (.pair (.int .i64) (.sl false (.int .i64))) (.pair (.pair (.int .i64) (.pair (.int .i64) (.pair (.int .i64) .str))) (.sl false (.int .i64))))))))))))).small x) : T_laws_toDaemon x = some x := by
  obtain ⟨a, b, ⟨c, ⟨d, e⟩, f, g, h, i, j, k, l, m, o, p, q, r, s⟩, t, u, ⟨v, w⟩, x, y⟩ := x
  obtain ⟨h_a, h_b, ⟨h_c, ⟨h_d, h_e⟩, h_f, h_g, h_h, h_i, h_j, h_k, h_l, h_m, h_o, h_p, h_q, h_r, h_s⟩, h_t, h_u, ⟨h_v, h_w⟩, h_x, h_y⟩ := h
  simp only [e_T_laws_toDaemon, c_toMate ⟨h_c, ⟨h_d, h_e⟩, h_f, h_g, h_h, h_i, h_j, h_k, h_l, h_m, h_o, h_p, h_q, h_r, h_s⟩, c_toRing ⟨h_v, h_w⟩, c_toBundleS h_x, c_toEventS h_y, Option.bind_some]
theorem c_toDaemonS {a : (ET.sl false (.pair (.int .i64) (.pair .bool (.pair (.pair (.int .i64) (.pair (.pair (.int .i64) (.sl false (.int .i64))) (.pair (.sl false (.pair (.int .i64) (.pair (.int .i64) (.pair (.int .i64) .str)))) (.pair (.sl false (.int .i64)) (.pair (.sl false .str) (.pair (.int .i64) (.pair (.int .i64) (.pair (.int .i64) (.pair (.int .i64) (.pair (.int .i64) (.pair (.int .i64) (.pair (.int .i64) (.pair (.int .i64) (.pair (.int .i64) (.sl false (.int .i64)))))))))))))))) (.pair (.int .i64) (.pair (.int .i64) (.pair (.pair (.int .i64) (.sl false (.int .i64))) (.pair (.sl false (.pair (.int .i64) (.pair (.int .i64) (.pair (.int .i64) (.sl false (.pair (.int .i64) (.pair (.int .i64) (.pair (.int .i64) .str)))))))) (.sl false (.pair (.int .i64) (.pair (.pair (.int .i64) (.sl false (.int .i64))) (.pair (.pair (.int .i64) (.pair (.int .i64) (.pair (.int .i64) .str))) (.sl false (.int .i64)))))))))))))).den} (h : (ET.sl false (.pair (.int .i64) (.pair .bool (.pair (.pair (.int .i64) (.pair (.pair (.int .i64) (.sl false (.int .i64))) (.pair (.sl false (.pair (.int .i64) (.pair (.int .i64) (.pair (.int .i64) .str)))) (.pair (.sl false (.int .i64)) (.pair (.sl false .str) (.pair (.int .i64) (.pair (.int .i64) (.pair (.int .i64) (.pair (.int .i64) (.pair (.int .i64) (.pair (.int .i64) (.pair (.int .i64) (.pair (.int .i64) (.pair (.int .i64) (.sl false (.int .i64)))))))))))))))) (.pair (.int .i64) (.pair (.int .i64) (.pair (.pair (.int .i64) (.sl false (.int .i64))) (.pair (.sl false (.pair (.int .i64) (.pair (.int .i64) (.pair (.int .i64) (.sl false (.pair (.int .i64) (.pair (.int .i64) (.pair (.int .i64) .str)))))))) (.sl false (.pair (.int .i64) (.pair (.pair (.int .i64) (.sl false (.int .i64))) (.pair (.pair (.int .i64) (.pair (.int .i64) (.pair (.int .i64) .str))) (.sl false (.int .i64)))))))))))))).small a) : T_laws_toDaemonS a = some a := by
  have h1 : a.length ≤ 1048576 := h.1
  refine to_sl (L := L_laws_toDaemonS_1) (0, false, (0, (0, []), [], [], [], 0, 0, 0, 0, 0, 0, 0, 0, 0, []), 0, 0, (0, []), [], []) h1 ?_ (fun n b i y hy hi => ?_) (fun n b => ?_)
  · rw [e_T_laws_toDaemonS, if_pos ⟨by omega, rfl, by omega, by omega⟩]; rfl
  · have hlt := (List.getElem?_eq_some_iff.1 hy).1
    rw [e_L_laws_toDaemonS_1]
    simp only [show ((i : Int) < (a.length : Int)) by omega, decide_true, cond_true, Int.natCast_nonneg, if_true, Int.toNat_natCast, hy, Option.bind_some, hi, List.getElem?_eq_getElem hi, c_toDaemon (h.2 y (List.mem_of_getElem? hy))]
    rw [wrap_ok (by omega) (by omega)]
  · rw [e_L_laws_toDaemonS_1]; simp
theorem c_toLetter {x : (ET.pair (.int .i64) (.pair (.int .i64) (.pair (.int .i64) (.pair (.pair (.int .i64) (.pair (.int .i64) (.pair (.int .i64) .str))) (.pair (.pair (.int .i64) (.pair (.int .i64) (.pair (.int .i64) (.pair (.int .i64) (.pair (.int .i64) (.sl false (.int .i64))))))) (.pair (.int .i64) (.pair (.int .i64) (.pair (.int .i64) (.sl false (.pair (.int .i64) (.pair (.int .i64) (.pair (.int .i64) .str)))))))))))).den} (h : (ET.pair (.int .i64) (.pair (.int .i64) (.pair (.int .i64) (.pair (.pair (.int .i64) (.pair (.int .i64) (.pair (.int .i64) .str))) (.pair (.pair (.int .i64) (.pair (.int .i64) (.pair (.int .i64) (.pair (.int .i64) (.pair (.int .i64) (.sl false (.int .i64))))))) (.pair (.int .i64) (.pair (.int .i64) (.pair (.int .i64) (.sl false (.pair (.int .i64) (.pair (.int .i64) (.pair (.int .i64) .str)))))))))))).small x) : T_laws_toLetter x = some x := by
  obtain ⟨a, b, c, ⟨d, e, f, g⟩, ⟨h, i, j, k, l, m⟩, o, p, q, r⟩ := x
  obtain ⟨h_a, h_b, h_c, ⟨h_d, h_e, h_f, h_g⟩, ⟨h_h, h_i, h_j, h_k, h_l, h_m⟩, h_o, h_p, h_q, h_r⟩ := h
  simp only [e_T_laws_toLetter, c_toItem ⟨h_d, h_e, h_f, h_g⟩, c_toToken ⟨h_h, h_i, h_j, h_k, h_l, h_m⟩, c_toBundle ⟨h_o, h_p, h_q, h_r⟩, Option.bind_some]
theorem c_toLetterS {a : (ET.sl false (.pair (.int .i64) (.pair (.int .i64) (.pair (.int .i64) (.pair (.pair (.int .i64) (.pair (.int .i64) (.pair (.int .i64) .str))) (.pair (.pair (.int .i64) (.pair (.int .i64) (.pair (.int .i64) (.pair (.int .i64) (.pair (.int .i64) (.sl false (.int .i64))))))) (.pair (.int .i64) (.pair (.int .i64) (.pair (.int .i64) (.sl false (.pair (.int .i64) (.pair (.int .i64) (.pair (.int .i64) .str))))))))))))).den} (h : (ET.sl false (.pair (.int .i64) (.pair (.int .i64) (.pair (.int .i64) (.pair (.pair (.int .i64) (.pair (.int .i64) (.pair (.int .i64) .str))) (.pair (.pair (.int .i64) (.pair (.int .i64) (.pair (.int .i64) (.pair (.int .i64) (.pair (.int .i64) (.sl false (.int .i64))))))) (.pair (.int .i64) (.pair (.int .i64) (.pair (.int .i64) (.sl false (.pair (.int .i64) (.pair (.int .i64) (.pair (.int .i64) .str))))))))))))).small a) : T_laws_toLetterS a = some a := by
  have h1 : a.length ≤ 1048576 := h.1
  refine to_sl (L := L_laws_toLetterS_1) (0, 0, 0, (0, 0, 0, []), (0, 0, 0, 0, 0, []), 0, 0, 0, []) h1 ?_ (fun n b i y hy hi => ?_) (fun n b => ?_)
  · rw [e_T_laws_toLetterS, if_pos ⟨by omega, rfl, by omega, by omega⟩]; rfl
  · have hlt := (List.getElem?_eq_some_iff.1 hy).1
    rw [e_L_laws_toLetterS_1]
    simp only [show ((i : Int) < (a.length : Int)) by omega, decide_true, cond_true, Int.natCast_nonneg, if_true, Int.toNat_natCast, hy, Option.bind_some, hi, List.getElem?_eq_getElem hi, c_toLetter (h.2 y (List.mem_of_getElem? hy))]
    rw [wrap_ok (by omega) (by omega)]
  · rw [e_L_laws_toLetterS_1]; simp
theorem c_toWorld {x : (ET.pair (.sl false (.pair (.int .i64) (.sl false (.int .i64)))) (.pair (.sl false (.pair (.int .i64) (.pair .bool (.pair (.pair (.int .i64) (.pair (.pair (.int .i64) (.sl false (.int .i64))) (.pair (.sl false (.pair (.int .i64) (.pair (.int .i64) (.pair (.int .i64) .str)))) (.pair (.sl false (.int .i64)) (.pair (.sl false .str) (.pair (.int .i64) (.pair (.int .i64) (.pair (.int .i64) (.pair (.int .i64) (.pair (.int .i64) (.pair (.int .i64) (.pair (.int .i64) (.pair (.int .i64) (.pair (.int .i64) (.sl false (.int .i64)))))))))))))))) (.pair (.int .i64) (.pair (.int .i64) (.pair (.pair (.int .i64) (.sl false (.int .i64))) (.pair (.sl false (.pair (.int .i64) (.pair (.int .i64) (.pair (.int .i64) (.sl false (.pair (.int .i64) (.pair (.int .i64) (.pair (.int .i64) .str)))))))) (.sl false (.pair (.int .i64) (.pair (.pair (.int .i64) (.sl false (.int .i64))) (.pair (.pair (.int .i64) (.pair (.int .i64) (.pair (.int .i64) .str))) (.sl false (.int .i64)))))))))))))) (.pair (.sl false (.pair (.int .i64) (.pair (.int .i64) (.pair (.int .i64) (.pair (.pair (.int .i64) (.pair (.int .i64) (.pair (.int .i64) .str))) (.pair (.pair (.int .i64) (.pair (.int .i64) (.pair (.int .i64) (.pair (.int .i64) (.pair (.int .i64) (.sl false (.int .i64))))))) (.pair (.int .i64) (.pair (.int .i64) (.pair (.int .i64) (.sl false (.pair (.int .i64) (.pair (.int .i64) (.pair (.int .i64) .str))))))))))))) (.sl false (.pair (.int .i64) (.pair (.pair (.int .i64) (.sl false (.int .i64))) (.pair (.pair (.int .i64) (.pair (.int .i64) (.pair (.int .i64) .str))) (.sl false (.int .i64))))))))).den} (h : (ET.pair (.sl false (.pair (.int .i64) (.sl false (.int .i64)))) (.pair (.sl false (.pair (.int .i64) (.pair .bool (.pair (.pair (.int .i64) (.pair (.pair (.int .i64) (.sl false (.int .i64))) (.pair (.sl false (.pair (.int .i64) (.pair (.int .i64) (.pair (.int .i64) .str)))) (.pair (.sl false (.int .i64)) (.pair (.sl false .str) (.pair (.int .i64) (.pair (.int .i64) (.pair (.int .i64) (.pair (.int .i64) (.pair (.int .i64) (.pair (.int .i64) (.pair (.int .i64) (.pair (.int .i64) (.pair (.int .i64) (.sl false (.int .i64)))))))))))))))) (.pair (.int .i64) (.pair (.int .i64) (.pair (.pair (.int .i64) (.sl false (.int .i64))) (.pair (.sl false (.pair (.int .i64) (.pair (.int .i64) (.pair (.int .i64) (.sl false (.pair (.int .i64) (.pair (.int .i64) (.pair (.int .i64) .str)))))))) (.sl false (.pair (.int .i64) (.pair (.pair (.int .i64) (.sl false (.int .i64))) (.pair (.pair (.int .i64) (.pair (.int .i64) (.pair (.int .i64) .str))) (.sl false (.int .i64)))))))))))))) (.pair (.sl false (.pair (.int .i64) (.pair (.int .i64) (.pair (.int .i64) (.pair (.pair (.int .i64) (.pair (.int .i64) (.pair (.int .i64) .str))) (.pair (.pair (.int .i64) (.pair (.int .i64) (.pair (.int .i64) (.pair (.int .i64) (.pair (.int .i64) (.sl false (.int .i64))))))) (.pair (.int .i64) (.pair (.int .i64) (.pair (.int .i64) (.sl false (.pair (.int .i64) (.pair (.int .i64) (.pair (.int .i64) .str))))))))))))) (.sl false (.pair (.int .i64) (.pair (.pair (.int .i64) (.sl false (.int .i64))) (.pair (.pair (.int .i64) (.pair (.int .i64) (.pair (.int .i64) .str))) (.sl false (.int .i64))))))))).small x) : T_laws_toWorld x = some x := by
  obtain ⟨a, b, c, d⟩ := x
  obtain ⟨h_a, h_b, h_c, h_d⟩ := h
  simp only [e_T_laws_toWorld, c_toRingS h_a, c_toDaemonS h_b, c_toLetterS h_c, c_toEventS h_d, Option.bind_some]
theorem c_toReader {x : (ET.pair .str .bool).den} (h : (ET.pair .str .bool).small x) : T_laws_toReader x = some x := by
  obtain ⟨a, b⟩ := x
  obtain ⟨h_a, h_b⟩ := h
  simp only [e_T_laws_toReader, Option.bind_some]
theorem c_toSession {x : (ET.pair (.int .i64) (.pair .str (.pair (.pair .str .bool) (.pair .bool (.sl false .str))))).den} (h : (ET.pair (.int .i64) (.pair .str (.pair (.pair .str .bool) (.pair .bool (.sl false .str))))).small x) : T_laws_toSession x = some x := by
  obtain ⟨a, b, ⟨c, d⟩, e, f⟩ := x
  obtain ⟨h_a, h_b, ⟨h_c, h_d⟩, h_e, h_f⟩ := h
  simp only [e_T_laws_toSession, c_toReader ⟨h_c, h_d⟩, c_toStringS h_f, Option.bind_some]
theorem c_toBox {x : (ET.pair .str (.pair (.sl false .str) .bool)).den} (h : (ET.pair .str (.pair (.sl false .str) .bool)).small x) : T_laws_toBox x = some x := by
  obtain ⟨a, b, c⟩ := x
  obtain ⟨h_a, h_b, h_c⟩ := h
  simp only [e_T_laws_toBox, c_toStringS h_b, Option.bind_some]
theorem c_toCaller {x : (ET.pair (.pair (.int .i64) (.pair .str (.pair (.pair .str .bool) (.pair .bool (.sl false .str))))) (.pair (.pair .str (.pair (.sl false .str) .bool)) (.pair .str (.sl false .str)))).den} (h : (ET.pair (.pair (.int .i64) (.pair .str (.pair (.pair .str .bool) (.pair .bool (.sl false .str))))) (.pair (.pair .str (.pair (.sl false .str) .bool)) (.pair .str (.sl false .str)))).small x) : T_laws_toCaller x = some x := by
  obtain ⟨⟨a, b, ⟨c, d⟩, e, f⟩, ⟨g, h, i⟩, j, k⟩ := x
  obtain ⟨⟨h_a, h_b, ⟨h_c, h_d⟩, h_e, h_f⟩, ⟨h_g, h_h, h_i⟩, h_j, h_k⟩ := h
  simp only [e_T_laws_toCaller, c_toSession ⟨h_a, h_b, ⟨h_c, h_d⟩, h_e, h_f⟩, c_toBox ⟨h_g, h_h, h_i⟩, c_toStringS h_k, Option.bind_some]
theorem c_toCallerS {a : (ET.sl false (.pair (.pair (.int .i64) (.pair .str (.pair (.pair .str .bool) (.pair .bool (.sl false .str))))) (.pair (.pair .str (.pair (.sl false .str) .bool)) (.pair .str (.sl false .str))))).den} (h : (ET.sl false (.pair (.pair (.int .i64) (.pair .str (.pair (.pair .str .bool) (.pair .bool (.sl false .str))))) (.pair (.pair .str (.pair (.sl false .str) .bool)) (.pair .str (.sl false .str))))).small a) : T_laws_toCallerS a = some a := by
  have h1 : a.length ≤ 1048576 := h.1
  refine to_sl (L := L_laws_toCallerS_1) ((0, [], ([], false), false, []), ([], [], false), [], []) h1 ?_ (fun n b i y hy hi => ?_) (fun n b => ?_)
  · rw [e_T_laws_toCallerS, if_pos ⟨by omega, rfl, by omega, by omega⟩]; rfl
  · have hlt := (List.getElem?_eq_some_iff.1 hy).1
    rw [e_L_laws_toCallerS_1]
    simp only [show ((i : Int) < (a.length : Int)) by omega, decide_true, cond_true, Int.natCast_nonneg, if_true, Int.toNat_natCast, hy, Option.bind_some, hi, List.getElem?_eq_getElem hi, c_toCaller (h.2 y (List.mem_of_getElem? hy))]
    rw [wrap_ok (by omega) (by omega)]
  · rw [e_L_laws_toCallerS_1]; simp
theorem c_toGroup {x : (ET.pair .str (.sl false .str)).den} (h : (ET.pair .str (.sl false .str)).small x) : T_laws_toGroup x = some x := by
  obtain ⟨a, b⟩ := x
  obtain ⟨h_a, h_b⟩ := h
  simp only [e_T_laws_toGroup, c_toStringS h_b, Option.bind_some]
theorem c_toGroupS {a : (ET.sl false (.pair .str (.sl false .str))).den} (h : (ET.sl false (.pair .str (.sl false .str))).small a) : T_laws_toGroupS a = some a := by
  have h1 : a.length ≤ 1048576 := h.1
  refine to_sl (L := L_laws_toGroupS_1) ([], []) h1 ?_ (fun n b i y hy hi => ?_) (fun n b => ?_)
  · rw [e_T_laws_toGroupS, if_pos ⟨by omega, rfl, by omega, by omega⟩]; rfl
  · have hlt := (List.getElem?_eq_some_iff.1 hy).1
    rw [e_L_laws_toGroupS_1]
    simp only [show ((i : Int) < (a.length : Int)) by omega, decide_true, cond_true, Int.natCast_nonneg, if_true, Int.toNat_natCast, hy, Option.bind_some, hi, List.getElem?_eq_getElem hi, c_toGroup (h.2 y (List.mem_of_getElem? hy))]
    rw [wrap_ok (by omega) (by omega)]
  · rw [e_L_laws_toGroupS_1]; simp
theorem c_toTable {a : (ET.sl false (.pair .str (.sl false .str))).den} (h_a : (ET.sl false (.pair .str (.sl false .str))).small a) : T_laws_toTable a = some a := by
  simp only [e_T_laws_toTable, c_toGroupS h_a, Option.bind_some]
theorem c_toTableS {a : (ET.sl false (.sl false (.pair .str (.sl false .str)))).den} (h : (ET.sl false (.sl false (.pair .str (.sl false .str)))).small a) : T_laws_toTableS a = some a := by
  have h1 : a.length ≤ 1048576 := h.1
  refine to_sl (L := L_laws_toTableS_1) [] h1 ?_ (fun n b i y hy hi => ?_) (fun n b => ?_)
  · rw [e_T_laws_toTableS, if_pos ⟨by omega, rfl, by omega, by omega⟩]; rfl
  · have hlt := (List.getElem?_eq_some_iff.1 hy).1
    rw [e_L_laws_toTableS_1]
    simp only [show ((i : Int) < (a.length : Int)) by omega, decide_true, cond_true, Int.natCast_nonneg, if_true, Int.toNat_natCast, hy, Option.bind_some, hi, List.getElem?_eq_getElem hi, c_toTable (h.2 y (List.mem_of_getElem? hy))]
    rw [wrap_ok (by omega) (by omega)]
  · rw [e_L_laws_toTableS_1]; simp
theorem c_toHall {x : (ET.pair (.pair (.sl false (.pair (.int .i64) (.sl false (.int .i64)))) (.pair (.sl false (.pair (.int .i64) (.pair .bool (.pair (.pair (.int .i64) (.pair (.pair (.int .i64) (.sl false (.int .i64))) (.pair (.sl false (.pair (.int .i64) (.pair (.int .i64) (.pair (.int .i64) .str)))) (.pair (.sl false (.int .i64)) (.pair (.sl false .str) (.pair (.int .i64) (.pair (.int .i64) (.pair (.int .i64) (.pair (.int .i64) (.pair (.int .i64) (.pair (.int .i64) (.pair (.int .i64) (.pair (.int .i64) (.pair (.int .i64) (.sl false (.int .i64)))))))))))))))) (.pair (.int .i64) (.pair (.int .i64) (.pair (.pair (.int .i64) (.sl false (.int .i64))) (.pair (.sl false (.pair (.int .i64) (.pair (.int .i64) (.pair (.int .i64) (.sl false (.pair (.int .i64) (.pair (.int .i64) (.pair (.int .i64) .str)))))))) (.sl false (.pair (.int .i64) (.pair (.pair (.int .i64) (.sl false (.int .i64))) (.pair (.pair (.int .i64) (.pair (.int .i64) (.pair (.int .i64) .str))) (.sl false (.int .i64)))))))))))))) (.pair (.sl false (.pair (.int .i64) (.pair (.int .i64) (.pair (.int .i64) (.pair (.pair (.int .i64) (.pair (.int .i64) (.pair (.int .i64) .str))) (.pair (.pair (.int .i64) (.pair (.int .i64) (.pair (.int .i64) (.pair (.int .i64) (.pair (.int .i64) (.sl false (.int .i64))))))) (.pair (.int .i64) (.pair (.int .i64) (.pair (.int .i64) (.sl false (.pair (.int .i64) (.pair (.int .i64) (.pair (.int .i64) .str))))))))))))) (.sl false (.pair (.int .i64) (.pair (.pair (.int .i64) (.sl false (.int .i64))) (.pair (.pair (.int .i64) (.pair (.int .i64) (.pair (.int .i64) .str))) (.sl false (.int .i64))))))))) (.pair (.sl false (.pair (.pair (.int .i64) (.pair .str (.pair (.pair .str .bool) (.pair .bool (.sl false .str))))) (.pair (.pair .str (.pair (.sl false .str) .bool)) (.pair .str (.sl false .str))))) (.pair (.sl false (.sl false (.pair .str (.sl false .str)))) (.sl false (.int .i64))))).den} (h : (ET.pair (.pair (.sl false (.pair (.int .i64) (.sl false (.int .i64)))) (.pair (.sl false (.pair (.int .i64) (.pair .bool (.pair (.pair (.int .i64) (.pair (.pair (.int .i64) (.sl false (.int .i64))) (.pair (.sl false (.pair (.int .i64) (.pair (.int .i64) (.pair (.int .i64) .str)))) (.pair (.sl false (.int .i64)) (.pair (.sl false .str) (.pair (.int .i64) (.pair (.int .i64) (.pair (.int .i64) (.pair (.int .i64) (.pair (.int .i64) (.pair (.int .i64) (.pair (.int .i64) (.pair (.int .i64) (.pair (.int .i64) (.sl false (.int .i64)))))))))))))))) (.pair (.int .i64) (.pair (.int .i64) (.pair (.pair (.int .i64) (.sl false (.int .i64))) (.pair (.sl false (.pair (.int .i64) (.pair (.int .i64) (.pair (.int .i64) (.sl false (.pair (.int .i64) (.pair (.int .i64) (.pair (.int .i64) .str)))))))) (.sl false (.pair (.int .i64) (.pair (.pair (.int .i64) (.sl false (.int .i64))) (.pair (.pair (.int .i64) (.pair (.int .i64) (.pair (.int .i64) .str))) (.sl false (.int .i64)))))))))))))) (.pair (.sl false (.pair (.int .i64) (.pair (.int .i64) (.pair (.int .i64) (.pair (.pair (.int .i64) (.pair (.int .i64) (.pair (.int .i64) .str))) (.pair (.pair (.int .i64) (.pair (.int .i64) (.pair (.int .i64) (.pair (.int .i64) (.pair (.int .i64) (.sl false (.int .i64))))))) (.pair (.int .i64) (.pair (.int .i64) (.pair (.int .i64) (.sl false (.pair (.int .i64) (.pair (.int .i64) (.pair (.int .i64) .str))))))))))))) (.sl false (.pair (.int .i64) (.pair (.pair (.int .i64) (.sl false (.int .i64))) (.pair (.pair (.int .i64) (.pair (.int .i64) (.pair (.int .i64) .str))) (.sl false (.int .i64))))))))) (.pair (.sl false (.pair (.pair (.int .i64) (.pair .str (.pair (.pair .str .bool) (.pair .bool (.sl false .str))))) (.pair (.pair .str (.pair (.sl false .str) .bool)) (.pair .str (.sl false .str))))) (.pair (.sl false (.sl false (.pair .str (.sl false .str)))) (.sl false (.int .i64))))).small x) : T_laws_toHall x = some x := by
  obtain ⟨⟨a, b, c, d⟩, e, f, g⟩ := x
  obtain ⟨⟨h_a, h_b, h_c, h_d⟩, h_e, h_f, h_g⟩ := h
  simp only [e_T_laws_toHall, c_toWorld ⟨h_a, h_b, h_c, h_d⟩, c_toCallerS h_e, c_toTableS h_f, c_toIntS h_g, Option.bind_some]
theorem q_eqStringS {a : (ET.sl false (.str)).den} (h : (ET.sl false (.str)).small a) : T_laws_eqStringS (a, a) = some true := by
  have h1 : a.length ≤ 1048576 := h.1
  rw [e_T_laws_eqStringS, eq_sl (L := L_laws_eqStringS_1) (Nat.le_trans h1 (by decide)) (fun n i y hy => ?_) (fun n => ?_)]
  · simp
  · have hlt := (List.getElem?_eq_some_iff.1 hy).1
    rw [e_L_laws_eqStringS_1]
    simp only [show ((i : Int) < (a.length : Int)) by omega, decide_true, cond_true, Int.natCast_nonneg, if_true, Int.toNat_natCast, hy, Option.bind_some, beq_self_eq_true, Bool.not_true, cond_false]
    rw [wrap_ok (by omega) (by omega)]
  · rw [e_L_laws_eqStringS_1]; simp
theorem q_eqIntS {a : (ET.sl false (.int .i64)).den} (h : (ET.sl false (.int .i64)).small a) : T_laws_eqIntS (a, a) = some true := by
  have h1 : a.length ≤ 1048576 := h.1
  rw [e_T_laws_eqIntS, eq_sl (L := L_laws_eqIntS_1) (Nat.le_trans h1 (by decide)) (fun n i y hy => ?_) (fun n => ?_)]
  · simp
  · have hlt := (List.getElem?_eq_some_iff.1 hy).1
    rw [e_L_laws_eqIntS_1]
    simp only [show ((i : Int) < (a.length : Int)) by omega, decide_true, cond_true, Int.natCast_nonneg, if_true, Int.toNat_natCast, hy, Option.bind_some, beq_self_eq_true, Bool.not_true, cond_false]
    rw [wrap_ok (by omega) (by omega)]
  · rw [e_L_laws_eqIntS_1]; simp
theorem q_eqRing {x : (ET.pair (.int .i64) (.sl false (.int .i64))).den} (h : (ET.pair (.int .i64) (.sl false (.int .i64))).small x) : T_laws_eqRing (x, x) = some true := by
  obtain ⟨a, b⟩ := x
  obtain ⟨h_a, h_b⟩ := h
  simp only [e_T_laws_eqRing, q_eqIntS h_b, Option.bind_some, beq_self_eq_true, Bool.not_true, cond_false]
theorem q_eqRingS {a : (ET.sl false (.pair (.int .i64) (.sl false (.int .i64)))).den} (h : (ET.sl false (.pair (.int .i64) (.sl false (.int .i64)))).small a) : T_laws_eqRingS (a, a) = some true := by
  have h1 : a.length ≤ 1048576 := h.1
  rw [e_T_laws_eqRingS, eq_sl (L := L_laws_eqRingS_1) (Nat.le_trans h1 (by decide)) (fun n i y hy => ?_) (fun n => ?_)]
  · simp
  · have hlt := (List.getElem?_eq_some_iff.1 hy).1
    rw [e_L_laws_eqRingS_1]
    simp only [show ((i : Int) < (a.length : Int)) by omega, decide_true, cond_true, Int.natCast_nonneg, if_true, Int.toNat_natCast, hy, Option.bind_some, beq_self_eq_true, Bool.not_true, cond_false, q_eqRing (h.2 y (List.mem_of_getElem? hy))]
    rw [wrap_ok (by omega) (by omega)]
  · rw [e_L_laws_eqRingS_1]; simp
theorem q_eqItem {x : (ET.pair (.int .i64) (.pair (.int .i64) (.pair (.int .i64) .str))).den} (h : (ET.pair (.int .i64) (.pair (.int .i64) (.pair (.int .i64) .str))).small x) : T_laws_eqItem (x, x) = some true := by
  obtain ⟨a, b, c, d⟩ := x
  obtain ⟨h_a, h_b, h_c, h_d⟩ := h
  simp only [e_T_laws_eqItem, Option.bind_some, beq_self_eq_true, Bool.not_true, cond_false]
theorem q_eqItemS {a : (ET.sl false (.pair (.int .i64) (.pair (.int .i64) (.pair (.int .i64) .str)))).den} (h : (ET.sl false (.pair (.int .i64) (.pair (.int .i64) (.pair (.int .i64) .str)))).small a) : T_laws_eqItemS (a, a) = some true := by
  have h1 : a.length ≤ 1048576 := h.1
  rw [e_T_laws_eqItemS, eq_sl (L := L_laws_eqItemS_1) (Nat.le_trans h1 (by decide)) (fun n i y hy => ?_) (fun n => ?_)]
  · simp
  · have hlt := (List.getElem?_eq_some_iff.1 hy).1
    rw [e_L_laws_eqItemS_1]
    simp only [show ((i : Int) < (a.length : Int)) by omega, decide_true, cond_true, Int.natCast_nonneg, if_true, Int.toNat_natCast, hy, Option.bind_some, beq_self_eq_true, Bool.not_true, cond_false, q_eqItem (h.2 y (List.mem_of_getElem? hy))]
    rw [wrap_ok (by omega) (by omega)]
  · rw [e_L_laws_eqItemS_1]; simp
theorem q_eqToken {x : (ET.pair (.int .i64) (.pair (.int .i64) (.pair (.int .i64) (.pair (.int .i64) (.pair (.int .i64) (.sl false (.int .i64))))))).den} (h : (ET.pair (.int .i64) (.pair (.int .i64) (.pair (.int .i64) (.pair (.int .i64) (.pair (.int .i64) (.sl false (.int .i64))))))).small x) : T_laws_eqToken (x, x) = some true := by
  obtain ⟨a, b, c, d, e, f⟩ := x
  obtain ⟨h_a, h_b, h_c, h_d, h_e, h_f⟩ := h
  simp only [e_T_laws_eqToken, q_eqIntS h_f, Option.bind_some, beq_self_eq_true, Bool.not_true, cond_false]
theorem q_eqMate {x : (ET.pair (.int .i64) (.pair (.pair (.int .i64) (.sl false (.int .i64))) (.pair (.sl false (.pair (.int .i64) (.pair (.int .i64) (.pair (.int .i64) .str)))) (.pair (.sl false (.int .i64)) (.pair (.sl false .str) (.pair (.int .i64) (.pair (.int .i64) (.pair (.int .i64) (.pair (.int .i64) (.pair (.int .i64) (.pair (.int .i64) (.pair (.int .i64) (.pair (.int .i64) (.pair (.int .i64) (.sl false (.int .i64)))))))))))))))).den} (h : (ET.pair (.int .i64) (.pair (.pair (.int .i64) (.sl false (.int .i64))) (.pair (.sl false (.pair (.int .i64) (.pair (.int .i64) (.pair (.int .i64) .str)))) (.pair (.sl false (.int .i64)) (.pair (.sl false .str) (.pair (.int .i64) (.pair (.int .i64) (.pair (.int .i64) (.pair (.int .i64) (.pair (.int .i64) (.pair (.int .i64) (.pair (.int .i64) (.pair (.int .i64) (.pair (.int .i64) (.sl false (.int .i64)))))))))))))))).small x) : T_laws_eqMate (x, x) = some true := by
  obtain ⟨a, ⟨b, c⟩, d, e, f, g, h, i, j, k, l, m, o, p, q⟩ := x
  obtain ⟨h_a, ⟨h_b, h_c⟩, h_d, h_e, h_f, h_g, h_h, h_i, h_j, h_k, h_l, h_m, h_o, h_p, h_q⟩ := h
  simp only [e_T_laws_eqMate, q_eqRing ⟨h_b, h_c⟩, q_eqItemS h_d, q_eqIntS h_e, q_eqStringS h_f, q_eqToken ⟨h_k, h_l, h_m, h_o, h_p, h_q⟩, Option.bind_some, beq_self_eq_true, Bool.not_true, cond_false]
theorem q_eqBundle {x : (ET.pair (.int .i64) (.pair (.int .i64) (.pair (.int .i64) (.sl false (.pair (.int .i64) (.pair (.int .i64) (.pair (.int .i64) .str))))))).den} (h : (ET.pair (.int .i64) (.pair (.int .i64) (.pair (.int .i64) (.sl false (.pair (.int .i64) (.pair (.int .i64) (.pair (.int .i64) .str))))))).small x) : T_laws_eqBundle (x, x) = some true := by
  obtain ⟨a, b, c, d⟩ := x
  obtain ⟨h_a, h_b, h_c, h_d⟩ := h
  simp only [e_T_laws_eqBundle, q_eqItemS h_d, Option.bind_some, beq_self_eq_true, Bool.not_true, cond_false]
theorem q_eqBundleS {a : (ET.sl false (.pair (.int .i64) (.pair (.int .i64) (.pair (.int .i64) (.sl false (.pair (.int .i64) (.pair (.int .i64) (.pair (.int .i64) .str)))))))).den} (h : (ET.sl false (.pair (.int .i64) (.pair (.int .i64) (.pair (.int .i64) (.sl false (.pair (.int .i64) (.pair (.int .i64) (.pair (.int .i64) .str)))))))).small a) : T_laws_eqBundleS (a, a) = some true := by
  have h1 : a.length ≤ 1048576 := h.1
  rw [e_T_laws_eqBundleS, eq_sl (L := L_laws_eqBundleS_1) (Nat.le_trans h1 (by decide)) (fun n i y hy => ?_) (fun n => ?_)]
  · simp
  · have hlt := (List.getElem?_eq_some_iff.1 hy).1
    rw [e_L_laws_eqBundleS_1]
    simp only [show ((i : Int) < (a.length : Int)) by omega, decide_true, cond_true, Int.natCast_nonneg, if_true, Int.toNat_natCast, hy, Option.bind_some, beq_self_eq_true, Bool.not_true, cond_false, q_eqBundle (h.2 y (List.mem_of_getElem? hy))]
    rw [wrap_ok (by omega) (by omega)]
  · rw [e_L_laws_eqBundleS_1]; simp
theorem q_eqEvent {x : (ET.pair (.int .i64) (.pair (.pair (.int .i64) (.sl false (.int .i64))) (.pair (.pair (.int .i64) (.pair (.int .i64) (.pair (.int .i64) .str))) (.sl false (.int .i64))))).den} (h : (ET.pair (.int .i64) (.pair (.pair (.int .i64) (.sl false (.int .i64))) (.pair (.pair (.int .i64) (.pair (.int .i64) (.pair (.int .i64) .str))) (.sl false (.int .i64))))).small x) : T_laws_eqEvent (x, x) = some true := by
  obtain ⟨a, ⟨b, c⟩, ⟨d, e, f, g⟩, h⟩ := x
  obtain ⟨h_a, ⟨h_b, h_c⟩, ⟨h_d, h_e, h_f, h_g⟩, h_h⟩ := h
  simp only [e_T_laws_eqEvent, q_eqRing ⟨h_b, h_c⟩, q_eqItem ⟨h_d, h_e, h_f, h_g⟩, q_eqIntS h_h, Option.bind_some, beq_self_eq_true, Bool.not_true, cond_false]
theorem q_eqEventS {a : (ET.sl false (.pair (.int .i64) (.pair (.pair (.int .i64) (.sl false (.int .i64))) (.pair (.pair (.int .i64) (.pair (.int .i64) (.pair (.int .i64) .str))) (.sl false (.int .i64)))))).den} (h : (ET.sl false (.pair (.int .i64) (.pair (.pair (.int .i64) (.sl false (.int .i64))) (.pair (.pair (.int .i64) (.pair (.int .i64) (.pair (.int .i64) .str))) (.sl false (.int .i64)))))).small a) : T_laws_eqEventS (a, a) = some true := by
  have h1 : a.length ≤ 1048576 := h.1
  rw [e_T_laws_eqEventS, eq_sl (L := L_laws_eqEventS_1) (Nat.le_trans h1 (by decide)) (fun n i y hy => ?_) (fun n => ?_)]
  · simp
  · have hlt := (List.getElem?_eq_some_iff.1 hy).1
    rw [e_L_laws_eqEventS_1]
    simp only [show ((i : Int) < (a.length : Int)) by omega, decide_true, cond_true, Int.natCast_nonneg, if_true, Int.toNat_natCast, hy, Option.bind_some, beq_self_eq_true, Bool.not_true, cond_false, q_eqEvent (h.2 y (List.mem_of_getElem? hy))]
    rw [wrap_ok (by omega) (by omega)]
  · rw [e_L_laws_eqEventS_1]; simp
theorem q_eqDaemon {x : (ET.pair (.int .i64) (.pair .bool (.pair (.pair (.int .i64) (.pair (.pair (.int .i64) (.sl false (.int .i64))) (.pair (.sl false (.pair (.int .i64) (.pair (.int .i64) (.pair (.int .i64) .str)))) (.pair (.sl false (.int .i64)) (.pair (.sl false .str) (.pair (.int .i64) (.pair (.int .i64) (.pair (.int .i64) (.pair (.int .i64) (.pair (.int .i64) (.pair (.int .i64) (.pair (.int .i64) (.pair (.int .i64) (.pair (.int .i64) (.sl false (.int .i64)))))))))))))))) (.pair (.int .i64) (.pair (.int .i64) (.pair (.pair (.int .i64) (.sl false (.int .i64))) (.pair (.sl false (.pair (.int .i64) (.pair (.int .i64) (.pair (.int .i64) (.sl false (.pair (.int .i64) (.pair (.int .i64) (.pair (.int .i64) .str)))))))) (.sl false (.pair (.int .i64) (.pair (.pair (.int .i64) (.sl false (.int .i64))) (.pair (.pair (.int .i64) (.pair (.int .i64) (.pair (.int .i64) .str))) (.sl false (.int .i64))))))))))))).den} (h : (ET.pair (.int .i64) (.pair .bool (.pair (.pair (.int .i64) (.pair (.pair (.int .i64) (.sl false (.int .i64))) (.pair (.sl false (.pair (.int .i64) (.pair (.int .i64) (.pair (.int .i64) .str)))) (.pair (.sl false (.int .i64)) (.pair (.sl false .str) (.pair (.int .i64) (.pair (.int .i64) (.pair (.int .i64) (.pair (.int .i64) (.pair (.int .i64) (.pair (.int .i64) (.pair (.int .i64) (.pair (.int .i64) (.pair (.int .i64) (.sl false (.int .i64)))))))))))))))) (.pair (.int .i64) (.pair (.int .i64) (.pair (.pair (.int .i64) (.sl false (.int .i64))) (.pair (.sl false (.pair (.int .i64) (.pair (.int .i64) (.pair (.int .i64) (.sl false (.pair (.int .i64) (.pair (.int .i64) (.pair (.int .i64) .str)))))))) (.sl false (.pair (.int .i64) (.pair (.pair (.int .i64) (.sl false (.int .i64))) (.pair (.pair (.int .i64) (.pair (.int .i64) (.pair (.int .i64) .str))) (.sl false (.int .i64))))))))))))).small x) : T_laws_eqDaemon (x, x) = some true := by
  obtain ⟨a, b, ⟨c, ⟨d, e⟩, f, g, h, i, j, k, l, m, o, p, q, r, s⟩, t, u, ⟨v, w⟩, x, y⟩ := x
  obtain ⟨h_a, h_b, ⟨h_c, ⟨h_d, h_e⟩, h_f, h_g, h_h, h_i, h_j, h_k, h_l, h_m, h_o, h_p, h_q, h_r, h_s⟩, h_t, h_u, ⟨h_v, h_w⟩, h_x, h_y⟩ := h
  simp only [e_T_laws_eqDaemon, q_eqMate ⟨h_c, ⟨h_d, h_e⟩, h_f, h_g, h_h, h_i, h_j, h_k, h_l, h_m, h_o, h_p, h_q, h_r, h_s⟩, q_eqRing ⟨h_v, h_w⟩, q_eqBundleS h_x, q_eqEventS h_y, Option.bind_some, beq_self_eq_true, Bool.not_true, cond_false]
theorem q_eqDaemonS {a : (ET.sl false (.pair (.int .i64) (.pair .bool (.pair (.pair (.int .i64) (.pair (.pair (.int .i64) (.sl false (.int .i64))) (.pair (.sl false (.pair (.int .i64) (.pair (.int .i64) (.pair (.int .i64) .str)))) (.pair (.sl false (.int .i64)) (.pair (.sl false .str) (.pair (.int .i64) (.pair (.int .i64) (.pair (.int .i64) (.pair (.int .i64) (.pair (.int .i64) (.pair (.int .i64) (.pair (.int .i64) (.pair (.int .i64) (.pair (.int .i64) (.sl false (.int .i64)))))))))))))))) (.pair (.int .i64) (.pair (.int .i64) (.pair (.pair (.int .i64) (.sl false (.int .i64))) (.pair (.sl false (.pair (.int .i64) (.pair (.int .i64) (.pair (.int .i64) (.sl false (.pair (.int .i64) (.pair (.int .i64) (.pair (.int .i64) .str)))))))) (.sl false (.pair (.int .i64) (.pair (.pair (.int .i64) (.sl false (.int .i64))) (.pair (.pair (.int .i64) (.pair (.int .i64) (.pair (.int .i64) .str))) (.sl false (.int .i64)))))))))))))).den} (h : (ET.sl false (.pair (.int .i64) (.pair .bool (.pair (.pair (.int .i64) (.pair (.pair (.int .i64) (.sl false (.int .i64))) (.pair (.sl false (.pair (.int .i64) (.pair (.int .i64) (.pair (.int .i64) .str)))) (.pair (.sl false (.int .i64)) (.pair (.sl false .str) (.pair (.int .i64) (.pair (.int .i64) (.pair (.int .i64) (.pair (.int .i64) (.pair (.int .i64) (.pair (.int .i64) (.pair (.int .i64) (.pair (.int .i64) (.pair (.int .i64) (.sl false (.int .i64)))))))))))))))) (.pair (.int .i64) (.pair (.int .i64) (.pair (.pair (.int .i64) (.sl false (.int .i64))) (.pair (.sl false (.pair (.int .i64) (.pair (.int .i64) (.pair (.int .i64) (.sl false (.pair (.int .i64) (.pair (.int .i64) (.pair (.int .i64) .str)))))))) (.sl false (.pair (.int .i64) (.pair (.pair (.int .i64) (.sl false (.int .i64))) (.pair (.pair (.int .i64) (.pair (.int .i64) (.pair (.int .i64) .str))) (.sl false (.int .i64)))))))))))))).small a) : T_laws_eqDaemonS (a, a) = some true := by
  have h1 : a.length ≤ 1048576 := h.1
  rw [e_T_laws_eqDaemonS, eq_sl (L := L_laws_eqDaemonS_1) (Nat.le_trans h1 (by decide)) (fun n i y hy => ?_) (fun n => ?_)]
  · simp
  · have hlt := (List.getElem?_eq_some_iff.1 hy).1
    rw [e_L_laws_eqDaemonS_1]
    simp only [show ((i : Int) < (a.length : Int)) by omega, decide_true, cond_true, Int.natCast_nonneg, if_true, Int.toNat_natCast, hy, Option.bind_some, beq_self_eq_true, Bool.not_true, cond_false, q_eqDaemon (h.2 y (List.mem_of_getElem? hy))]
    rw [wrap_ok (by omega) (by omega)]
  · rw [e_L_laws_eqDaemonS_1]; simp
theorem q_eqLetter {x : (ET.pair (.int .i64) (.pair (.int .i64) (.pair (.int .i64) (.pair (.pair (.int .i64) (.pair (.int .i64) (.pair (.int .i64) .str))) (.pair (.pair (.int .i64) (.pair (.int .i64) (.pair (.int .i64) (.pair (.int .i64) (.pair (.int .i64) (.sl false (.int .i64))))))) (.pair (.int .i64) (.pair (.int .i64) (.pair (.int .i64) (.sl false (.pair (.int .i64) (.pair (.int .i64) (.pair (.int .i64) .str)))))))))))).den} (h : (ET.pair (.int .i64) (.pair (.int .i64) (.pair (.int .i64) (.pair (.pair (.int .i64) (.pair (.int .i64) (.pair (.int .i64) .str))) (.pair (.pair (.int .i64) (.pair (.int .i64) (.pair (.int .i64) (.pair (.int .i64) (.pair (.int .i64) (.sl false (.int .i64))))))) (.pair (.int .i64) (.pair (.int .i64) (.pair (.int .i64) (.sl false (.pair (.int .i64) (.pair (.int .i64) (.pair (.int .i64) .str)))))))))))).small x) : T_laws_eqLetter (x, x) = some true := by
  obtain ⟨a, b, c, ⟨d, e, f, g⟩, ⟨h, i, j, k, l, m⟩, o, p, q, r⟩ := x
  obtain ⟨h_a, h_b, h_c, ⟨h_d, h_e, h_f, h_g⟩, ⟨h_h, h_i, h_j, h_k, h_l, h_m⟩, h_o, h_p, h_q, h_r⟩ := h
  simp only [e_T_laws_eqLetter, q_eqItem ⟨h_d, h_e, h_f, h_g⟩, q_eqToken ⟨h_h, h_i, h_j, h_k, h_l, h_m⟩, q_eqBundle ⟨h_o, h_p, h_q, h_r⟩, Option.bind_some, beq_self_eq_true, Bool.not_true, cond_false]
theorem q_eqLetterS {a : (ET.sl false (.pair (.int .i64) (.pair (.int .i64) (.pair (.int .i64) (.pair (.pair (.int .i64) (.pair (.int .i64) (.pair (.int .i64) .str))) (.pair (.pair (.int .i64) (.pair (.int .i64) (.pair (.int .i64) (.pair (.int .i64) (.pair (.int .i64) (.sl false (.int .i64))))))) (.pair (.int .i64) (.pair (.int .i64) (.pair (.int .i64) (.sl false (.pair (.int .i64) (.pair (.int .i64) (.pair (.int .i64) .str))))))))))))).den} (h : (ET.sl false (.pair (.int .i64) (.pair (.int .i64) (.pair (.int .i64) (.pair (.pair (.int .i64) (.pair (.int .i64) (.pair (.int .i64) .str))) (.pair (.pair (.int .i64) (.pair (.int .i64) (.pair (.int .i64) (.pair (.int .i64) (.pair (.int .i64) (.sl false (.int .i64))))))) (.pair (.int .i64) (.pair (.int .i64) (.pair (.int .i64) (.sl false (.pair (.int .i64) (.pair (.int .i64) (.pair (.int .i64) .str))))))))))))).small a) : T_laws_eqLetterS (a, a) = some true := by
  have h1 : a.length ≤ 1048576 := h.1
  rw [e_T_laws_eqLetterS, eq_sl (L := L_laws_eqLetterS_1) (Nat.le_trans h1 (by decide)) (fun n i y hy => ?_) (fun n => ?_)]
  · simp
  · have hlt := (List.getElem?_eq_some_iff.1 hy).1
    rw [e_L_laws_eqLetterS_1]
    simp only [show ((i : Int) < (a.length : Int)) by omega, decide_true, cond_true, Int.natCast_nonneg, if_true, Int.toNat_natCast, hy, Option.bind_some, beq_self_eq_true, Bool.not_true, cond_false, q_eqLetter (h.2 y (List.mem_of_getElem? hy))]
    rw [wrap_ok (by omega) (by omega)]
  · rw [e_L_laws_eqLetterS_1]; simp
theorem q_eqWorld {x : (ET.pair (.sl false (.pair (.int .i64) (.sl false (.int .i64)))) (.pair (.sl false (.pair (.int .i64) (.pair .bool (.pair (.pair (.int .i64) (.pair (.pair (.int .i64) (.sl false (.int .i64))) (.pair (.sl false (.pair (.int .i64) (.pair (.int .i64) (.pair (.int .i64) .str)))) (.pair (.sl false (.int .i64)) (.pair (.sl false .str) (.pair (.int .i64) (.pair (.int .i64) (.pair (.int .i64) (.pair (.int .i64) (.pair (.int .i64) (.pair (.int .i64) (.pair (.int .i64) (.pair (.int .i64) (.pair (.int .i64) (.sl false (.int .i64)))))))))))))))) (.pair (.int .i64) (.pair (.int .i64) (.pair (.pair (.int .i64) (.sl false (.int .i64))) (.pair (.sl false (.pair (.int .i64) (.pair (.int .i64) (.pair (.int .i64) (.sl false (.pair (.int .i64) (.pair (.int .i64) (.pair (.int .i64) .str)))))))) (.sl false (.pair (.int .i64) (.pair (.pair (.int .i64) (.sl false (.int .i64))) (.pair (.pair (.int .i64) (.pair (.int .i64) (.pair (.int .i64) .str))) (.sl false (.int .i64)))))))))))))) (.pair (.sl false (.pair (.int .i64) (.pair (.int .i64) (.pair (.int .i64) (.pair (.pair (.int .i64) (.pair (.int .i64) (.pair (.int .i64) .str))) (.pair (.pair (.int .i64) (.pair (.int .i64) (.pair (.int .i64) (.pair (.int .i64) (.pair (.int .i64) (.sl false (.int .i64))))))) (.pair (.int .i64) (.pair (.int .i64) (.pair (.int .i64) (.sl false (.pair (.int .i64) (.pair (.int .i64) (.pair (.int .i64) .str))))))))))))) (.sl false (.pair (.int .i64) (.pair (.pair (.int .i64) (.sl false (.int .i64))) (.pair (.pair (.int .i64) (.pair (.int .i64) (.pair (.int .i64) .str))) (.sl false (.int .i64))))))))).den} (h : (ET.pair (.sl false (.pair (.int .i64) (.sl false (.int .i64)))) (.pair (.sl false (.pair (.int .i64) (.pair .bool (.pair (.pair (.int .i64) (.pair (.pair (.int .i64) (.sl false (.int .i64))) (.pair (.sl false (.pair (.int .i64) (.pair (.int .i64) (.pair (.int .i64) .str)))) (.pair (.sl false (.int .i64)) (.pair (.sl false .str) (.pair (.int .i64) (.pair (.int .i64) (.pair (.int .i64) (.pair (.int .i64) (.pair (.int .i64) (.pair (.int .i64) (.pair (.int .i64) (.pair (.int .i64) (.pair (.int .i64) (.sl false (.int .i64)))))))))))))))) (.pair (.int .i64) (.pair (.int .i64) (.pair (.pair (.int .i64) (.sl false (.int .i64))) (.pair (.sl false (.pair (.int .i64) (.pair (.int .i64) (.pair (.int .i64) (.sl false (.pair (.int .i64) (.pair (.int .i64) (.pair (.int .i64) .str)))))))) (.sl false (.pair (.int .i64) (.pair (.pair (.int .i64) (.sl false (.int .i64))) (.pair (.pair (.int .i64) (.pair (.int .i64) (.pair (.int .i64) .str))) (.sl false (.int .i64)))))))))))))) (.pair (.sl false (.pair (.int .i64) (.pair (.int .i64) (.pair (.int .i64) (.pair (.pair (.int .i64) (.pair (.int .i64) (.pair (.int .i64) .str))) (.pair (.pair (.int .i64) (.pair (.int .i64) (.pair (.int .i64) (.pair (.int .i64) (.pair (.int .i64) (.sl false (.int .i64))))))) (.pair (.int .i64) (.pair (.int .i64) (.pair (.int .i64) (.sl false (.pair (.int .i64) (.pair (.int .i64) (.pair (.int .i64) .str))))))))))))) (.sl false (.pair (.int .i64) (.pair (.pair (.int .i64) (.sl false (.int .i64))) (.pair (.pair (.int .i64) (.pair (.int .i64) (.pair (.int .i64) .str))) (.sl false (.int .i64))))))))).small x) : T_laws_eqWorld (x, x) = some true := by
  obtain ⟨a, b, c, d⟩ := x
  obtain ⟨h_a, h_b, h_c, h_d⟩ := h
  simp only [e_T_laws_eqWorld, q_eqRingS h_a, q_eqDaemonS h_b, q_eqLetterS h_c, q_eqEventS h_d, Option.bind_some, beq_self_eq_true, Bool.not_true, cond_false]
theorem q_eqReader {x : (ET.pair .str .bool).den} (h : (ET.pair .str .bool).small x) : T_laws_eqReader (x, x) = some true := by
  obtain ⟨a, b⟩ := x
  obtain ⟨h_a, h_b⟩ := h
  simp only [e_T_laws_eqReader, Option.bind_some, beq_self_eq_true, Bool.not_true, cond_false]
theorem q_eqSession {x : (ET.pair (.int .i64) (.pair .str (.pair (.pair .str .bool) (.pair .bool (.sl false .str))))).den} (h : (ET.pair (.int .i64) (.pair .str (.pair (.pair .str .bool) (.pair .bool (.sl false .str))))).small x) : T_laws_eqSession (x, x) = some true := by
  obtain ⟨a, b, ⟨c, d⟩, e, f⟩ := x
  obtain ⟨h_a, h_b, ⟨h_c, h_d⟩, h_e, h_f⟩ := h
  simp only [e_T_laws_eqSession, q_eqReader ⟨h_c, h_d⟩, q_eqStringS h_f, Option.bind_some, beq_self_eq_true, Bool.not_true, cond_false]
theorem q_eqBox {x : (ET.pair .str (.pair (.sl false .str) .bool)).den} (h : (ET.pair .str (.pair (.sl false .str) .bool)).small x) : T_laws_eqBox (x, x) = some true := by
  obtain ⟨a, b, c⟩ := x
  obtain ⟨h_a, h_b, h_c⟩ := h
  simp only [e_T_laws_eqBox, q_eqStringS h_b, Option.bind_some, beq_self_eq_true, Bool.not_true, cond_false]
theorem q_eqCaller {x : (ET.pair (.pair (.int .i64) (.pair .str (.pair (.pair .str .bool) (.pair .bool (.sl false .str))))) (.pair (.pair .str (.pair (.sl false .str) .bool)) (.pair .str (.sl false .str)))).den} (h : (ET.pair (.pair (.int .i64) (.pair .str (.pair (.pair .str .bool) (.pair .bool (.sl false .str))))) (.pair (.pair .str (.pair (.sl false .str) .bool)) (.pair .str (.sl false .str)))).small x) : T_laws_eqCaller (x, x) = some true := by
  obtain ⟨⟨a, b, ⟨c, d⟩, e, f⟩, ⟨g, h, i⟩, j, k⟩ := x
  obtain ⟨⟨h_a, h_b, ⟨h_c, h_d⟩, h_e, h_f⟩, ⟨h_g, h_h, h_i⟩, h_j, h_k⟩ := h
  simp only [e_T_laws_eqCaller, q_eqSession ⟨h_a, h_b, ⟨h_c, h_d⟩, h_e, h_f⟩, q_eqBox ⟨h_g, h_h, h_i⟩, q_eqStringS h_k, Option.bind_some, beq_self_eq_true, Bool.not_true, cond_false]
theorem q_eqCallerS {a : (ET.sl false (.pair (.pair (.int .i64) (.pair .str (.pair (.pair .str .bool) (.pair .bool (.sl false .str))))) (.pair (.pair .str (.pair (.sl false .str) .bool)) (.pair .str (.sl false .str))))).den} (h : (ET.sl false (.pair (.pair (.int .i64) (.pair .str (.pair (.pair .str .bool) (.pair .bool (.sl false .str))))) (.pair (.pair .str (.pair (.sl false .str) .bool)) (.pair .str (.sl false .str))))).small a) : T_laws_eqCallerS (a, a) = some true := by
  have h1 : a.length ≤ 1048576 := h.1
  rw [e_T_laws_eqCallerS, eq_sl (L := L_laws_eqCallerS_1) (Nat.le_trans h1 (by decide)) (fun n i y hy => ?_) (fun n => ?_)]
  · simp
  · have hlt := (List.getElem?_eq_some_iff.1 hy).1
    rw [e_L_laws_eqCallerS_1]
    simp only [show ((i : Int) < (a.length : Int)) by omega, decide_true, cond_true, Int.natCast_nonneg, if_true, Int.toNat_natCast, hy, Option.bind_some, beq_self_eq_true, Bool.not_true, cond_false, q_eqCaller (h.2 y (List.mem_of_getElem? hy))]
    rw [wrap_ok (by omega) (by omega)]
  · rw [e_L_laws_eqCallerS_1]; simp
theorem q_eqGroup {x : (ET.pair .str (.sl false .str)).den} (h : (ET.pair .str (.sl false .str)).small x) : T_laws_eqGroup (x, x) = some true := by
  obtain ⟨a, b⟩ := x
  obtain ⟨h_a, h_b⟩ := h
  simp only [e_T_laws_eqGroup, q_eqStringS h_b, Option.bind_some, beq_self_eq_true, Bool.not_true, cond_false]
theorem q_eqGroupS {a : (ET.sl false (.pair .str (.sl false .str))).den} (h : (ET.sl false (.pair .str (.sl false .str))).small a) : T_laws_eqGroupS (a, a) = some true := by
  have h1 : a.length ≤ 1048576 := h.1
  rw [e_T_laws_eqGroupS, eq_sl (L := L_laws_eqGroupS_1) (Nat.le_trans h1 (by decide)) (fun n i y hy => ?_) (fun n => ?_)]
  · simp
  · have hlt := (List.getElem?_eq_some_iff.1 hy).1
    rw [e_L_laws_eqGroupS_1]
    simp only [show ((i : Int) < (a.length : Int)) by omega, decide_true, cond_true, Int.natCast_nonneg, if_true, Int.toNat_natCast, hy, Option.bind_some, beq_self_eq_true, Bool.not_true, cond_false, q_eqGroup (h.2 y (List.mem_of_getElem? hy))]
    rw [wrap_ok (by omega) (by omega)]
  · rw [e_L_laws_eqGroupS_1]; simp
theorem q_eqTable {a : (ET.sl false (.pair .str (.sl false .str))).den} (h_a : (ET.sl false (.pair .str (.sl false .str))).small a) : T_laws_eqTable (a, a) = some true := by
  simp only [e_T_laws_eqTable, q_eqGroupS h_a, Option.bind_some, beq_self_eq_true, Bool.not_true, cond_false]
theorem q_eqTableS {a : (ET.sl false (.sl false (.pair .str (.sl false .str)))).den} (h : (ET.sl false (.sl false (.pair .str (.sl false .str)))).small a) : T_laws_eqTableS (a, a) = some true := by
  have h1 : a.length ≤ 1048576 := h.1
  rw [e_T_laws_eqTableS, eq_sl (L := L_laws_eqTableS_1) (Nat.le_trans h1 (by decide)) (fun n i y hy => ?_) (fun n => ?_)]
  · simp
  · have hlt := (List.getElem?_eq_some_iff.1 hy).1
    rw [e_L_laws_eqTableS_1]
    simp only [show ((i : Int) < (a.length : Int)) by omega, decide_true, cond_true, Int.natCast_nonneg, if_true, Int.toNat_natCast, hy, Option.bind_some, beq_self_eq_true, Bool.not_true, cond_false, q_eqTable (h.2 y (List.mem_of_getElem? hy))]
    rw [wrap_ok (by omega) (by omega)]
  · rw [e_L_laws_eqTableS_1]; simp
theorem q_eqHall {x : (ET.pair (.pair (.sl false (.pair (.int .i64) (.sl false (.int .i64)))) (.pair (.sl false (.pair (.int .i64) (.pair .bool (.pair (.pair (.int .i64) (.pair (.pair (.int .i64) (.sl false (.int .i64))) (.pair (.sl false (.pair (.int .i64) (.pair (.int .i64) (.pair (.int .i64) .str)))) (.pair (.sl false (.int .i64)) (.pair (.sl false .str) (.pair (.int .i64) (.pair (.int .i64) (.pair (.int .i64) (.pair (.int .i64) (.pair (.int .i64) (.pair (.int .i64) (.pair (.int .i64) (.pair (.int .i64) (.pair (.int .i64) (.sl false (.int .i64)))))))))))))))) (.pair (.int .i64) (.pair (.int .i64) (.pair (.pair (.int .i64) (.sl false (.int .i64))) (.pair (.sl false (.pair (.int .i64) (.pair (.int .i64) (.pair (.int .i64) (.sl false (.pair (.int .i64) (.pair (.int .i64) (.pair (.int .i64) .str)))))))) (.sl false (.pair (.int .i64) (.pair (.pair (.int .i64) (.sl false (.int .i64))) (.pair (.pair (.int .i64) (.pair (.int .i64) (.pair (.int .i64) .str))) (.sl false (.int .i64)))))))))))))) (.pair (.sl false (.pair (.int .i64) (.pair (.int .i64) (.pair (.int .i64) (.pair (.pair (.int .i64) (.pair (.int .i64) (.pair (.int .i64) .str))) (.pair (.pair (.int .i64) (.pair (.int .i64) (.pair (.int .i64) (.pair (.int .i64) (.pair (.int .i64) (.sl false (.int .i64))))))) (.pair (.int .i64) (.pair (.int .i64) (.pair (.int .i64) (.sl false (.pair (.int .i64) (.pair (.int .i64) (.pair (.int .i64) .str))))))))))))) (.sl false (.pair (.int .i64) (.pair (.pair (.int .i64) (.sl false (.int .i64))) (.pair (.pair (.int .i64) (.pair (.int .i64) (.pair (.int .i64) .str))) (.sl false (.int .i64))))))))) (.pair (.sl false (.pair (.pair (.int .i64) (.pair .str (.pair (.pair .str .bool) (.pair .bool (.sl false .str))))) (.pair (.pair .str (.pair (.sl false .str) .bool)) (.pair .str (.sl false .str))))) (.pair (.sl false (.sl false (.pair .str (.sl false .str)))) (.sl false (.int .i64))))).den} (h : (ET.pair (.pair (.sl false (.pair (.int .i64) (.sl false (.int .i64)))) (.pair (.sl false (.pair (.int .i64) (.pair .bool (.pair (.pair (.int .i64) (.pair (.pair (.int .i64) (.sl false (.int .i64))) (.pair (.sl false (.pair (.int .i64) (.pair (.int .i64) (.pair (.int .i64) .str)))) (.pair (.sl false (.int .i64)) (.pair (.sl false .str) (.pair (.int .i64) (.pair (.int .i64) (.pair (.int .i64) (.pair (.int .i64) (.pair (.int .i64) (.pair (.int .i64) (.pair (.int .i64) (.pair (.int .i64) (.pair (.int .i64) (.sl false (.int .i64)))))))))))))))) (.pair (.int .i64) (.pair (.int .i64) (.pair (.pair (.int .i64) (.sl false (.int .i64))) (.pair (.sl false (.pair (.int .i64) (.pair (.int .i64) (.pair (.int .i64) (.sl false (.pair (.int .i64) (.pair (.int .i64) (.pair (.int .i64) .str)))))))) (.sl false (.pair (.int .i64) (.pair (.pair (.int .i64) (.sl false (.int .i64))) (.pair (.pair (.int .i64) (.pair (.int .i64) (.pair (.int .i64) .str))) (.sl false (.int .i64)))))))))))))) (.pair (.sl false (.pair (.int .i64) (.pair (.int .i64) (.pair (.int .i64) (.pair (.pair (.int .i64) (.pair (.int .i64) (.pair (.int .i64) .str))) (.pair (.pair (.int .i64) (.pair (.int .i64) (.pair (.int .i64) (.pair (.int .i64) (.pair (.int .i64) (.sl false (.int .i64))))))) (.pair (.int .i64) (.pair (.int .i64) (.pair (.int .i64) (.sl false (.pair (.int .i64) (.pair (.int .i64) (.pair (.int .i64) .str))))))))))))) (.sl false (.pair (.int .i64) (.pair (.pair (.int .i64) (.sl false (.int .i64))) (.pair (.pair (.int .i64) (.pair (.int .i64) (.pair (.int .i64) .str))) (.sl false (.int .i64))))))))) (.pair (.sl false (.pair (.pair (.int .i64) (.pair .str (.pair (.pair .str .bool) (.pair .bool (.sl false .str))))) (.pair (.pair .str (.pair (.sl false .str) .bool)) (.pair .str (.sl false .str))))) (.pair (.sl false (.sl false (.pair .str (.sl false .str)))) (.sl false (.int .i64))))).small x) : T_laws_eqHall (x, x) = some true := by
  obtain ⟨⟨a, b, c, d⟩, e, f, g⟩ := x
  obtain ⟨⟨h_a, h_b, h_c, h_d⟩, h_e, h_f, h_g⟩ := h
  simp only [e_T_laws_eqHall, q_eqWorld ⟨h_a, h_b, h_c, h_d⟩, q_eqCallerS h_e, q_eqTableS h_f, q_eqIntS h_g, Option.bind_some, beq_self_eq_true, Bool.not_true, cond_false]
theorem small_len {s : List UInt8} (h : ET.str.small s) : s.length ≤ maxLen := Nat.le_trans h (by decide)
theorem smallL_len {e : ET} {o : Bool} {s : List e.den} (h : (ET.sl o e).small s) : s.length ≤ maxLen := Nat.le_trans h.1 (by decide)
theorem x_inRange (a b c : Int) : T_spec_l01In (a, b, c) = some (decide (b ≤ a ∧ a ≤ c)) ∧ T_impl_inRange (a, b, c) = some (decide (b ≤ a ∧ a ≤ c)) := by
  rw [e_T_spec_l01In, e_T_impl_inRange]
  by_cases h : b ≤ a <;> simp [h]
theorem x_markTextL : ∀ (m n : Nat) (a : Int) (b : List UInt8), m < n → a < 10 ^ m → a ≤ 9223372036854775807 → b.length + m ≤ 1000 → ∃ s, L_laws_markText_1 n (a, b) = some (.inl s) ∧ s.length ≤ 1000
  | 0, n, a, b, hn, ha, hb, hl => by
    obtain ⟨n, rfl⟩ : ∃ j, n = j + 1 := ⟨n - 1, by omega⟩
    rw [e_L_laws_markText_1, decide_eq_false (by simp at ha; omega)]
    exact ⟨b, rfl, by omega⟩
  | m + 1, n, a, b, hn, ha, hb, hl => by
    obtain ⟨n, rfl⟩ : ∃ j, n = j + 1 := ⟨n - 1, by omega⟩
    rw [e_L_laws_markText_1]
    by_cases h0 : 0 < a
    · rw [decide_eq_true h0, cond_true, if_neg (by simp only [List.length_map, List.length_cons, List.length_nil]; omega)]
      have h1 : a.tdiv 10 = a / 10 := Int.tdiv_eq_ediv_of_nonneg (by omega)
      rw [Int.pow_succ] at ha
      rw [h1, wrap_ok (by omega) (by omega)]
      exact x_markTextL m n (a / 10) _ (by omega) (by omega) (by omega) (by simp only [List.length_append, List.length_map, List.length_cons, List.length_nil]; omega)
    · rw [decide_eq_false h0]
      exact ⟨b, rfl, by omega⟩
theorem x_markText (k : Int) (h : k ≤ 9223372036854775807) : ∃ s, T_laws_markText k = some s := by
  rw [e_T_laws_markText]
  by_cases h0 : k ≤ 0
  · rw [decide_eq_true h0]; exact ⟨_, rfl⟩
  · rw [decide_eq_false h0, cond_false]
    obtain ⟨s, h1, h2⟩ := x_markTextL 19 fuel k [] (by decide) (by have : (10 : Int) ^ 19 = 10000000000000000000 := rfl; omega) h (by simp)
    rw [h1]
    simp only [Option.bind_some, Sum.elim_inl]
    rw [if_neg (by omega)]
    exact ⟨_, rfl⟩
set_option maxHeartbeats 4000000 in
set_option maxRecDepth 100000 in
theorem mk_markIntS : MkW (.sl true (.int .i64)) T_laws_markIntS (fun _ _ _ => True) := by
  refine MkW.mono (mkw_sl (e := .int .i64) (L := L_laws_markIntS_1) (Q := (fun _ _ _ => True)) e_T_laws_markIntS (fun a b i v1 hy h_v1 h0 hW hi => ?_) (fun n a b => by rw [e_L_laws_markIntS_1]; simp)) (fun l k k' hh => ?_)
  · have hlt := (List.getElem?_eq_some_iff.1 hy).1
    try simp -implicitDefEqProofs only [wt_pair, wt_int, wt_bool, wt_str] at hW ⊢
    have w1 : IntKind.i64.wrap (b + 1) = b + 1 := wrap_ok (by omega) (by omega)
    refine ⟨b + 1, b, fun n => ?_, trivial, by omega⟩
    · rw [e_L_laws_markIntS_1]
      simp only [show ((i : Int) < (a.length : Int)) by omega, decide_true, cond_true, Int.natCast_nonneg, if_true, Int.toNat_natCast, hlt, List.length_set, hy, Option.bind_some, List.getElem?_set_self, List.set_set, eq_self, un_mk, Sum.elim_inl, w1]
      rw [wrap_ok (by omega) (by omega)]
  · trivial
set_option maxHeartbeats 4000000 in
set_option maxRecDepth 100000 in
theorem mk_markRingS : MkW (.sl true (.pair (.int .i64) (.sl true (.int .i64)))) T_laws_markRingS (fun _ _ _ => True) := by
  refine MkW.mono (mkw_sl (e := .pair (.int .i64) (.sl true (.int .i64))) (L := L_laws_markRingS_1) (Q := (fun _ _ _ => True)) e_T_laws_markRingS (fun a b i y hy hs h0 hW hi => ?_) (fun n a b => by rw [e_L_laws_markRingS_1]; simp)) (fun l k k' hh => ?_)
  · have hlt := (List.getElem?_eq_some_iff.1 hy).1
    obtain ⟨v1, v2⟩ := y
    obtain ⟨h_v1, h_v2⟩ := hs
    try simp -implicitDefEqProofs only [wt_pair, wt_int, wt_bool, wt_str] at hW ⊢
    have g_v2 := wt_nn (.sl true (.int .i64)) v2
    have w1 : IntKind.i64.wrap (b + 1) = b + 1 := wrap_ok (by omega) (by omega)
    obtain ⟨k2, z2, m2, q2, u2⟩ := mk_markIntS v2 (b + 1) h_v2 (by omega) (by (try simp -implicitDefEqProofs only [wt_pair, wt_int, wt_bool, wt_str]); omega)
    try simp -implicitDefEqProofs only [wt_pair, wt_int, wt_bool, wt_str] at u2
    have n2 : decide (k2 < 0) = false := decide_eq_false (by omega)
    refine ⟨k2, (b, z2), fun n => ?_, trivial, by omega⟩
    · rw [e_L_laws_markRingS_1]
      simp only [show ((i : Int) < (a.length : Int)) by omega, decide_true, cond_true, Int.natCast_nonneg, if_true, Int.toNat_natCast, hlt, List.length_set, hy, Option.bind_some, List.getElem?_set_self, List.set_set, eq_self, un_mk, Sum.elim_inl, w1, m2]
      rw [wrap_ok (by omega) (by omega)]
  · trivial
set_option maxHeartbeats 4000000 in
set_option maxRecDepth 100000 in
theorem mk_markItemS : MkW (.sl true (.pair (.int .i64) (.pair (.int .i64) (.pair (.int .i64) .str)))) T_laws_markItemS (fun _ _ _ => True) := by
  refine MkW.mono (mkw_sl (e := .pair (.int .i64) (.pair (.int .i64) (.pair (.int .i64) .str))) (L := L_laws_markItemS_1) (Q := (fun _ _ _ => True)) e_T_laws_markItemS (fun a b i y hy hs h0 hW hi => ?_) (fun n a b => by rw [e_L_laws_markItemS_1]; simp)) (fun l k k' hh => ?_)
  · have hlt := (List.getElem?_eq_some_iff.1 hy).1
    obtain ⟨v1, ⟨v2, ⟨v3, v4⟩⟩⟩ := y
    obtain ⟨h_v1, ⟨h_v2, ⟨h_v3, h_v4⟩⟩⟩ := hs
    try simp -implicitDefEqProofs only [wt_pair, wt_int, wt_bool, wt_str] at hW ⊢
    have w1 : IntKind.i64.wrap (b + 1) = b + 1 := wrap_ok (by omega) (by omega)
    have w2 : IntKind.i64.wrap (b + 1 + 1) = b + 1 + 1 := wrap_ok (by omega) (by omega)
    have w3 : IntKind.i64.wrap (b + 1 + 1 + 1) = b + 1 + 1 + 1 := wrap_ok (by omega) (by omega)
    obtain ⟨s4, t4⟩ := x_markText (b + 1 + 1 + 1) (by omega)
    have w5 : IntKind.i64.wrap (b + 1 + 1 + 1 + 1) = b + 1 + 1 + 1 + 1 := wrap_ok (by omega) (by omega)
    refine ⟨b + 1 + 1 + 1 + 1, (b, (b + 1, (b + 1 + 1, s4))), fun n => ?_, trivial, by omega⟩
    · rw [e_L_laws_markItemS_1]
      simp only [show ((i : Int) < (a.length : Int)) by omega, decide_true, cond_true, Int.natCast_nonneg, if_true, Int.toNat_natCast, hlt, List.length_set, hy, Option.bind_some, List.getElem?_set_self, List.set_set, eq_self, un_mk, Sum.elim_inl, w1, w2, w3, t4, w5]
      rw [wrap_ok (by omega) (by omega)]
  · trivial
set_option maxHeartbeats 4000000 in
set_option maxRecDepth 100000 in
theorem mk_markStringS : MkW (.sl true .str) T_laws_markStringS (fun y k k' => T_laws_heldStringS (y, k) = some k') := by
  refine MkW.mono (mkw_sl (e := .str) (L := L_laws_markStringS_1) (Q := (fun y b b' => ∀ n a (i : Nat), a[i]? = some y → i ≤ 1048576 → L_laws_heldStringS_1 (n + 1) (a, b, (i : Int)) = L_laws_heldStringS_1 n (a, b', (i : Int) + 1))) e_T_laws_markStringS (fun a b i v1 hy h_v1 h0 hW hi => ?_) (fun n a b => by rw [e_L_laws_markStringS_1]; simp)) (fun l k k' hh => ?_)
  · have hlt := (List.getElem?_eq_some_iff.1 hy).1
    try simp -implicitDefEqProofs only [wt_pair, wt_int, wt_bool, wt_str] at hW ⊢
    obtain ⟨s1, t1⟩ := x_markText (b) (by omega)
    have w2 : IntKind.i64.wrap (b + 1) = b + 1 := wrap_ok (by omega) (by omega)
    refine ⟨b + 1, s1, fun n => ?_, fun n a i hy hi => ?_, by omega⟩
    · rw [e_L_laws_markStringS_1]
      simp only [show ((i : Int) < (a.length : Int)) by omega, decide_true, cond_true, Int.natCast_nonneg, if_true, Int.toNat_natCast, hlt, List.length_set, hy, Option.bind_some, List.getElem?_set_self, List.set_set, eq_self, un_mk, Sum.elim_inl, t1, w2]
      rw [wrap_ok (by omega) (by omega)]
    · rw [e_L_laws_heldStringS_1]
      have hlt := (List.getElem?_eq_some_iff.1 hy).1
      simp only [show ((i : Int) < (a.length : Int)) by omega, decide_true, cond_true, Int.natCast_nonneg, if_true, Int.toNat_natCast, hy, Option.bind_some, beq_self_eq_true, Bool.not_true, cond_false, t1, w2]
      rw [wrap_ok (by omega) (by omega)]
  · exact hd_sl (L := L_laws_heldStringS_1) e_T_laws_heldStringS (fun a b b' i y hy hq hi n => hq n a i hy hi) (fun n a b => by rw [e_L_laws_heldStringS_1]; simp) hh.1 hh.2
set_option maxHeartbeats 4000000 in
set_option maxRecDepth 100000 in
theorem mk_markBundleS : MkW (.sl true (.pair (.int .i64) (.pair (.int .i64) (.pair (.int .i64) (.sl true (.pair (.int .i64) (.pair (.int .i64) (.pair (.int .i64) .str)))))))) T_laws_markBundleS (fun _ _ _ => True) := by
  refine MkW.mono (mkw_sl (e := .pair (.int .i64) (.pair (.int .i64) (.pair (.int .i64) (.sl true (.pair (.int .i64) (.pair (.int .i64) (.pair (.int .i64) .str))))))) (L := L_laws_markBundleS_1) (Q := (fun _ _ _ => True)) e_T_laws_markBundleS (fun a b i y hy hs h0 hW hi => ?_) (fun n a b => by rw [e_L_laws_markBundleS_1]; simp)) (fun l k k' hh => ?_)
  · have hlt := (List.getElem?_eq_some_iff.1 hy).1
    obtain ⟨v1, ⟨v2, ⟨v3, v4⟩⟩⟩ := y
    obtain ⟨h_v1, ⟨h_v2, ⟨h_v3, h_v4⟩⟩⟩ := hs
    try simp -implicitDefEqProofs only [wt_pair, wt_int, wt_bool, wt_str] at hW ⊢
    have g_v4 := wt_nn (.sl true (.pair (.int .i64) (.pair (.int .i64) (.pair (.int .i64) .str)))) v4
    have w1 : IntKind.i64.wrap (b + 1) = b + 1 := wrap_ok (by omega) (by omega)
    have w2 : IntKind.i64.wrap (b + 1 + 1) = b + 1 + 1 := wrap_ok (by omega) (by omega)
    have w3 : IntKind.i64.wrap (b + 1 + 1 + 1) = b + 1 + 1 + 1 := wrap_ok (by omega) (by omega)
    obtain ⟨k4, z4, m4, q4, u4⟩ := mk_markItemS v4 (b + 1 + 1 + 1) h_v4 (by omega) (by (try simp -implicitDefEqProofs only [wt_pair, wt_int, wt_bool, wt_str]); omega)
    try simp -implicitDefEqProofs only [wt_pair, wt_int, wt_bool, wt_str] at u4
    have n4 : decide (k4 < 0) = false := decide_eq_false (by omega)
    refine ⟨k4, (b, (b + 1, (b + 1 + 1, z4))), fun n => ?_, trivial, by omega⟩
    · rw [e_L_laws_markBundleS_1]
      simp only [show ((i : Int) < (a.length : Int)) by omega, decide_true, cond_true, Int.natCast_nonneg, if_true, Int.toNat_natCast, hlt, List.length_set, hy, Option.bind_some, List.getElem?_set_self, List.set_set, eq_self, un_mk, Sum.elim_inl, w1, w2, w3, m4]
      rw [wrap_ok (by omega) (by omega)]
  · trivial
set_option maxHeartbeats 4000000 in
set_option maxRecDepth 100000 in
theorem mk_markEventS : MkW (.sl true (.pair (.int .i64) (.pair (.pair (.int .i64) (.sl true (.int .i64))) (.pair (.pair (.int .i64) (.pair (.int .i64) (.pair (.int .i64) .str))) (.sl true (.int .i64)))))) T_laws_markEventS (fun _ _ _ => True) := by
  refine MkW.mono (mkw_sl (e := .pair (.int .i64) (.pair (.pair (.int .i64) (.sl true (.int .i64))) (.pair (.pair (.int .i64) (.pair (.int .i64) (.pair (.int .i64) .str))) (.sl true (.int .i64))))) (L := L_laws_markEventS_1) (Q := (fun _ _ _ => True)) e_T_laws_markEventS (fun a b i y hy hs h0 hW hi => ?_) (fun n a b => by rw [e_L_laws_markEventS_1]; simp)) (fun l k k' hh => ?_)
  · have hlt := (List.getElem?_eq_some_iff.1 hy).1
    obtain ⟨v1, ⟨⟨v2, v3⟩, ⟨⟨v4, ⟨v5, ⟨v6, v7⟩⟩⟩, v8⟩⟩⟩ := y
    obtain ⟨h_v1, ⟨⟨h_v2, h_v3⟩, ⟨⟨h_v4, ⟨h_v5, ⟨h_v6, h_v7⟩⟩⟩, h_v8⟩⟩⟩ := hs
    try simp -implicitDefEqProofs only [wt_pair, wt_int, wt_bool, wt_str] at hW ⊢
    have g_v3 := wt_nn (.sl true (.int .i64)) v3
    have g_v8 := wt_nn (.sl true (.int .i64)) v8
    have w1 : IntKind.i64.wrap (b + 1) = b + 1 := wrap_ok (by omega) (by omega)
    have w2 : IntKind.i64.wrap (b + 1 + 1) = b + 1 + 1 := wrap_ok (by omega) (by omega)
    obtain ⟨k3, z3, m3, q3, u3⟩ := mk_markIntS v3 (b + 1 + 1) h_v3 (by omega) (by (try simp -implicitDefEqProofs only [wt_pair, wt_int, wt_bool, wt_str]); omega)
    try simp -implicitDefEqProofs only [wt_pair, wt_int, wt_bool, wt_str] at u3
    have n3 : decide (k3 < 0) = false := decide_eq_false (by omega)
    have w4 : IntKind.i64.wrap (k3 + 1) = k3 + 1 := wrap_ok (by omega) (by omega)
    have w5 : IntKind.i64.wrap (k3 + 1 + 1) = k3 + 1 + 1 := wrap_ok (by omega) (by omega)
    have w6 : IntKind.i64.wrap (k3 + 1 + 1 + 1) = k3 + 1 + 1 + 1 := wrap_ok (by omega) (by omega)
    obtain ⟨s7, t7⟩ := x_markText (k3 + 1 + 1 + 1) (by omega)
    have w8 : IntKind.i64.wrap (k3 + 1 + 1 + 1 + 1) = k3 + 1 + 1 + 1 + 1 := wrap_ok (by omega) (by omega)
    obtain ⟨k9, z9, m9, q9, u9⟩ := mk_markIntS v8 (k3 + 1 + 1 + 1 + 1) h_v8 (by omega) (by (try simp -implicitDefEqProofs only [wt_pair, wt_int, wt_bool, wt_str]); omega)
    try simp -implicitDefEqProofs only [wt_pair, wt_int, wt_bool, wt_str] at u9
    have n9 : decide (k9 < 0) = false := decide_eq_false (by omega)
    refine ⟨k9, (b, ((b + 1, z3), ((k3, (k3 + 1, (k3 + 1 + 1, s7))), z9))), fun n => ?_, trivial, by omega⟩
    · rw [e_L_laws_markEventS_1]
      simp only [show ((i : Int) < (a.length : Int)) by omega, decide_true, cond_true, Int.natCast_nonneg, if_true, Int.toNat_natCast, hlt, List.length_set, hy, Option.bind_some, List.getElem?_set_self, List.set_set, eq_self, un_mk, Sum.elim_inl, w1, w2, m3, w4, w5, w6, t7, w8, m9]
      rw [wrap_ok (by omega) (by omega)]
  · trivial
set_option maxHeartbeats 4000000 in
set_option maxRecDepth 100000 in
theorem mk_markDaemonS : MkW (.sl true (.pair (.int .i64) (.pair .bool (.pair (.pair (.int .i64) (.pair (.pair (.int .i64) (.sl true (.int .i64))) (.pair (.sl true (.pair (.int .i64) (.pair (.int .i64) (.pair (.int .i64) .str)))) (.pair (.sl true (.int .i64)) (.pair (.sl true .str) (.pair (.int .i64) (.pair (.int .i64) (.pair (.int .i64) (.pair (.int .i64) (.pair (.int .i64) (.pair (.int .i64) (.pair (.int .i64) (.pair (.int .i64) (.pair (.int .i64) (.sl true (.int .i64)))))))))))))))) (.pair (.int .i64) (.pair (.int .i64) (.pair (.pair (.int .i64) (.sl true (.int .i64))) (.pair (.sl true (.pair (.int .i64) (.pair (.int .i64) (.pair (.int .i64) (.sl true (.pair (.int .i64) (.pair (.int .i64) (.pair (.int .i64) .str)))))))) (.sl true (.pair (.int .i64) (.pair (.pair (.int .i64) (.sl true (.int .i64))) (.pair (.pair (.int .i64) (.pair (.int .i64) (.pair (.int .i64) .str))) (.sl true (.int .i64)))))))))))))) T_laws_markDaemonS (fun _ _ _ => True) := by
  refine MkW.mono (mkw_sl (e := .pair (.int .i64) (.pair .bool (.pair (.pair (.int .i64) (.pair (.pair (.int .i64) (.sl true (.int .i64))) (.pair (.sl true (.pair (.int .i64) (.pair (.int .i64) (.pair (.int .i64) .str)))) (.pair (.sl true (.int .i64)) (.pair (.sl true .str) (.pair (.int .i64) (.pair (.int .i64) (.pair (.int .i64) (.pair (.int .i64) (.pair (.int .i64) (.pair (.int .i64) (.pair (.int .i64) (.pair (.int .i64) (.pair (.int .i64) (.sl true (.int .i64)))))))))))))))) (.pair (.int .i64) (.pair (.int .i64) (.pair (.pair (.int .i64) (.sl true (.int .i64))) (.pair (.sl true (.pair (.int .i64) (.pair (.int .i64) (.pair (.int .i64) (.sl true (.pair (.int .i64) (.pair (.int .i64) (.pair (.int .i64) .str)))))))) (.sl true (.pair (.int .i64) (.pair (.pair (.int .i64) (.sl true (.int .i64))) (.pair (.pair (.int .i64) (.pair (.int .i64) (.pair (.int .i64) .str))) (.sl true (.int .i64))))))))))))) (L := L_laws_markDaemonS_1) (Q := (fun _ _ _ => True)) e_T_laws_markDaemonS (fun a b i y hy hs h0 hW hi => ?_) (fun n a b => by rw [e_L_laws_markDaemonS_1]; simp)) (fun l k k' hh => ?_)
  · have hlt := (List.getElem?_eq_some_iff.1 hy).1
    obtain ⟨v1, ⟨v2, ⟨⟨v3, ⟨⟨v4, v5⟩, ⟨v6, ⟨v7, ⟨v8, ⟨v9, ⟨v10, ⟨v11, ⟨v12, ⟨v13, ⟨v14, ⟨v15, ⟨v16, ⟨v17, v18⟩⟩⟩⟩⟩⟩⟩⟩⟩⟩⟩⟩⟩⟩, ⟨v19, ⟨v20, ⟨⟨v21, v22⟩, ⟨v23, v24⟩⟩⟩⟩⟩⟩⟩ := y
    obtain ⟨h_v1, ⟨h_v2, ⟨⟨h_v3, ⟨⟨h_v4, h_v5⟩, ⟨h_v6, ⟨h_v7, ⟨h_v8, ⟨h_v9, ⟨h_v10, ⟨h_v11, ⟨h_v12, ⟨h_v13, ⟨h_v14, ⟨h_v15, ⟨h_v16, ⟨h_v17, h_v18⟩⟩⟩⟩⟩⟩⟩⟩⟩⟩⟩⟩⟩⟩, ⟨h_v19, ⟨h_v20, ⟨⟨h_v21, h_v22⟩, ⟨h_v23, h_v24⟩⟩⟩⟩⟩⟩⟩ := hs
    try simp -implicitDefEqProofs only [wt_pair, wt_int, wt_bool, wt_str] at hW ⊢
    have g_v5 := wt_nn (.sl true (.int .i64)) v5
    have g_v6 := wt_nn (.sl true (.pair (.int .i64) (.pair (.int .i64) (.pair (.int .i64) .str)))) v6
    have g_v7 := wt_nn (.sl true (.int .i64)) v7
    have g_v8 := wt_nn (.sl true .str) v8
    have g_v18 := wt_nn (.sl true (.int .i64)) v18
    have g_v22 := wt_nn (.sl true (.int .i64)) v22
    have g_v23 := wt_nn (.sl true (.pair (.int .i64) (.pair (.int .i64) (.pair (.int .i64) (.sl true (.pair (.int .i64) (.pair (.int .i64) (.pair (.int .i64) .str)))))))) v23
    have g_v24 := wt_nn (.sl true (.pair (.int .i64) (.pair (.pair (.int .i64) (.sl true (.int .i64))) (.pair (.pair (.int .i64) (.pair (.int .i64) (.pair (.int .i64) .str))) (.sl true (.int .i64)))))) v24
    have w1 : IntKind.i64.wrap (b + 1) = b + 1 := wrap_ok (by omega) (by omega)
    have w2 : IntKind.i64.wrap (b + 1 + 1) = b + 1 + 1 := wrap_ok (by omega) (by omega)
    have w3 : IntKind.i64.wrap (b + 1 + 1 + 1) = b + 1 + 1 + 1 := wrap_ok (by omega) (by omega)
    have w4 : IntKind.i64.wrap (b + 1 + 1 + 1 + 1) = b + 1 + 1 + 1 + 1 := wrap_ok (by omega) (by omega)
    obtain ⟨k5, z5, m5, q5, u5⟩ := mk_markIntS v5 (b + 1 + 1 + 1 + 1) h_v5 (by omega) (by (try simp -implicitDefEqProofs only [wt_pair, wt_int, wt_bool, wt_str]); omega)
    try simp -implicitDefEqProofs only [wt_pair, wt_int, wt_bool, wt_str] at u5
    have n5 : decide (k5 < 0) = false := decide_eq_false (by omega)
    obtain ⟨k6, z6, m6, q6, u6⟩ := mk_markItemS v6 (k5) h_v6 (by omega) (by (try simp -implicitDefEqProofs only [wt_pair, wt_int, wt_bool, wt_str]); omega)
    try simp -implicitDefEqProofs only [wt_pair, wt_int, wt_bool, wt_str] at u6
    have n6 : decide (k6 < 0) = false := decide_eq_false (by omega)
    obtain ⟨k7, z7, m7, q7, u7⟩ := mk_markIntS v7 (k6) h_v7 (by omega) (by (try simp -implicitDefEqProofs only [wt_pair, wt_int, wt_bool, wt_str]); omega)
    try simp -implicitDefEqProofs only [wt_pair, wt_int, wt_bool, wt_str] at u7
    have n7 : decide (k7 < 0) = false := decide_eq_false (by omega)
    obtain ⟨k8, z8, m8, q8, u8⟩ := mk_markStringS v8 (k7) h_v8 (by omega) (by (try simp -implicitDefEqProofs only [wt_pair, wt_int, wt_bool, wt_str]); omega)
    try simp -implicitDefEqProofs only [wt_pair, wt_int, wt_bool, wt_str] at u8
    have n8 : decide (k8 < 0) = false := decide_eq_false (by omega)
    have w9 : IntKind.i64.wrap (k8 + 1) = k8 + 1 := wrap_ok (by omega) (by omega)
    have w10 : IntKind.i64.wrap (k8 + 1 + 1) = k8 + 1 + 1 := wrap_ok (by omega) (by omega)
    have w11 : IntKind.i64.wrap (k8 + 1 + 1 + 1) = k8 + 1 + 1 + 1 := wrap_ok (by omega) (by omega)
    have w12 : IntKind.i64.wrap (k8 + 1 + 1 + 1 + 1) = k8 + 1 + 1 + 1 + 1 := wrap_ok (by omega) (by omega)
    have w13 : IntKind.i64.wrap (k8 + 1 + 1 + 1 + 1 + 1) = k8 + 1 + 1 + 1 + 1 + 1 := wrap_ok (by omega) (by omega)
    have w14 : IntKind.i64.wrap (k8 + 1 + 1 + 1 + 1 + 1 + 1) = k8 + 1 + 1 + 1 + 1 + 1 + 1 := wrap_ok (by omega) (by omega)
    have w15 : IntKind.i64.wrap (k8 + 1 + 1 + 1 + 1 + 1 + 1 + 1) = k8 + 1 + 1 + 1 + 1 + 1 + 1 + 1 := wrap_ok (by omega) (by omega)
    have w16 : IntKind.i64.wrap (k8 + 1 + 1 + 1 + 1 + 1 + 1 + 1 + 1) = k8 + 1 + 1 + 1 + 1 + 1 + 1 + 1 + 1 := wrap_ok (by omega) (by omega)
    have w17 : IntKind.i64.wrap (k8 + 1 + 1 + 1 + 1 + 1 + 1 + 1 + 1 + 1) = k8 + 1 + 1 + 1 + 1 + 1 + 1 + 1 + 1 + 1 := wrap_ok (by omega) (by omega)
    obtain ⟨k18, z18, m18, q18, u18⟩ := mk_markIntS v18 (k8 + 1 + 1 + 1 + 1 + 1 + 1 + 1 + 1 + 1) h_v18 (by omega) (by (try simp -implicitDefEqProofs only [wt_pair, wt_int, wt_bool, wt_str]); omega)
    try simp -implicitDefEqProofs only [wt_pair, wt_int, wt_bool, wt_str] at u18
    have n18 : decide (k18 < 0) = false := decide_eq_false (by omega)
    have w19 : IntKind.i64.wrap (k18 + 1) = k18 + 1 := wrap_ok (by omega) (by omega)
    have w20 : IntKind.i64.wrap (k18 + 1 + 1) = k18 + 1 + 1 := wrap_ok (by omega) (by omega)
    have w21 : IntKind.i64.wrap (k18 + 1 + 1 + 1) = k18 + 1 + 1 + 1 := wrap_ok (by omega) (by omega)
    obtain ⟨k22, z22, m22, q22, u22⟩ := mk_markIntS v22 (k18 + 1 + 1 + 1) h_v22 (by omega) (by (try simp -implicitDefEqProofs only [wt_pair, wt_int, wt_bool, wt_str]); omega)
    try simp -implicitDefEqProofs only [wt_pair, wt_int, wt_bool, wt_str] at u22
    have n22 : decide (k22 < 0) = false := decide_eq_false (by omega)
    obtain ⟨k23, z23, m23, q23, u23⟩ := mk_markBundleS v23 (k22) h_v23 (by omega) (by (try simp -implicitDefEqProofs only [wt_pair, wt_int, wt_bool, wt_str]); omega)
    try simp -implicitDefEqProofs only [wt_pair, wt_int, wt_bool, wt_str] at u23
    have n23 : decide (k23 < 0) = false := decide_eq_false (by omega)
    obtain ⟨k24, z24, m24, q24, u24⟩ := mk_markEventS v24 (k23) h_v24 (by omega) (by (try simp -implicitDefEqProofs only [wt_pair, wt_int, wt_bool, wt_str]); omega)
    try simp -implicitDefEqProofs only [wt_pair, wt_int, wt_bool, wt_str] at u24
    have n24 : decide (k24 < 0) = false := decide_eq_false (by omega)
    refine ⟨k24, (b, (((b + 1).tmod 3 == 0), ((b + 1 + 1, ((b + 1 + 1 + 1, z5), (z6, (z7, (z8, (k8, (k8 + 1, (k8 + 1 + 1, (k8 + 1 + 1 + 1, (k8 + 1 + 1 + 1 + 1, (k8 + 1 + 1 + 1 + 1 + 1, (k8 + 1 + 1 + 1 + 1 + 1 + 1, (k8 + 1 + 1 + 1 + 1 + 1 + 1 + 1, (k8 + 1 + 1 + 1 + 1 + 1 + 1 + 1 + 1, z18)))))))))))))), (k18, (k18 + 1, ((k18 + 1 + 1, z22), (z23, z24))))))), fun n => ?_, trivial, by omega⟩
    · rw [e_L_laws_markDaemonS_1]
      simp only [show ((i : Int) < (a.length : Int)) by omega, decide_true, cond_true, Int.natCast_nonneg, if_true, Int.toNat_natCast, hlt, List.length_set, hy, Option.bind_some, List.getElem?_set_self, List.set_set, eq_self, un_mk, Sum.elim_inl, w1, w2, w3, w4, m5, m6, m7, m8, w9, w10, w11, w12, w13, w14, w15, w16, w17, m18, w19, w20, w21, m22, m23, m24]
      rw [wrap_ok (by omega) (by omega)]
  · trivial
set_option maxHeartbeats 4000000 in
set_option maxRecDepth 100000 in
theorem mk_markLetterS : MkW (.sl true (.pair (.int .i64) (.pair (.int .i64) (.pair (.int .i64) (.pair (.pair (.int .i64) (.pair (.int .i64) (.pair (.int .i64) .str))) (.pair (.pair (.int .i64) (.pair (.int .i64) (.pair (.int .i64) (.pair (.int .i64) (.pair (.int .i64) (.sl true (.int .i64))))))) (.pair (.int .i64) (.pair (.int .i64) (.pair (.int .i64) (.sl true (.pair (.int .i64) (.pair (.int .i64) (.pair (.int .i64) .str))))))))))))) T_laws_markLetterS (fun _ _ _ => True) := by
  refine MkW.mono (mkw_sl (e := .pair (.int .i64) (.pair (.int .i64) (.pair (.int .i64) (.pair (.pair (.int .i64) (.pair (.int .i64) (.pair (.int .i64) .str))) (.pair (.pair (.int .i64) (.pair (.int .i64) (.pair (.int .i64) (.pair (.int .i64) (.pair (.int .i64) (.sl true (.int .i64))))))) (.pair (.int .i64) (.pair (.int .i64) (.pair (.int .i64) (.sl true (.pair (.int .i64) (.pair (.int .i64) (.pair (.int .i64) .str)))))))))))) (L := L_laws_markLetterS_1) (Q := (fun _ _ _ => True)) e_T_laws_markLetterS (fun a b i y hy hs h0 hW hi => ?_) (fun n a b => by rw [e_L_laws_markLetterS_1]; simp)) (fun l k k' hh => ?_)
  · have hlt := (List.getElem?_eq_some_iff.1 hy).1
    obtain ⟨v1, ⟨v2, ⟨v3, ⟨⟨v4, ⟨v5, ⟨v6, v7⟩⟩⟩, ⟨⟨v8, ⟨v9, ⟨v10, ⟨v11, ⟨v12, v13⟩⟩⟩⟩⟩, ⟨v14, ⟨v15, ⟨v16, v17⟩⟩⟩⟩⟩⟩⟩⟩ := y
    obtain ⟨h_v1, ⟨h_v2, ⟨h_v3, ⟨⟨h_v4, ⟨h_v5, ⟨h_v6, h_v7⟩⟩⟩, ⟨⟨h_v8, ⟨h_v9, ⟨h_v10, ⟨h_v11, ⟨h_v12, h_v13⟩⟩⟩⟩⟩, ⟨h_v14, ⟨h_v15, ⟨h_v16, h_v17⟩⟩⟩⟩⟩⟩⟩⟩ := hs
    try simp -implicitDefEqProofs only [wt_pair, wt_int, wt_bool, wt_str] at hW ⊢
    have g_v13 := wt_nn (.sl true (.int .i64)) v13
    have g_v17 := wt_nn (.sl true (.pair (.int .i64) (.pair (.int .i64) (.pair (.int .i64) .str)))) v17
    have w1 : IntKind.i64.wrap (b + 1) = b + 1 := wrap_ok (by omega) (by omega)
    have w2 : IntKind.i64.wrap (b + 1 + 1) = b + 1 + 1 := wrap_ok (by omega) (by omega)
    have w3 : IntKind.i64.wrap (b + 1 + 1 + 1) = b + 1 + 1 + 1 := wrap_ok (by omega) (by omega)
    have w4 : IntKind.i64.wrap (b + 1 + 1 + 1 + 1) = b + 1 + 1 + 1 + 1 := wrap_ok (by omega) (by omega)
    have w5 : IntKind.i64.wrap (b + 1 + 1 + 1 + 1 + 1) = b + 1 + 1 + 1 + 1 + 1 := wrap_ok (by omega) (by omega)
    have w6 : IntKind.i64.wrap (b + 1 + 1 + 1 + 1 + 1 + 1) = b + 1 + 1 + 1 + 1 + 1 + 1 := wrap_ok (by omega) (by omega)
    obtain ⟨s7, t7⟩ := x_markText (b + 1 + 1 + 1 + 1 + 1 + 1) (by omega)
    have w8 : IntKind.i64.wrap (b + 1 + 1 + 1 + 1 + 1 + 1 + 1) = b + 1 + 1 + 1 + 1 + 1 + 1 + 1 := wrap_ok (by omega) (by omega)
    have w9 : IntKind.i64.wrap (b + 1 + 1 + 1 + 1 + 1 + 1 + 1 + 1) = b + 1 + 1 + 1 + 1 + 1 + 1 + 1 + 1 := wrap_ok (by omega) (by omega)
    have w10 : IntKind.i64.wrap (b + 1 + 1 + 1 + 1 + 1 + 1 + 1 + 1 + 1) = b + 1 + 1 + 1 + 1 + 1 + 1 + 1 + 1 + 1 := wrap_ok (by omega) (by omega)
    have w11 : IntKind.i64.wrap (b + 1 + 1 + 1 + 1 + 1 + 1 + 1 + 1 + 1 + 1) = b + 1 + 1 + 1 + 1 + 1 + 1 + 1 + 1 + 1 + 1 := wrap_ok (by omega) (by omega)
    have w12 : IntKind.i64.wrap (b + 1 + 1 + 1 + 1 + 1 + 1 + 1 + 1 + 1 + 1 + 1) = b + 1 + 1 + 1 + 1 + 1 + 1 + 1 + 1 + 1 + 1 + 1 := wrap_ok (by omega) (by omega)
    have w13 : IntKind.i64.wrap (b + 1 + 1 + 1 + 1 + 1 + 1 + 1 + 1 + 1 + 1 + 1 + 1) = b + 1 + 1 + 1 + 1 + 1 + 1 + 1 + 1 + 1 + 1 + 1 + 1 := wrap_ok (by omega) (by omega)
    obtain ⟨k14, z14, m14, q14, u14⟩ := mk_markIntS v13 (b + 1 + 1 + 1 + 1 + 1 + 1 + 1 + 1 + 1 + 1 + 1 + 1) h_v13 (by omega) (by (try simp -implicitDefEqProofs only [wt_pair, wt_int, wt_bool, wt_str]); omega)
    try simp -implicitDefEqProofs only [wt_pair, wt_int, wt_bool, wt_str] at u14
    have n14 : decide (k14 < 0) = false := decide_eq_false (by omega)
    have w15 : IntKind.i64.wrap (k14 + 1) = k14 + 1 := wrap_ok (by omega) (by omega)
    have w16 : IntKind.i64.wrap (k14 + 1 + 1) = k14 + 1 + 1 := wrap_ok (by omega) (by omega)
    have w17 : IntKind.i64.wrap (k14 + 1 + 1 + 1) = k14 + 1 + 1 + 1 := wrap_ok (by omega) (by omega)
    obtain ⟨k18, z18, m18, q18, u18⟩ := mk_markItemS v17 (k14 + 1 + 1 + 1) h_v17 (by omega) (by (try simp -implicitDefEqProofs only [wt_pair, wt_int, wt_bool, wt_str]); omega)
    try simp -implicitDefEqProofs only [wt_pair, wt_int, wt_bool, wt_str] at u18
    have n18 : decide (k18 < 0) = false := decide_eq_false (by omega)
    refine ⟨k18, (b, (b + 1, (b + 1 + 1, ((b + 1 + 1 + 1, (b + 1 + 1 + 1 + 1, (b + 1 + 1 + 1 + 1 + 1, s7))), ((b + 1 + 1 + 1 + 1 + 1 + 1 + 1, (b + 1 + 1 + 1 + 1 + 1 + 1 + 1 + 1, (b + 1 + 1 + 1 + 1 + 1 + 1 + 1 + 1 + 1, (b + 1 + 1 + 1 + 1 + 1 + 1 + 1 + 1 + 1 + 1, (b + 1 + 1 + 1 + 1 + 1 + 1 + 1 + 1 + 1 + 1 + 1, z14))))), (k14, (k14 + 1, (k14 + 1 + 1, z18)))))))), fun n => ?_, trivial, by omega⟩
    · rw [e_L_laws_markLetterS_1]
      simp only [show ((i : Int) < (a.length : Int)) by omega, decide_true, cond_true, Int.natCast_nonneg, if_true, Int.toNat_natCast, hlt, List.length_set, hy, Option.bind_some, List.getElem?_set_self, List.set_set, eq_self, un_mk, Sum.elim_inl, w1, w2, w3, w4, w5, w6, t7, w8, w9, w10, w11, w12, w13, m14, w15, w16, w17, m18]
      rw [wrap_ok (by omega) (by omega)]
  · trivial
set_option maxHeartbeats 4000000 in
set_option maxRecDepth 100000 in
theorem mk_markWorld : MkW (.pair (.sl true (.pair (.int .i64) (.sl true (.int .i64)))) (.pair (.sl true (.pair (.int .i64) (.pair .bool (.pair (.pair (.int .i64) (.pair (.pair (.int .i64) (.sl true (.int .i64))) (.pair (.sl true (.pair (.int .i64) (.pair (.int .i64) (.pair (.int .i64) .str)))) (.pair (.sl true (.int .i64)) (.pair (.sl true .str) (.pair (.int .i64) (.pair (.int .i64) (.pair (.int .i64) (.pair (.int .i64) (.pair (.int .i64) (.pair (.int .i64) (.pair (.int .i64) (.pair (.int .i64) (.pair (.int .i64) (.sl true (.int .i64)))))))))))))))) (.pair (.int .i64) (.pair (.int .i64) (.pair (.pair (.int .i64) (.sl true (.int .i64))) (.pair (.sl true (.pair (.int .i64) (.pair (.int .i64) (.pair (.int .i64) (.sl true (.pair (.int .i64) (.pair (.int .i64) (.pair (.int .i64) .str)))))))) (.sl true (.pair (.int .i64) (.pair (.pair (.int .i64) (.sl true (.int .i64))) (.pair (.pair (.int .i64) (.pair (.int .i64) (.pair (.int .i64) .str))) (.sl true (.int .i64)))))))))))))) (.pair (.sl true (.pair (.int .i64) (.pair (.int .i64) (.pair (.int .i64) (.pair (.pair (.int .i64) (.pair (.int .i64) (.pair (.int .i64) .str))) (.pair (.pair (.int .i64) (.pair (.int .i64) (.pair (.int .i64) (.pair (.int .i64) (.pair (.int .i64) (.sl true (.int .i64))))))) (.pair (.int .i64) (.pair (.int .i64) (.pair (.int .i64) (.sl true (.pair (.int .i64) (.pair (.int .i64) (.pair (.int .i64) .str))))))))))))) (.sl true (.pair (.int .i64) (.pair (.pair (.int .i64) (.sl true (.int .i64))) (.pair (.pair (.int .i64) (.pair (.int .i64) (.pair (.int .i64) .str))) (.sl true (.int .i64))))))))) T_laws_markWorld (fun _ _ _ => True) := by
  rintro ⟨v1, ⟨v2, ⟨v3, v4⟩⟩⟩ b ⟨h_v1, ⟨h_v2, ⟨h_v3, h_v4⟩⟩⟩ h0 hW
  try simp -implicitDefEqProofs only [wt_pair, wt_int, wt_bool, wt_str] at hW ⊢
  have g_v1 := wt_nn (.sl true (.pair (.int .i64) (.sl true (.int .i64)))) v1
  have g_v2 := wt_nn (.sl true (.pair (.int .i64) (.pair .bool (.pair (.pair (.int .i64) (.pair (.pair (.int .i64) (.sl true (.int .i64))) (.pair (.sl true (.pair (.int .i64) (.pair (.int .i64) (.pair (.int .i64) .str)))) (.pair (.sl true (.int .i64)) (.pair (.sl true .str) (.pair (.int .i64) (.pair (.int .i64) (.pair (.int .i64) (.pair (.int .i64) (.pair (.int .i64) (.pair (.int .i64) (.pair (.int .i64) (.pair (.int .i64) (.pair (.int .i64) (.sl true (.int .i64)))))))))))))))) (.pair (.int .i64) (.pair (.int .i64) (.pair (.pair (.int .i64) (.sl true (.int .i64))) (.pair (.sl true (.pair (.int .i64) (.pair (.int .i64) (.pair (.int .i64) (.sl true (.pair (.int .i64) (.pair (.int .i64) (.pair (.int .i64) .str)))))))) (.sl true (.pair (.int .i64) (.pair (.pair (.int .i64) (.sl true (.int .i64))) (.pair (.pair (.int .i64) (.pair (.int .i64) (.pair (.int .i64) .str))) (.sl true (.int .i64)))))))))))))) v2
  have g_v3 := wt_nn (.sl true (.pair (.int .i64) (.pair (.int .i64) (.pair (.int .i64) (.pair (.pair (.int .i64) (.pair (.int .i64) (.pair (.int .i64) .str))) (.pair (.pair (.int .i64) (.pair (.int .i64) (.pair (.int .i64) (.pair (.int .i64) (.pair (.int .i64) (.sl true (.int .i64))))))) (.pair (.int .i64) (.pair (.int .i64) (.pair (.int .i64) (.sl true (.pair (.int .i64) (.pair (.int .i64) (.pair (.int .i64) .str))))))))))))) v3
  have g_v4 := wt_nn (.sl true (.pair (.int .i64) (.pair (.pair (.int .i64) (.sl true (.int .i64))) (.pair (.pair (.int .i64) (.pair (.int .i64) (.pair (.int .i64) .str))) (.sl true (.int .i64)))))) v4
  obtain ⟨k1, z1, m1, q1, u1⟩ := mk_markRingS v1 (b) h_v1 (by omega) (by (try simp -implicitDefEqProofs only [wt_pair, wt_int, wt_bool, wt_str]); omega)
  try simp -implicitDefEqProofs only [wt_pair, wt_int, wt_bool, wt_str] at u1
  have n1 : decide (k1 < 0) = false := decide_eq_false (by omega)
  obtain ⟨k2, z2, m2, q2, u2⟩ := mk_markDaemonS v2 (k1) h_v2 (by omega) (by (try simp -implicitDefEqProofs only [wt_pair, wt_int, wt_bool, wt_str]); omega)
  try simp -implicitDefEqProofs only [wt_pair, wt_int, wt_bool, wt_str] at u2
  have n2 : decide (k2 < 0) = false := decide_eq_false (by omega)
  obtain ⟨k3, z3, m3, q3, u3⟩ := mk_markLetterS v3 (k2) h_v3 (by omega) (by (try simp -implicitDefEqProofs only [wt_pair, wt_int, wt_bool, wt_str]); omega)
  try simp -implicitDefEqProofs only [wt_pair, wt_int, wt_bool, wt_str] at u3
  have n3 : decide (k3 < 0) = false := decide_eq_false (by omega)
  obtain ⟨k4, z4, m4, q4, u4⟩ := mk_markEventS v4 (k3) h_v4 (by omega) (by (try simp -implicitDefEqProofs only [wt_pair, wt_int, wt_bool, wt_str]); omega)
  try simp -implicitDefEqProofs only [wt_pair, wt_int, wt_bool, wt_str] at u4
  have n4 : decide (k4 < 0) = false := decide_eq_false (by omega)
  refine ⟨k4, (z1, (z2, (z3, z4))), ?_, ?_, by omega⟩
  · rw [e_T_laws_markWorld]
    simp only [Option.bind_some, m1, m2, m3, m4]
  · trivial
set_option maxHeartbeats 4000000 in
set_option maxRecDepth 100000 in
theorem mk_markCallerS : MkW (.sl true (.pair (.pair (.int .i64) (.pair .str (.pair (.pair .str .bool) (.pair .bool (.sl true .str))))) (.pair (.pair .str (.pair (.sl true .str) .bool)) (.pair .str (.sl true .str))))) T_laws_markCallerS (fun _ _ _ => True) := by
  refine MkW.mono (mkw_sl (e := .pair (.pair (.int .i64) (.pair .str (.pair (.pair .str .bool) (.pair .bool (.sl true .str))))) (.pair (.pair .str (.pair (.sl true .str) .bool)) (.pair .str (.sl true .str)))) (L := L_laws_markCallerS_1) (Q := (fun _ _ _ => True)) e_T_laws_markCallerS (fun a b i y hy hs h0 hW hi => ?_) (fun n a b => by rw [e_L_laws_markCallerS_1]; simp)) (fun l k k' hh => ?_)
  · have hlt := (List.getElem?_eq_some_iff.1 hy).1
    obtain ⟨⟨v1, ⟨v2, ⟨⟨v3, v4⟩, ⟨v5, v6⟩⟩⟩⟩, ⟨⟨v7, ⟨v8, v9⟩⟩, ⟨v10, v11⟩⟩⟩ := y
    obtain ⟨⟨h_v1, ⟨h_v2, ⟨⟨h_v3, h_v4⟩, ⟨h_v5, h_v6⟩⟩⟩⟩, ⟨⟨h_v7, ⟨h_v8, h_v9⟩⟩, ⟨h_v10, h_v11⟩⟩⟩ := hs
    try simp -implicitDefEqProofs only [wt_pair, wt_int, wt_bool, wt_str] at hW ⊢
    have g_v6 := wt_nn (.sl true .str) v6
    have g_v8 := wt_nn (.sl true .str) v8
    have g_v11 := wt_nn (.sl true .str) v11
    have w1 : IntKind.i64.wrap (b + 1) = b + 1 := wrap_ok (by omega) (by omega)
    obtain ⟨s2, t2⟩ := x_markText (b + 1) (by omega)
    have w3 : IntKind.i64.wrap (b + 1 + 1) = b + 1 + 1 := wrap_ok (by omega) (by omega)
    obtain ⟨s4, t4⟩ := x_markText (b + 1 + 1) (by omega)
    have w5 : IntKind.i64.wrap (b + 1 + 1 + 1) = b + 1 + 1 + 1 := wrap_ok (by omega) (by omega)
    have w6 : IntKind.i64.wrap (b + 1 + 1 + 1 + 1) = b + 1 + 1 + 1 + 1 := wrap_ok (by omega) (by omega)
    have w7 : IntKind.i64.wrap (b + 1 + 1 + 1 + 1 + 1) = b + 1 + 1 + 1 + 1 + 1 := wrap_ok (by omega) (by omega)
    obtain ⟨k8, z8, m8, q8, u8⟩ := mk_markStringS v6 (b + 1 + 1 + 1 + 1 + 1) h_v6 (by omega) (by (try simp -implicitDefEqProofs only [wt_pair, wt_int, wt_bool, wt_str]); omega)
    try simp -implicitDefEqProofs only [wt_pair, wt_int, wt_bool, wt_str] at u8
    have n8 : decide (k8 < 0) = false := decide_eq_false (by omega)
    obtain ⟨s9, t9⟩ := x_markText (k8) (by omega)
    have w10 : IntKind.i64.wrap (k8 + 1) = k8 + 1 := wrap_ok (by omega) (by omega)
    obtain ⟨k11, z11, m11, q11, u11⟩ := mk_markStringS v8 (k8 + 1) h_v8 (by omega) (by (try simp -implicitDefEqProofs only [wt_pair, wt_int, wt_bool, wt_str]); omega)
    try simp -implicitDefEqProofs only [wt_pair, wt_int, wt_bool, wt_str] at u11
    have n11 : decide (k11 < 0) = false := decide_eq_false (by omega)
    have w12 : IntKind.i64.wrap (k11 + 1) = k11 + 1 := wrap_ok (by omega) (by omega)
    obtain ⟨s13, t13⟩ := x_markText (k11 + 1) (by omega)
    have w14 : IntKind.i64.wrap (k11 + 1 + 1) = k11 + 1 + 1 := wrap_ok (by omega) (by omega)
    obtain ⟨k15, z15, m15, q15, u15⟩ := mk_markStringS v11 (k11 + 1 + 1) h_v11 (by omega) (by (try simp -implicitDefEqProofs only [wt_pair, wt_int, wt_bool, wt_str]); omega)
    try simp -implicitDefEqProofs only [wt_pair, wt_int, wt_bool, wt_str] at u15
    have n15 : decide (k15 < 0) = false := decide_eq_false (by omega)
    refine ⟨k15, ((b, (s2, ((s4, ((b + 1 + 1 + 1).tmod 3 == 0)), (((b + 1 + 1 + 1 + 1).tmod 3 == 0), z8)))), ((s9, (z11, ((k11).tmod 3 == 0))), (s13, z15))), fun n => ?_, trivial, by omega⟩
    · rw [e_L_laws_markCallerS_1]
      simp only [show ((i : Int) < (a.length : Int)) by omega, decide_true, cond_true, Int.natCast_nonneg, if_true, Int.toNat_natCast, hlt, List.length_set, hy, Option.bind_some, List.getElem?_set_self, List.set_set, eq_self, un_mk, Sum.elim_inl, w1, t2, w3, t4, w5, w6, w7, m8, t9, w10, m11, w12, t13, w14, m15]
      rw [wrap_ok (by omega) (by omega)]
  · trivial
set_option maxHeartbeats 4000000 in
set_option maxRecDepth 100000 in
theorem mk_markGroupS : MkW (.sl true (.pair .str (.sl true .str))) T_laws_markGroupS (fun _ _ _ => True) := by
  refine MkW.mono (mkw_sl (e := .pair .str (.sl true .str)) (L := L_laws_markGroupS_1) (Q := (fun _ _ _ => True)) e_T_laws_markGroupS (fun a b i y hy hs h0 hW hi => ?_) (fun n a b => by rw [e_L_laws_markGroupS_1]; simp)) (fun l k k' hh => ?_)
  · have hlt := (List.getElem?_eq_some_iff.1 hy).1
    obtain ⟨v1, v2⟩ := y
    obtain ⟨h_v1, h_v2⟩ := hs
    try simp -implicitDefEqProofs only [wt_pair, wt_int, wt_bool, wt_str] at hW ⊢
    have g_v2 := wt_nn (.sl true .str) v2
    obtain ⟨s1, t1⟩ := x_markText (b) (by omega)
    have w2 : IntKind.i64.wrap (b + 1) = b + 1 := wrap_ok (by omega) (by omega)
    obtain ⟨k3, z3, m3, q3, u3⟩ := mk_markStringS v2 (b + 1) h_v2 (by omega) (by (try simp -implicitDefEqProofs only [wt_pair, wt_int, wt_bool, wt_str]); omega)
    try simp -implicitDefEqProofs only [wt_pair, wt_int, wt_bool, wt_str] at u3
    have n3 : decide (k3 < 0) = false := decide_eq_false (by omega)
    refine ⟨k3, (s1, z3), fun n => ?_, trivial, by omega⟩
    · rw [e_L_laws_markGroupS_1]
      simp only [show ((i : Int) < (a.length : Int)) by omega, decide_true, cond_true, Int.natCast_nonneg, if_true, Int.toNat_natCast, hlt, List.length_set, hy, Option.bind_some, List.getElem?_set_self, List.set_set, eq_self, un_mk, Sum.elim_inl, t1, w2, m3]
      rw [wrap_ok (by omega) (by omega)]
  · trivial
set_option maxHeartbeats 4000000 in
set_option maxRecDepth 100000 in
theorem mk_markTableS : MkW (.sl true (.sl true (.pair .str (.sl true .str)))) T_laws_markTableS (fun _ _ _ => True) := by
  refine MkW.mono (mkw_sl (e := .sl true (.pair .str (.sl true .str))) (L := L_laws_markTableS_1) (Q := (fun _ _ _ => True)) e_T_laws_markTableS (fun a b i v1 hy h_v1 h0 hW hi => ?_) (fun n a b => by rw [e_L_laws_markTableS_1]; simp)) (fun l k k' hh => ?_)
  · have hlt := (List.getElem?_eq_some_iff.1 hy).1
    try simp -implicitDefEqProofs only [wt_pair, wt_int, wt_bool, wt_str] at hW ⊢
    have g_v1 := wt_nn (.sl true (.pair .str (.sl true .str))) v1
    obtain ⟨k1, z1, m1, q1, u1⟩ := mk_markGroupS v1 (b) h_v1 (by omega) (by (try simp -implicitDefEqProofs only [wt_pair, wt_int, wt_bool, wt_str]); omega)
    try simp -implicitDefEqProofs only [wt_pair, wt_int, wt_bool, wt_str] at u1
    have n1 : decide (k1 < 0) = false := decide_eq_false (by omega)
    refine ⟨k1, z1, fun n => ?_, trivial, by omega⟩
    · rw [e_L_laws_markTableS_1]
      simp only [show ((i : Int) < (a.length : Int)) by omega, decide_true, cond_true, Int.natCast_nonneg, if_true, Int.toNat_natCast, hlt, List.length_set, hy, Option.bind_some, List.getElem?_set_self, List.set_set, eq_self, un_mk, Sum.elim_inl, m1]
      rw [wrap_ok (by omega) (by omega)]
  · trivial
set_option maxHeartbeats 4000000 in
set_option maxRecDepth 100000 in
theorem mk_markHall : MkW (.pair (.pair (.sl true (.pair (.int .i64) (.sl true (.int .i64)))) (.pair (.sl true (.pair (.int .i64) (.pair .bool (.pair (.pair (.int .i64) (.pair (.pair (.int .i64) (.sl true (.int .i64))) (.pair (.sl true (.pair (.int .i64) (.pair (.int .i64) (.pair (.int .i64) .str)))) (.pair (.sl true (.int .i64)) (.pair (.sl true .str) (.pair (.int .i64) (.pair (.int .i64) (.pair (.int .i64) (.pair (.int .i64) (.pair (.int .i64) (.pair (.int .i64) (.pair (.int .i64) (.pair (.int .i64) (.pair (.int .i64) (.sl true (.int .i64)))))))))))))))) (.pair (.int .i64) (.pair (.int .i64) (.pair (.pair (.int .i64) (.sl true (.int .i64))) (.pair (.sl true (.pair (.int .i64) (.pair (.int .i64) (.pair (.int .i64) (.sl true (.pair (.int .i64) (.pair (.int .i64) (.pair (.int .i64) .str)))))))) (.sl true (.pair (.int .i64) (.pair (.pair (.int .i64) (.sl true (.int .i64))) (.pair (.pair (.int .i64) (.pair (.int .i64) (.pair (.int .i64) .str))) (.sl true (.int .i64)))))))))))))) (.pair (.sl true (.pair (.int .i64) (.pair (.int .i64) (.pair (.int .i64) (.pair (.pair (.int .i64) (.pair (.int .i64) (.pair (.int .i64) .str))) (.pair (.pair (.int .i64) (.pair (.int .i64) (.pair (.int .i64) (.pair (.int .i64) (.pair (.int .i64) (.sl true (.int .i64))))))) (.pair (.int .i64) (.pair (.int .i64) (.pair (.int .i64) (.sl true (.pair (.int .i64) (.pair (.int .i64) (.pair (.int .i64) .str))))))))))))) (.sl true (.pair (.int .i64) (.pair (.pair (.int .i64) (.sl true (.int .i64))) (.pair (.pair (.int .i64) (.pair (.int .i64) (.pair (.int .i64) .str))) (.sl true (.int .i64))))))))) (.pair (.sl true (.pair (.pair (.int .i64) (.pair .str (.pair (.pair .str .bool) (.pair .bool (.sl true .str))))) (.pair (.pair .str (.pair (.sl true .str) .bool)) (.pair .str (.sl true .str))))) (.pair (.sl true (.sl true (.pair .str (.sl true .str)))) (.sl true (.int .i64))))) T_laws_markHall (fun _ _ _ => True) := by
  rintro ⟨⟨v1, ⟨v2, ⟨v3, v4⟩⟩⟩, ⟨v5, ⟨v6, v7⟩⟩⟩ b ⟨⟨h_v1, ⟨h_v2, ⟨h_v3, h_v4⟩⟩⟩, ⟨h_v5, ⟨h_v6, h_v7⟩⟩⟩ h0 hW
  try simp -implicitDefEqProofs only [wt_pair, wt_int, wt_bool, wt_str] at hW ⊢
  have g_v1 := wt_nn (.sl true (.pair (.int .i64) (.sl true (.int .i64)))) v1
  have g_v2 := wt_nn (.sl true (.pair (.int .i64) (.pair .bool (.pair (.pair (.int .i64) (.pair (.pair (.int .i64) (.sl true (.int .i64))) (.pair (.sl true (.pair (.int .i64) (.pair (.int .i64) (.pair (.int .i64) .str)))) (.pair (.sl true (.int .i64)) (.pair (.sl true .str) (.pair (.int .i64) (.pair (.int .i64) (.pair (.int .i64) (.pair (.int .i64) (.pair (.int .i64) (.pair (.int .i64) (.pair (.int .i64) (.pair (.int .i64) (.pair (.int .i64) (.sl true (.int .i64)))))))))))))))) (.pair (.int .i64) (.pair (.int .i64) (.pair (.pair (.int .i64) (.sl true (.int .i64))) (.pair (.sl true (.pair (.int .i64) (.pair (.int .i64) (.pair (.int .i64) (.sl true (.pair (.int .i64) (.pair (.int .i64) (.pair (.int .i64) .str)))))))) (.sl true (.pair (.int .i64) (.pair (.pair (.int .i64) (.sl true (.int .i64))) (.pair (.pair (.int .i64) (.pair (.int .i64) (.pair (.int .i64) .str))) (.sl true (.int .i64)))))))))))))) v2
  have g_v3 := wt_nn (.sl true (.pair (.int .i64) (.pair (.int .i64) (.pair (.int .i64) (.pair (.pair (.int .i64) (.pair (.int .i64) (.pair (.int .i64) .str))) (.pair (.pair (.int .i64) (.pair (.int .i64) (.pair (.int .i64) (.pair (.int .i64) (.pair (.int .i64) (.sl true (.int .i64))))))) (.pair (.int .i64) (.pair (.int .i64) (.pair (.int .i64) (.sl true (.pair (.int .i64) (.pair (.int .i64) (.pair (.int .i64) .str))))))))))))) v3
  have g_v4 := wt_nn (.sl true (.pair (.int .i64) (.pair (.pair (.int .i64) (.sl true (.int .i64))) (.pair (.pair (.int .i64) (.pair (.int .i64) (.pair (.int .i64) .str))) (.sl true (.int .i64)))))) v4
  have g_v5 := wt_nn (.sl true (.pair (.pair (.int .i64) (.pair .str (.pair (.pair .str .bool) (.pair .bool (.sl true .str))))) (.pair (.pair .str (.pair (.sl true .str) .bool)) (.pair .str (.sl true .str))))) v5
  have g_v6 := wt_nn (.sl true (.sl true (.pair .str (.sl true .str)))) v6
  have g_v7 := wt_nn (.sl true (.int .i64)) v7
  obtain ⟨k1, z1, m1, q1, u1⟩ := mk_markWorld (v1, (v2, (v3, v4))) (b) ⟨h_v1, ⟨h_v2, ⟨h_v3, h_v4⟩⟩⟩ (by omega) (by (try simp -implicitDefEqProofs only [wt_pair, wt_int, wt_bool, wt_str]); omega)
  try simp -implicitDefEqProofs only [wt_pair, wt_int, wt_bool, wt_str] at u1
  have n1 : decide (k1 < 0) = false := decide_eq_false (by omega)
  obtain ⟨z1v1, ⟨z1v2, ⟨z1v3, z1v4⟩⟩⟩ := z1
  obtain ⟨k2, z2, m2, q2, u2⟩ := mk_markCallerS v5 (k1) h_v5 (by omega) (by (try simp -implicitDefEqProofs only [wt_pair, wt_int, wt_bool, wt_str]); omega)
  try simp -implicitDefEqProofs only [wt_pair, wt_int, wt_bool, wt_str] at u2
  have n2 : decide (k2 < 0) = false := decide_eq_false (by omega)
  obtain ⟨k3, z3, m3, q3, u3⟩ := mk_markTableS v6 (k2) h_v6 (by omega) (by (try simp -implicitDefEqProofs only [wt_pair, wt_int, wt_bool, wt_str]); omega)
  try simp -implicitDefEqProofs only [wt_pair, wt_int, wt_bool, wt_str] at u3
  have n3 : decide (k3 < 0) = false := decide_eq_false (by omega)
  obtain ⟨k4, z4, m4, q4, u4⟩ := mk_markIntS v7 (k3) h_v7 (by omega) (by (try simp -implicitDefEqProofs only [wt_pair, wt_int, wt_bool, wt_str]); omega)
  try simp -implicitDefEqProofs only [wt_pair, wt_int, wt_bool, wt_str] at u4
  have n4 : decide (k4 < 0) = false := decide_eq_false (by omega)
  refine ⟨k4, ((z1v1, (z1v2, (z1v3, z1v4))), (z2, (z3, z4))), ?_, ?_, by omega⟩
  · rw [e_T_laws_markHall]
    simp only [Option.bind_some, m1, m2, m3, m4]
  · trivial
end Xs
end Go.Proofs.YtkjpdhdmjjepfaaGreat
