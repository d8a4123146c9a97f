/- What the reference's function answers, and the program's: the same. -/
import Derived.Test.YtjeikneboeallaaGreatDoorT10
import Derived.Test.YtjeikneboeallaaGreatDoorXOwnE
namespace Go.Proofs.YtjeikneboeallaaGreatDoor
open Go Vm
set_option linter.unusedVariables false
set_option linter.unusedSimpArgs false
namespace Xs
theorem zm_szIntS : SzOkM (.sl false (.int .i64)) T_laws_szIntS :=
  szm_flat (e := (.int .i64)) (fun _ => by simp [ET.ms]) e_T_laws_szIntS
theorem z_szIntS : SzOk (.sl false (.int .i64)) T_laws_szIntS := zm_szIntS.sz
theorem zm_szRing : SzOkM (.pair (.int .i64) (.sl false (.int .i64))) T_laws_szRing := by
  rintro ⟨a, b⟩ n ⟨h_a, h_b⟩ h0 hn
  show SzM n (fun left_ => ET.ms (.pair (.int .i64) (.sl false (.int .i64))) (a, b) ≤ n - left_) _
  rw [e_T_laws_szRing]
  refine SzM.call zm_szIntS h_b (by omega) (by omega) (by omega) fun r1 p1 q1 s1 => ?_
  refine SzM.fin (by omega) ?_
  try simp -implicitDefEqProofs only [ms_pair, ms_int, ms_bool, ms_str] at s1
  try simp -implicitDefEqProofs only [ms_pair, ms_int, ms_bool, ms_str]
  omega
theorem z_szRing : SzOk (.pair (.int .i64) (.sl false (.int .i64))) T_laws_szRing := zm_szRing.sz
theorem zm_szRingS : SzOkM (.sl false (.pair (.int .i64) (.sl false (.int .i64)))) T_laws_szRingS :=
  szm_sl (e := (.pair (.int .i64) (.sl false (.int .i64)))) (fun y b => T_laws_szRing (y, b)) e_T_laws_szRingS e_L_laws_szRingS_1 zm_szRing
theorem z_szRingS : SzOk (.sl false (.pair (.int .i64) (.sl false (.int .i64)))) T_laws_szRingS := zm_szRingS.sz
theorem zm_szItem : SzOkM (.pair (.int .i64) (.pair (.int .i64) (.pair (.int .i64) .str))) T_laws_szItem := by
  rintro ⟨a, b, c, d⟩ n ⟨h_a, h_b, h_c, h_d⟩ h0 hn
  show SzM n (fun left_ => ET.ms (.pair (.int .i64) (.pair (.int .i64) (.pair (.int .i64) .str))) (a, b, c, d) ≤ n - left_) _
  rw [e_T_laws_szItem]
  refine SzM.str h_d (by omega) (by omega) (by omega) fun p1 w1 => ?_
  try rw [w1]
  refine SzM.fin (by omega) ?_
  try simp -implicitDefEqProofs only [ms_pair, ms_int, ms_bool, ms_str]
  omega
theorem z_szItem : SzOk (.pair (.int .i64) (.pair (.int .i64) (.pair (.int .i64) .str))) T_laws_szItem := zm_szItem.sz
theorem zm_szItemS : SzOkM (.sl false (.pair (.int .i64) (.pair (.int .i64) (.pair (.int .i64) .str)))) T_laws_szItemS :=
  szm_sl (e := (.pair (.int .i64) (.pair (.int .i64) (.pair (.int .i64) .str)))) (fun y b => T_laws_szItem (y, b)) e_T_laws_szItemS e_L_laws_szItemS_1 zm_szItem
theorem z_szItemS : SzOk (.sl false (.pair (.int .i64) (.pair (.int .i64) (.pair (.int .i64) .str)))) T_laws_szItemS := zm_szItemS.sz
theorem zm_szStringS : SzOkM (.sl false .str) T_laws_szStringS :=
  szm_sl (e := .str) (fun y b => some (IntKind.i64.wrap (b - (y.length : Int)))) e_T_laws_szStringS e_L_laws_szStringS_1 szm_str
theorem z_szStringS : SzOk (.sl false .str) T_laws_szStringS := zm_szStringS.sz
theorem zm_szToken : SzOkM (.pair (.int .i64) (.pair (.int .i64) (.pair (.int .i64) (.pair (.int .i64) (.pair (.int .i64) (.sl false (.int .i64))))))) T_laws_szToken := by
  rintro ⟨a, b, c, d, e, f⟩ n ⟨h_a, h_b, h_c, h_d, h_e, h_f⟩ h0 hn
  show SzM n (fun left_ => ET.ms (.pair (.int .i64) (.pair (.int .i64) (.pair (.int .i64) (.pair (.int .i64) (.pair (.int .i64) (.sl false (.int .i64))))))) (a, b, c, d, e, f) ≤ n - left_) _
  rw [e_T_laws_szToken]
  refine SzM.call zm_szIntS h_f (by omega) (by omega) (by omega) fun r1 p1 q1 s1 => ?_
  refine SzM.fin (by omega) ?_
  try simp -implicitDefEqProofs only [ms_pair, ms_int, ms_bool, ms_str] at s1
  try simp -implicitDefEqProofs only [ms_pair, ms_int, ms_bool, ms_str]
  omega
theorem z_szToken : SzOk (.pair (.int .i64) (.pair (.int .i64) (.pair (.int .i64) (.pair (.int .i64) (.pair (.int .i64) (.sl false (.int .i64))))))) T_laws_szToken := zm_szToken.sz
theorem zm_szMate : SzOkM (.pair (.int .i64) (.pair (.pair (.int .i64) (.sl false (.int .i64))) (.pair (.sl false (.pair (.int .i64) (.pair (.int .i64) (.pair (.int .i64) .str)))) (.pair (.sl false (.int .i64)) (.pair (.sl false .str) (.pair (.int .i64) (.pair (.int .i64) (.pair (.int .i64) (.pair (.int .i64) (.pair (.int .i64) (.pair (.int .i64) (.pair (.int .i64) (.pair (.int .i64) (.pair (.int .i64) (.sl false (.int .i64)))))))))))))))) T_laws_szMate := by
  rintro ⟨a, ⟨b, c⟩, d, e, f, g, h, i, j, k, l, m, o, p, q⟩ n ⟨h_a, ⟨h_b, h_c⟩, h_d, h_e, h_f, h_g, h_h, h_i, h_j, h_k, h_l, h_m, h_o, h_p, h_q⟩ h0 hn
  show SzM n (fun left_ => ET.ms (.pair (.int .i64) (.pair (.pair (.int .i64) (.sl false (.int .i64))) (.pair (.sl false (.pair (.int .i64) (.pair (.int .i64) (.pair (.int .i64) .str)))) (.pair (.sl false (.int .i64)) (.pair (.sl false .str) (.pair (.int .i64) (.pair (.int .i64) (.pair (.int .i64) (.pair (.int .i64) (.pair (.int .i64) (.pair (.int .i64) (.pair (.int .i64) (.pair (.int .i64) (.pair (.int .i64) (.sl false (.int .i64)))))))))))))))) (a, (b, c), d, e, f, g, h, i, j, k, l, m, o, p, q) ≤ n - left_) _
  rw [e_T_laws_szMate]
  refine SzM.call zm_szRing ⟨h_b, h_c⟩ (by omega) (by omega) (by omega) fun r1 p1 q1 s1 => ?_
  refine SzM.call zm_szItemS h_d (by omega) (by omega) (by omega) fun r2 p2 q2 s2 => ?_
  refine SzM.call zm_szIntS h_e (by omega) (by omega) (by omega) fun r3 p3 q3 s3 => ?_
  refine SzM.call zm_szStringS h_f (by omega) (by omega) (by omega) fun r4 p4 q4 s4 => ?_
  refine SzM.call zm_szToken ⟨h_k, h_l, h_m, h_o, h_p, h_q⟩ (by omega) (by omega) (by omega) fun r5 p5 q5 s5 => ?_
  refine SzM.fin (by omega) ?_
  try simp -implicitDefEqProofs only [ms_pair, ms_int, ms_bool, ms_str] at s1
  try simp -implicitDefEqProofs only [ms_pair, ms_int, ms_bool, ms_str] at s2
  try simp -implicitDefEqProofs only [ms_pair, ms_int, ms_bool, ms_str] at s3
  try simp -implicitDefEqProofs only [ms_pair, ms_int, ms_bool, ms_str] at s4
  try simp -implicitDefEqProofs only [ms_pair, ms_int, ms_bool, ms_str] at s5
  try simp -implicitDefEqProofs only [ms_pair, ms_int, ms_bool, ms_str]
  omega
theorem z_szMate : SzOk (.pair (.int .i64) (.pair (.pair (.int .i64) (.sl false (.int .i64))) (.pair (.sl false (.pair (.int .i64) (.pair (.int .i64) (.pair (.int .i64) .str)))) (.pair (.sl false (.int .i64)) (.pair (.sl false .str) (.pair (.int .i64) (.pair (.int .i64) (.pair (.int .i64) (.pair (.int .i64) (.pair (.int .i64) (.pair (.int .i64) (.pair (.int .i64) (.pair (.int .i64) (.pair (.int .i64) (.sl false (.int .i64)))))))))))))))) T_laws_szMate := zm_szMate.sz
theorem zm_szBundle : SzOkM (.pair (.int .i64) (.pair (.int .i64) (.pair (.int .i64) (.sl false (.pair (.int .i64) (.pair (.int .i64) (.pair (.int .i64) .str))))))) T_laws_szBundle := by
  rintro ⟨a, b, c, d⟩ n ⟨h_a, h_b, h_c, h_d⟩ h0 hn
  show SzM n (fun left_ => ET.ms (.pair (.int .i64) (.pair (.int .i64) (.pair (.int .i64) (.sl false (.pair (.int .i64) (.pair (.int .i64) (.pair (.int .i64) .str))))))) (a, b, c, d) ≤ n - left_) _
  rw [e_T_laws_szBundle]
  refine SzM.call zm_szItemS h_d (by omega) (by omega) (by omega) fun r1 p1 q1 s1 => ?_
  refine SzM.fin (by omega) ?_
  try simp -implicitDefEqProofs only [ms_pair, ms_int, ms_bool, ms_str] at s1
  try simp -implicitDefEqProofs only [ms_pair, ms_int, ms_bool, ms_str]
  omega
theorem z_szBundle : SzOk (.pair (.int .i64) (.pair (.int .i64) (.pair (.int .i64) (.sl false (.pair (.int .i64) (.pair (.int .i64) (.pair (.int .i64) .str))))))) T_laws_szBundle := zm_szBundle.sz
theorem zm_szBundleS : SzOkM (.sl false (.pair (.int .i64) (.pair (.int .i64) (.pair (.int .i64) (.sl false (.pair (.int .i64) (.pair (.int .i64) (.pair (.int .i64) .str)))))))) T_laws_szBundleS :=
  szm_sl (e := (.pair (.int .i64) (.pair (.int .i64) (.pair (.int .i64) (.sl false (.pair (.int .i64) (.pair (.int .i64) (.pair (.int .i64) .str)))))))) (fun y b => T_laws_szBundle (y, b)) e_T_laws_szBundleS e_L_laws_szBundleS_1 zm_szBundle
theorem z_szBundleS : SzOk (.sl false (.pair (.int .i64) (.pair (.int .i64) (.pair (.int .i64) (.sl false (.pair (.int .i64) (.pair (.int .i64) (.pair (.int .i64) .str)))))))) T_laws_szBundleS := zm_szBundleS.sz
theorem zm_szEvent : SzOkM (.pair (.int .i64) (.pair (.pair (.int .i64) (.sl false (.int .i64))) (.pair (.pair (.int .i64) (.pair (.int .i64) (.pair (.int .i64) .str))) (.sl false (.int .i64))))) T_laws_szEvent := by
  rintro ⟨a, ⟨b, c⟩, ⟨d, e, f, g⟩, h⟩ n ⟨h_a, ⟨h_b, h_c⟩, ⟨h_d, h_e, h_f, h_g⟩, h_h⟩ h0 hn
  show SzM n (fun left_ => ET.ms (.pair (.int .i64) (.pair (.pair (.int .i64) (.sl false (.int .i64))) (.pair (.pair (.int .i64) (.pair (.int .i64) (.pair (.int .i64) .str))) (.sl false (.int .i64))))) (a, (b, c), (d, e, f, g), h) ≤ n - left_) _
  rw [e_T_laws_szEvent]
  refine SzM.call zm_szRing ⟨h_b, h_c⟩ (by omega) (by omega) (by omega) fun r1 p1 q1 s1 => ?_
  refine SzM.call zm_szItem ⟨h_d, h_e, h_f, h_g⟩ (by omega) (by omega) (by omega) fun r2 p2 q2 s2 => ?_
  refine SzM.call zm_szIntS h_h (by omega) (by omega) (by omega) fun r3 p3 q3 s3 => ?_
  refine SzM.fin (by omega) ?_
  try simp -implicitDefEqProofs only [ms_pair, ms_int, ms_bool, ms_str] at s1
  try simp -implicitDefEqProofs only [ms_pair, ms_int, ms_bool, ms_str] at s2
  try simp -implicitDefEqProofs only [ms_pair, ms_int, ms_bool, ms_str] at s3
  try simp -implicitDefEqProofs only [ms_pair, ms_int, ms_bool, ms_str]
  omega
theorem z_szEvent : SzOk (.pair (.int .i64) (.pair (.pair (.int .i64) (.sl false (.int .i64))) (.pair (.pair (.int .i64) (.pair (.int .i64) (.pair (.int .i64) .str))) (.sl false (.int .i64))))) T_laws_szEvent := zm_szEvent.sz
theorem zm_szEventS : SzOkM (.sl false (.pair (.int .i64) (.pair (.pair (.int .i64) (.sl false (.int .i64))) (.pair (.pair (.int .i64) (.pair (.int .i64) (.pair (.int .i64) .str))) (.sl false (.int .i64)))))) T_laws_szEventS :=
  szm_sl (e := (.pair (.int .i64) (.pair (.pair (.int .i64) (.sl false (.int .i64))) (.pair (.pair (.int .i64) (.pair (.int .i64) (.pair (.int .i64) .str))) (.sl false (.int .i64)))))) (fun y b => T_laws_szEvent (y, b)) e_T_laws_szEventS e_L_laws_szEventS_1 zm_szEvent
theorem z_szEventS : SzOk (.sl false (.pair (.int .i64) (.pair (.pair (.int .i64) (.sl false (.int .i64))) (.pair (.pair (.int .i64) (.pair (.int .i64) (.pair (.int .i64) .str))) (.sl false (.int .i64)))))) T_laws_szEventS := zm_szEventS.sz
theorem zm_szDaemon : SzOkM (.pair (.int .i64) (.pair .bool (.pair (.pair (.int .i64) (.pair (.pair (.int .i64) (.sl false (.int .i64))) (.pair (.sl false (.pair (.int .i64) (.pair (.int .i64) (.pair (.int .i64) .str)))) (.pair (.sl false (.int .i64)) (.pair (.sl false .str) (.pair (.int .i64) (.pair (.int .i64) (.pair (.int .i64) (.pair (.int .i64) (.pair (.int .i64) (.pair (.int .i64) (.pair (.int .i64) (.pair (.int .i64) (.pair (.int .i64) (.sl false (.int .i64)))))))))))))))) (.pair (.int .i64) (.pair (.int .i64) (.pair (.pair (.int .i64) (.sl false (.int .i64))) (.pair (.sl false (.pair (.int .i64) (.pair (.int .i64) (.pair (.int .i64) (.sl false (.pair (.int .i64) (.pair (.int .i64) (.pair (.int .i64) .str)))))))) (.sl false (.pair (.int .i64) (.pair (.pair (.int .i64) (.sl false (.int .i64))) (.pair (.pair (.int .i64) (.pair (.int .i64) (.pair (.int .i64) .str))) (.sl false (.int .i64))))))))))))) T_laws_szDaemon := by
  rintro ⟨a, b, ⟨c, ⟨d, e⟩, f, g, h, i, j, k, l, m, o, p, q, r, s⟩, t, u, ⟨v, w⟩, x, y⟩ n ⟨h_a, h_b, ⟨h_c, ⟨h_d, h_e⟩, h_f, h_g, h_h, h_i, h_j, h_k, h_l, h_m, h_o, h_p, h_q, h_r, h_s⟩, h_t, h_u, ⟨h_v, h_w⟩, h_x, h_y⟩ h0 hn
  show SzM n (fun left_ => ET.ms (.pair (.int .i64) (.pair .bool (.pair (.pair (.int .i64) (.pair (.pair (.int .i64) (.sl false (.int .i64))) (.pair (.sl false (.pair (.int .i64) (.pair (.int .i64) (.pair (.int .i64) .str)))) (.pair (.sl false (.int .i64)) (.pair (.sl false .str) (.pair (.int .i64) (.pair (.int .i64) (.pair (.int .i64) (.pair (.int .i64) (.pair (.int .i64) (.pair (.int .i64) (.pair (.int .i64) (.pair (.int .i64) (.pair (.int .i64) (.sl false (.int .i64)))))))))))))))) (.pair (.int .i64) (.pair (.int .i64) (.pair (.pair (.int .i64) (.sl false (.int .i64))) (.pair (.sl false (.pair (.int .i64) (.pair (.int .i64) (.pair (.int .i64) (.sl false (.pair (.int .i64) (.pair (.int .i64) (.pair (.int .i64) .str)))))))) (.sl false (.pair (.int .i64) (.pair (.pair (.int .i64) (.sl false (.int .i64))) (.pair (.pair (.int .i64) (.pair (.int .i64) (.pair (.int .i64) .str))) (.sl false (.int .i64))))))))))))) (a, b, (c, (d, e), f, g, h, i, j, k, l, m, o, p, q, r, s), t, u, (v, w), x, y) ≤ n - left_) _
  rw [e_T_laws_szDaemon]
  refine SzM.call zm_szMate ⟨h_c, ⟨h_d, h_e⟩, h_f, h_g, h_h, h_i, h_j, h_k, h_l, h_m, h_o, h_p, h_q, h_r, h_s⟩ (by omega) (by omega) (by omega) fun r1 p1 q1 s1 => ?_
  refine SzM.call zm_szRing ⟨h_v, h_w⟩ (by omega) (by omega) (by omega) fun r2 p2 q2 s2 => ?_
  refine SzM.call zm_szBundleS h_x (by omega) (by omega) (by omega) fun r3 p3 q3 s3 => ?_
  refine SzM.call zm_szEventS h_y (by omega) (by omega) (by omega) fun r4 p4 q4 s4 => ?_
  refine SzM.fin (by omega) ?_
  try simp -implicitDefEqProofs only [ms_pair, ms_int, ms_bool, ms_str] at s1
  try simp -implicitDefEqProofs only [ms_pair, ms_int, ms_bool, ms_str] at s2
  try simp -implicitDefEqProofs only [ms_pair, ms_int, ms_bool, ms_str] at s3
  try simp -implicitDefEqProofs only [ms_pair, ms_int, ms_bool, ms_str] at s4
  try simp -implicitDefEqProofs only [ms_pair, ms_int, ms_bool, ms_str]
  omega
theorem z_szDaemon : SzOk (.pair (.int .i64) (.pair .bool (.pair (.pair (.int .i64) (.pair (.pair (.int .i64) (.sl false (.int .i64))) (.pair (.sl false (.pair (.int .i64) (.pair (.int .i64) (.pair (.int .i64) .str)))) (.pair (.sl false (.int .i64)) (.pair (.sl false .str) (.pair (.int .i64) (.pair (.int .i64) (.pair (.int .i64) (.pair (.int .i64) (.pair (.int .i64) (.pair (.int .i64) (.pair (.int .i64) (.pair (.int .i64) (.pair (.int .i64) (.sl false (.int .i64)))))))))))))))) (.pair (.int .i64) (.pair (.int .i64) (.pair (.pair (.int .i64) (.sl false (.int .i64))) (.pair (.sl false (.pair (.int .i64) (.pair (.int .i64) (.pair (.int .i64) (.sl false (.pair (.int .i64) (.pair (.int .i64) (.pair (.int .i64) .str)))))))) (.sl false (.pair (.int .i64) (.pair (.pair (.int .i64) (.sl false (.int .i64))) (.pair (.pair (.int .i64) (.pair (.int .i64) (.pair (.int .i64) .str))) (.sl false (.int .i64))))))))))))) T_laws_szDaemon := zm_szDaemon.sz
theorem zm_szDaemonS : SzOkM (.sl false (.pair (.int .i64) (.pair .bool (.pair (.pair (.int .i64) (.pair (.pair (.int .i64) (.sl false (.int .i64))) (.pair (.sl false (.pair (.int .i64) (.pair (.int .i64) (.pair (.int .i64) .str)))) (.pair (.sl false (.int .i64)) (.pair (.sl false .str) (.pair (.int .i64) (.pair (.int .i64) (.pair (.int .i64) (.pair (.int .i64) (.pair (.int .i64) (.pair (.int .i64) (.pair (.int .i64) (.pair (.int .i64) (.pair (.int .i64) (.sl false (.int .i64)))))))))))))))) (.pair (.int .i64) (.pair (.int .i64) (.pair (.pair (.int .i64) (.sl false (.int .i64))) (.pair (.sl false (.pair (.int .i64) (.pair (.int .i64) (.pair (.int .i64) (.sl false (.pair (.int .i64) (.pair (.int .i64) (.pair (.int .i64) .str)))))))) (.sl false (.pair (.int .i64) (.pair (.pair (.int .i64) (.sl false (.int .i64))) (.pair (.pair (.int .i64) (.pair (.int .i64) (.pair (.int .i64) .str))) (.sl false (.int .i64)))))))))))))) T_laws_szDaemonS :=
  szm_sl (e := (.pair (.int .i64) (.pair .bool (.pair (.pair (.int .i64) (.pair (.pair (.int .i64) (.sl false (.int .i64))) (.pair (.sl false (.pair (.int .i64) (.pair (.int .i64) (.pair (.int .i64) .str)))) (.pair (.sl false (.int .i64)) (.pair (.sl false .str) (.pair (.int .i64) (.pair (.int .i64) (.pair (.int .i64) (.pair (.int .i64) (.pair (.int .i64) (.pair (.int .i64) (.pair (.int .i64) (.pair (.int .i64) (.pair (.int .i64) (.sl false (.int .i64)))))))))))))))) (.pair (.int .i64) (.pair (.int .i64) (.pair (.pair (.int .i64) (.sl false (.int .i64))) (.pair (.sl false (.pair (.int .i64) (.pair (.int .i64) (.pair (.int .i64) (.sl false (.pair (.int .i64) (.pair (.int .i64) (.pair (.int .i64) .str)))))))) (.sl false (.pair (.int .i64) (.pair (.pair (.int .i64) (.sl false (.int .i64))) (.pair (.pair (.int .i64) (.pair (.int .i64) (.pair (.int .i64) .str))) (.sl false (.int .i64)))))))))))))) (fun y b => T_laws_szDaemon (y, b)) e_T_laws_szDaemonS e_L_laws_szDaemonS_1 zm_szDaemon
theorem z_szDaemonS : SzOk (.sl false (.pair (.int .i64) (.pair .bool (.pair (.pair (.int .i64) (.pair (.pair (.int .i64) (.sl false (.int .i64))) (.pair (.sl false (.pair (.int .i64) (.pair (.int .i64) (.pair (.int .i64) .str)))) (.pair (.sl false (.int .i64)) (.pair (.sl false .str) (.pair (.int .i64) (.pair (.int .i64) (.pair (.int .i64) (.pair (.int .i64) (.pair (.int .i64) (.pair (.int .i64) (.pair (.int .i64) (.pair (.int .i64) (.pair (.int .i64) (.sl false (.int .i64)))))))))))))))) (.pair (.int .i64) (.pair (.int .i64) (.pair (.pair (.int .i64) (.sl false (.int .i64))) (.pair (.sl false (.pair (.int .i64) (.pair (.int .i64) (.pair (.int .i64) (.sl false (.pair (.int .i64) (.pair (.int .i64) (.pair (.int .i64) .str)))))))) (.sl false (.pair (.int .i64) (.pair (.pair (.int .i64) (.sl false (.int .i64))) (.pair (.pair (.int .i64) (.pair (.int .i64) (.pair (.int .i64) .str))) (.sl false (.int .i64)))))))))))))) T_laws_szDaemonS := zm_szDaemonS.sz
theorem zm_szLetter : SzOkM (.pair (.int .i64) (.pair (.int .i64) (.pair (.int .i64) (.pair (.pair (.int .i64) (.pair (.int .i64) (.pair (.int .i64) .str))) (.pair (.pair (.int .i64) (.pair (.int .i64) (.pair (.int .i64) (.pair (.int .i64) (.pair (.int .i64) (.sl false (.int .i64))))))) (.pair (.int .i64) (.pair (.int .i64) (.pair (.int .i64) (.sl false (.pair (.int .i64) (.pair (.int .i64) (.pair (.int .i64) .str)))))))))))) T_laws_szLetter := by
  rintro ⟨a, b, c, ⟨d, e, f, g⟩, ⟨h, i, j, k, l, m⟩, o, p, q, r⟩ n ⟨h_a, h_b, h_c, ⟨h_d, h_e, h_f, h_g⟩, ⟨h_h, h_i, h_j, h_k, h_l, h_m⟩, h_o, h_p, h_q, h_r⟩ h0 hn
  show SzM n (fun left_ => ET.ms (.pair (.int .i64) (.pair (.int .i64) (.pair (.int .i64) (.pair (.pair (.int .i64) (.pair (.int .i64) (.pair (.int .i64) .str))) (.pair (.pair (.int .i64) (.pair (.int .i64) (.pair (.int .i64) (.pair (.int .i64) (.pair (.int .i64) (.sl false (.int .i64))))))) (.pair (.int .i64) (.pair (.int .i64) (.pair (.int .i64) (.sl false (.pair (.int .i64) (.pair (.int .i64) (.pair (.int .i64) .str)))))))))))) (a, b, c, (d, e, f, g), (h, i, j, k, l, m), o, p, q, r) ≤ n - left_) _
  rw [e_T_laws_szLetter]
  refine SzM.call zm_szItem ⟨h_d, h_e, h_f, h_g⟩ (by omega) (by omega) (by omega) fun r1 p1 q1 s1 => ?_
  refine SzM.call zm_szToken ⟨h_h, h_i, h_j, h_k, h_l, h_m⟩ (by omega) (by omega) (by omega) fun r2 p2 q2 s2 => ?_
  refine SzM.call zm_szBundle ⟨h_o, h_p, h_q, h_r⟩ (by omega) (by omega) (by omega) fun r3 p3 q3 s3 => ?_
  refine SzM.fin (by omega) ?_
  try simp -implicitDefEqProofs only [ms_pair, ms_int, ms_bool, ms_str] at s1
  try simp -implicitDefEqProofs only [ms_pair, ms_int, ms_bool, ms_str] at s2
  try simp -implicitDefEqProofs only [ms_pair, ms_int, ms_bool, ms_str] at s3
  try simp -implicitDefEqProofs only [ms_pair, ms_int, ms_bool, ms_str]
  omega
theorem z_szLetter : SzOk (.pair (.int .i64) (.pair (.int .i64) (.pair (.int .i64) (.pair (.pair (.int .i64) (.pair (.int .i64) (.pair (.int .i64) .str))) (.pair (.pair (.int .i64) (.pair (.int .i64) (.pair (.int .i64) (.pair (.int .i64) (.pair (.int .i64) (.sl false (.int .i64))))))) (.pair (.int .i64) (.pair (.int .i64) (.pair (.int .i64) (.sl false (.pair (.int .i64) (.pair (.int .i64) (.pair (.int .i64) .str)))))))))))) T_laws_szLetter := zm_szLetter.sz
theorem zm_szLetterS : SzOkM (.sl false (.pair (.int .i64) (.pair (.int .i64) (.pair (.int .i64) (.pair (.pair (.int .i64) (.pair (.int .i64) (.pair (.int .i64) .str))) (.pair (.pair (.int .i64) (.pair (.int .i64) (.pair (.int .i64) (.pair (.int .i64) (.pair (.int .i64) (.sl false (.int .i64))))))) (.pair (.int .i64) (.pair (.int .i64) (.pair (.int .i64) (.sl false (.pair (.int .i64) (.pair (.int .i64) (.pair (.int .i64) .str))))))))))))) T_laws_szLetterS :=
  szm_sl (e := (.pair (.int .i64) (.pair (.int .i64) (.pair (.int .i64) (.pair (.pair (.int .i64) (.pair (.int .i64) (.pair (.int .i64) .str))) (.pair (.pair (.int .i64) (.pair (.int .i64) (.pair (.int .i64) (.pair (.int .i64) (.pair (.int .i64) (.sl false (.int .i64))))))) (.pair (.int .i64) (.pair (.int .i64) (.pair (.int .i64) (.sl false (.pair (.int .i64) (.pair (.int .i64) (.pair (.int .i64) .str))))))))))))) (fun y b => T_laws_szLetter (y, b)) e_T_laws_szLetterS e_L_laws_szLetterS_1 zm_szLetter
theorem z_szLetterS : SzOk (.sl false (.pair (.int .i64) (.pair (.int .i64) (.pair (.int .i64) (.pair (.pair (.int .i64) (.pair (.int .i64) (.pair (.int .i64) .str))) (.pair (.pair (.int .i64) (.pair (.int .i64) (.pair (.int .i64) (.pair (.int .i64) (.pair (.int .i64) (.sl false (.int .i64))))))) (.pair (.int .i64) (.pair (.int .i64) (.pair (.int .i64) (.sl false (.pair (.int .i64) (.pair (.int .i64) (.pair (.int .i64) .str))))))))))))) T_laws_szLetterS := zm_szLetterS.sz
theorem zm_szWorld : SzOkM (.pair (.sl false (.pair (.int .i64) (.sl false (.int .i64)))) (.pair (.sl false (.pair (.int .i64) (.pair .bool (.pair (.pair (.int .i64) (.pair (.pair (.int .i64) (.sl false (.int .i64))) (.pair (.sl false (.pair (.int .i64) (.pair (.int .i64) (.pair (.int .i64) .str)))) (.pair (.sl false (.int .i64)) (.pair (.sl false .str) (.pair (.int .i64) (.pair (.int .i64) (.pair (.int .i64) (.pair (.int .i64) (.pair (.int .i64) (.pair (.int .i64) (.pair (.int .i64) (.pair (.int .i64) (.pair (.int .i64) (.sl false (.int .i64)))))))))))))))) (.pair (.int .i64) (.pair (.int .i64) (.pair (.pair (.int .i64) (.sl false (.int .i64))) (.pair (.sl false (.pair (.int .i64) (.pair (.int .i64) (.pair (.int .i64) (.sl false (.pair (.int .i64) (.pair (.int .i64) (.pair (.int .i64) .str)))))))) (.sl false (.pair (.int .i64) (.pair (.pair (.int .i64) (.sl false (.int .i64))) (.pair (.pair (.int .i64) (.pair (.int .i64) (.pair (.int .i64) .str))) (.sl false (.int .i64)))))))))))))) (.pair (.sl false (.pair (.int .i64) (.pair (.int .i64) (.pair (.int .i64) (.pair (.pair (.int .i64) (.pair (.int .i64) (.pair (.int .i64) .str))) (.pair (.pair (.int .i64) (.pair (.int .i64) (.pair (.int .i64) (.pair (.int .i64) (.pair (.int .i64) (.sl false (.int .i64))))))) (.pair (.int .i64) (.pair (.int .i64) (.pair (.int .i64) (.sl false (.pair (.int .i64) (.pair (.int .i64) (.pair (.int .i64) .str))))))))))))) (.sl false (.pair (.int .i64) (.pair (.pair (.int .i64) (.sl false (.int .i64))) (.pair (.pair (.int .i64) (.pair (.int .i64) (.pair (.int .i64) .str))) (.sl false (.int .i64))))))))) T_laws_szWorld := by
  rintro ⟨a, b, c, d⟩ n ⟨h_a, h_b, h_c, h_d⟩ h0 hn
  show SzM n (fun left_ => ET.ms (.pair (.sl false (.pair (.int .i64) (.sl false (.int .i64)))) (.pair (.sl false (.pair (.int .i64) (.pair .bool (.pair (.pair (.int .i64) (.pair (.pair (.int .i64) (.sl false (.int .i64))) (.pair (.sl false (.pair (.int .i64) (.pair (.int .i64) (.pair (.int .i64) .str)))) (.pair (.sl false (.int .i64)) (.pair (.sl false .str) (.pair (.int .i64) (.pair (.int .i64) (.pair (.int .i64) (.pair (.int .i64) (.pair (.int .i64) (.pair (.int .i64) (.pair (.int .i64) (.pair (.int .i64) (.pair (.int .i64) (.sl false (.int .i64)))))))))))))))) (.pair (.int .i64) (.pair (.int .i64) (.pair (.pair (.int .i64) (.sl false (.int .i64))) (.pair (.sl false (.pair (.int .i64) (.pair (.int .i64) (.pair (.int .i64) (.sl false (.pair (.int .i64) (.pair (.int .i64) (.pair (.int .i64) .str)))))))) (.sl false (.pair (.int .i64) (.pair (.pair (.int .i64) (.sl false (.int .i64))) (.pair (.pair (.int .i64) (.pair (.int .i64) (.pair (.int .i64) .str))) (.sl false (.int .i64)))))))))))))) (.pair (.sl false (.pair (.int .i64) (.pair (.int .i64) (.pair (.int .i64) (.pair (.pair (.int .i64) (.pair (.int .i64) (.pair (.int .i64) .str))) (.pair (.pair (.int .i64) (.pair (.int .i64) (.pair (.int .i64) (.pair (.int .i64) (.pair (.int .i64) (.sl false (.int .i64))))))) (.pair (.int .i64) (.pair (.int .i64) (.pair (.int .i64) (.sl false (.pair (.int .i64) (.pair (.int .i64) (.pair (.int .i64) .str))))))))))))) (.sl false (.pair (.int .i64) (.pair (.pair (.int .i64) (.sl false (.int .i64))) (.pair (.pair (.int .i64) (.pair (.int .i64) (.pair (.int .i64) .str))) (.sl false (.int .i64))))))))) (a, b, c, d) ≤ n - left_) _
  rw [e_T_laws_szWorld]
  refine SzM.call zm_szRingS h_a (by omega) (by omega) (by omega) fun r1 p1 q1 s1 => ?_
  refine SzM.call zm_szDaemonS h_b (by omega) (by omega) (by omega) fun r2 p2 q2 s2 => ?_
  refine SzM.call zm_szLetterS h_c (by omega) (by omega) (by omega) fun r3 p3 q3 s3 => ?_
  refine SzM.call zm_szEventS h_d (by omega) (by omega) (by omega) fun r4 p4 q4 s4 => ?_
  refine SzM.fin (by omega) ?_
  try simp -implicitDefEqProofs only [ms_pair, ms_int, ms_bool, ms_str] at s1
  try simp -implicitDefEqProofs only [ms_pair, ms_int, ms_bool, ms_str] at s2
  try simp -implicitDefEqProofs only [ms_pair, ms_int, ms_bool, ms_str] at s3
  try simp -implicitDefEqProofs only [ms_pair, ms_int, ms_bool, ms_str] at s4
  try simp -implicitDefEqProofs only [ms_pair, ms_int, ms_bool, ms_str]
  omega
theorem z_szWorld : SzOk (.pair (.sl false (.pair (.int .i64) (.sl false (.int .i64)))) (.pair (.sl false (.pair (.int .i64) (.pair .bool (.pair (.pair (.int .i64) (.pair (.pair (.int .i64) (.sl false (.int .i64))) (.pair (.sl false (.pair (.int .i64) (.pair (.int .i64) (.pair (.int .i64) .str)))) (.pair (.sl false (.int .i64)) (.pair (.sl false .str) (.pair (.int .i64) (.pair (.int .i64) (.pair (.int .i64) (.pair (.int .i64) (.pair (.int .i64) (.pair (.int .i64) (.pair (.int .i64) (.pair (.int .i64) (.pair (.int .i64) (.sl false (.int .i64)))))))))))))))) (.pair (.int .i64) (.pair (.int .i64) (.pair (.pair (.int .i64) (.sl false (.int .i64))) (.pair (.sl false (.pair (.int .i64) (.pair (.int .i64) (.pair (.int .i64) (.sl false (.pair (.int .i64) (.pair (.int .i64) (.pair (.int .i64) .str)))))))) (.sl false (.pair (.int .i64) (.pair (.pair (.int .i64) (.sl false (.int .i64))) (.pair (.pair (.int .i64) (.pair (.int .i64) (.pair (.int .i64) .str))) (.sl false (.int .i64)))))))))))))) (.pair (.sl false (.pair (.int .i64) (.pair (.int .i64) (.pair (.int .i64) (.pair (.pair (.int .i64) (.pair (.int .i64) (.pair (.int .i64) .str))) (.pair (.pair (.int .i64) (.pair (.int .i64) (.pair (.int .i64) (.pair (.int .i64) (.pair (.int .i64) (.sl false (.int .i64))))))) (.pair (.int .i64) (.pair (.int .i64) (.pair (.int .i64) (.sl false (.pair (.int .i64) (.pair (.int .i64) (.pair (.int .i64) .str))))))))))))) (.sl false (.pair (.int .i64) (.pair (.pair (.int .i64) (.sl false (.int .i64))) (.pair (.pair (.int .i64) (.pair (.int .i64) (.pair (.int .i64) .str))) (.sl false (.int .i64))))))))) T_laws_szWorld := zm_szWorld.sz
theorem zm_szReader : SzOkM (.pair .str .bool) T_laws_szReader := by
  rintro ⟨a, b⟩ n ⟨h_a, h_b⟩ h0 hn
  show SzM n (fun left_ => ET.ms (.pair .str .bool) (a, b) ≤ n - left_) _
  rw [e_T_laws_szReader]
  refine SzM.str h_a (by omega) (by omega) (by omega) fun p1 w1 => ?_
  try rw [w1]
  refine SzM.fin (by omega) ?_
  try simp -implicitDefEqProofs only [ms_pair, ms_int, ms_bool, ms_str]
  omega
theorem z_szReader : SzOk (.pair .str .bool) T_laws_szReader := zm_szReader.sz
theorem zm_szSession : SzOkM (.pair (.int .i64) (.pair .str (.pair (.pair .str .bool) (.pair .bool (.sl false .str))))) T_laws_szSession := by
  rintro ⟨a, b, ⟨c, d⟩, e, f⟩ n ⟨h_a, h_b, ⟨h_c, h_d⟩, h_e, h_f⟩ h0 hn
  show SzM n (fun left_ => ET.ms (.pair (.int .i64) (.pair .str (.pair (.pair .str .bool) (.pair .bool (.sl false .str))))) (a, b, (c, d), e, f) ≤ n - left_) _
  rw [e_T_laws_szSession]
  refine SzM.str h_b (by omega) (by omega) (by omega) fun p1 w1 => ?_
  try rw [w1]
  refine SzM.call zm_szReader ⟨h_c, h_d⟩ (by omega) (by omega) (by omega) fun r2 p2 q2 s2 => ?_
  refine SzM.call zm_szStringS h_f (by omega) (by omega) (by omega) fun r3 p3 q3 s3 => ?_
  refine SzM.fin (by omega) ?_
  try simp -implicitDefEqProofs only [ms_pair, ms_int, ms_bool, ms_str] at s2
  try simp -implicitDefEqProofs only [ms_pair, ms_int, ms_bool, ms_str] at s3
  try simp -implicitDefEqProofs only [ms_pair, ms_int, ms_bool, ms_str]
  omega
theorem z_szSession : SzOk (.pair (.int .i64) (.pair .str (.pair (.pair .str .bool) (.pair .bool (.sl false .str))))) T_laws_szSession := zm_szSession.sz
theorem zm_szBox : SzOkM (.pair .str (.pair (.sl false .str) .bool)) T_laws_szBox := by
  rintro ⟨a, b, c⟩ n ⟨h_a, h_b, h_c⟩ h0 hn
  show SzM n (fun left_ => ET.ms (.pair .str (.pair (.sl false .str) .bool)) (a, b, c) ≤ n - left_) _
  rw [e_T_laws_szBox]
  refine SzM.str h_a (by omega) (by omega) (by omega) fun p1 w1 => ?_
  try rw [w1]
  refine SzM.call zm_szStringS h_b (by omega) (by omega) (by omega) fun r2 p2 q2 s2 => ?_
  refine SzM.fin (by omega) ?_
  try simp -implicitDefEqProofs only [ms_pair, ms_int, ms_bool, ms_str] at s2
  try simp -implicitDefEqProofs only [ms_pair, ms_int, ms_bool, ms_str]
  omega
theorem z_szBox : SzOk (.pair .str (.pair (.sl false .str) .bool)) T_laws_szBox := zm_szBox.sz
theorem zm_szCaller : SzOkM (.pair (.pair (.int .i64) (.pair .str (.pair (.pair .str .bool) (.pair .bool (.sl false .str))))) (.pair (.pair .str (.pair (.sl false .str) .bool)) (.pair .str (.sl false .str)))) T_laws_szCaller := by
  rintro ⟨⟨a, b, ⟨c, d⟩, e, f⟩, ⟨g, h, i⟩, j, k⟩ n ⟨⟨h_a, h_b, ⟨h_c, h_d⟩, h_e, h_f⟩, ⟨h_g, h_h, h_i⟩, h_j, h_k⟩ h0 hn
  show SzM n (fun left_ => ET.ms (.pair (.pair (.int .i64) (.pair .str (.pair (.pair .str .bool) (.pair .bool (.sl false .str))))) (.pair (.pair .str (.pair (.sl false .str) .bool)) (.pair .str (.sl false .str)))) ((a, b, (c, d), e, f), (g, h, i), j, k) ≤ n - left_) _
  rw [e_T_laws_szCaller]
  refine SzM.call zm_szSession ⟨h_a, h_b, ⟨h_c, h_d⟩, h_e, h_f⟩ (by omega) (by omega) (by omega) fun r1 p1 q1 s1 => ?_
  refine SzM.call zm_szBox ⟨h_g, h_h, h_i⟩ (by omega) (by omega) (by omega) fun r2 p2 q2 s2 => ?_
  refine SzM.str h_j (by omega) (by omega) (by omega) fun p3 w3 => ?_
  try rw [w3]
  refine SzM.call zm_szStringS h_k (by omega) (by omega) (by omega) fun r4 p4 q4 s4 => ?_
  refine SzM.fin (by omega) ?_
  try simp -implicitDefEqProofs only [ms_pair, ms_int, ms_bool, ms_str] at s1
  try simp -implicitDefEqProofs only [ms_pair, ms_int, ms_bool, ms_str] at s2
  try simp -implicitDefEqProofs only [ms_pair, ms_int, ms_bool, ms_str] at s4
  try simp -implicitDefEqProofs only [ms_pair, ms_int, ms_bool, ms_str]
  omega
theorem z_szCaller : SzOk (.pair (.pair (.int .i64) (.pair .str (.pair (.pair .str .bool) (.pair .bool (.sl false .str))))) (.pair (.pair .str (.pair (.sl false .str) .bool)) (.pair .str (.sl false .str)))) T_laws_szCaller := zm_szCaller.sz
theorem zm_szCallerS : SzOkM (.sl false (.pair (.pair (.int .i64) (.pair .str (.pair (.pair .str .bool) (.pair .bool (.sl false .str))))) (.pair (.pair .str (.pair (.sl false .str) .bool)) (.pair .str (.sl false .str))))) T_laws_szCallerS :=
  szm_sl (e := (.pair (.pair (.int .i64) (.pair .str (.pair (.pair .str .bool) (.pair .bool (.sl false .str))))) (.pair (.pair .str (.pair (.sl false .str) .bool)) (.pair .str (.sl false .str))))) (fun y b => T_laws_szCaller (y, b)) e_T_laws_szCallerS e_L_laws_szCallerS_1 zm_szCaller
theorem z_szCallerS : SzOk (.sl false (.pair (.pair (.int .i64) (.pair .str (.pair (.pair .str .bool) (.pair .bool (.sl false .str))))) (.pair (.pair .str (.pair (.sl false .str) .bool)) (.pair .str (.sl false .str))))) T_laws_szCallerS := zm_szCallerS.sz
theorem zm_szGroup : SzOkM (.pair .str (.sl false .str)) T_laws_szGroup := by
  rintro ⟨a, b⟩ n ⟨h_a, h_b⟩ h0 hn
  show SzM n (fun left_ => ET.ms (.pair .str (.sl false .str)) (a, b) ≤ n - left_) _
  rw [e_T_laws_szGroup]
  refine SzM.str h_a (by omega) (by omega) (by omega) fun p1 w1 => ?_
  try rw [w1]
  refine SzM.call zm_szStringS h_b (by omega) (by omega) (by omega) fun r2 p2 q2 s2 => ?_
  refine SzM.fin (by omega) ?_
  try simp -implicitDefEqProofs only [ms_pair, ms_int, ms_bool, ms_str] at s2
  try simp -implicitDefEqProofs only [ms_pair, ms_int, ms_bool, ms_str]
  omega
theorem z_szGroup : SzOk (.pair .str (.sl false .str)) T_laws_szGroup := zm_szGroup.sz
theorem zm_szGroupS : SzOkM (.sl false (.pair .str (.sl false .str))) T_laws_szGroupS :=
  szm_sl (e := (.pair .str (.sl false .str))) (fun y b => T_laws_szGroup (y, b)) e_T_laws_szGroupS e_L_laws_szGroupS_1 zm_szGroup
theorem z_szGroupS : SzOk (.sl false (.pair .str (.sl false .str))) T_laws_szGroupS := zm_szGroupS.sz
theorem zm_szTable : SzOkM (.sl false (.pair .str (.sl false .str))) T_laws_szTable := by
  rintro a n h_a h0 hn
  show SzM n (fun left_ => ET.ms (.sl false (.pair .str (.sl false .str))) a ≤ n - left_) _
  rw [e_T_laws_szTable]
  refine SzM.call zm_szGroupS h_a (by omega) (by omega) (by omega) fun r1 p1 q1 s1 => ?_
  refine SzM.fin (by omega) ?_
  try simp -implicitDefEqProofs only [ms_pair, ms_int, ms_bool, ms_str] at s1
  try simp -implicitDefEqProofs only [ms_pair, ms_int, ms_bool, ms_str]
  omega
theorem z_szTable : SzOk (.sl false (.pair .str (.sl false .str))) T_laws_szTable := zm_szTable.sz
theorem zm_szTableS : SzOkM (.sl false (.sl false (.pair .str (.sl false .str)))) T_laws_szTableS :=
  szm_sl (e := (.sl false (.pair .str (.sl false .str)))) (fun y b => T_laws_szTable (y, b)) e_T_laws_szTableS e_L_laws_szTableS_1 zm_szTable
theorem z_szTableS : SzOk (.sl false (.sl false (.pair .str (.sl false .str)))) T_laws_szTableS := zm_szTableS.sz
theorem zm_szHall : SzOkM (.pair (.pair (.sl false (.pair (.int .i64) (.sl false (.int .i64)))) (.pair (.sl false (.pair (.int .i64) (.pair .bool (.pair (.pair (.int .i64) (.pair (.pair (.int .i64) (.sl false (.int .i64))) (.pair (.sl false (.pair (.int .i64) (.pair (.int .i64) (.pair (.int .i64) .str)))) (.pair (.sl false (.int .i64)) (.pair (.sl false .str) (.pair (.int .i64) (.pair (.int .i64) (.pair (.int .i64) (.pair (.int .i64) (.pair (.int .i64) (.pair (.int .i64) (.pair (.int .i64) (.pair (.int .i64) (.pair (.int .i64) (.sl false (.int .i64)))))))))))))))) (.pair (.int .i64) (.pair (.int .i64) (.pair (.pair (.int .i64) (.sl false (.int .i64))) (.pair (.sl false (.pair (.int .i64) (.pair (.int .i64) (.pair (.int .i64) (.sl false (.pair (.int .i64) (.pair (.int .i64) (.pair (.int .i64) .str)))))))) (.sl false (.pair (.int .i64) (.pair (.pair (.int .i64) (.sl false (.int .i64))) (.pair (.pair (.int .i64) (.pair (.int .i64) (.pair (.int .i64) .str))) (.sl false (.int .i64)))))))))))))) (.pair (.sl false (.pair (.int .i64) (.pair (.int .i64) (.pair (.int .i64) (.pair (.pair (.int .i64) (.pair (.int .i64) (.pair (.int .i64) .str))) (.pair (.pair (.int .i64) (.pair (.int .i64) (.pair (.int .i64) (.pair (.int .i64) (.pair (.int .i64) (.sl false (.int .i64))))))) (.pair (.int .i64) (.pair (.int .i64) (.pair (.int .i64) (.sl false (.pair (.int .i64) (.pair (.int .i64) (.pair (.int .i64) .str))))))))))))) (.sl false (.pair (.int .i64) (.pair (.pair (.int .i64) (.sl false (.int .i64))) (.pair (.pair (.int .i64) (.pair (.int .i64) (.pair (.int .i64) .str))) (.sl false (.int .i64))))))))) (.pair (.sl false (.pair (.pair (.int .i64) (.pair .str (.pair (.pair .str .bool) (.pair .bool (.sl false .str))))) (.pair (.pair .str (.pair (.sl false .str) .bool)) (.pair .str (.sl false .str))))) (.pair (.sl false (.sl false (.pair .str (.sl false .str)))) (.sl false (.int .i64))))) T_laws_szHall := by
  rintro ⟨⟨a, b, c, d⟩, e, f, g⟩ n ⟨⟨h_a, h_b, h_c, h_d⟩, h_e, h_f, h_g⟩ h0 hn
  show SzM n (fun left_ => ET.ms (.pair (.pair (.sl false (.pair (.int .i64) (.sl false (.int .i64)))) (.pair (.sl false (.pair (.int .i64) (.pair .bool (.pair (.pair (.int .i64) (.pair (.pair (.int .i64) (.sl false (.int .i64))) (.pair (.sl false (.pair (.int .i64) (.pair (.int .i64) (.pair (.int .i64) .str)))) (.pair (.sl false (.int .i64)) (.pair (.sl false .str) (.pair (.int .i64) (.pair (.int .i64) (.pair (.int .i64) (.pair (.int .i64) (.pair (.int .i64) (.pair (.int .i64) (.pair (.int .i64) (.pair (.int .i64) (.pair (.int .i64) (.sl false (.int .i64)))))))))))))))) (.pair (.int .i64) (.pair (.int .i64) (.pair (.pair (.int .i64) (.sl false (.int .i64))) (.pair (.sl false (.pair (.int .i64) (.pair (.int .i64) (.pair (.int .i64) (.sl false (.pair (.int .i64) (.pair (.int .i64) (.pair (.int .i64) .str)))))))) (.sl false (.pair (.int .i64) (.pair (.pair (.int .i64) (.sl false (.int .i64))) (.pair (.pair (.int .i64) (.pair (.int .i64) (.pair (.int .i64) .str))) (.sl false (.int .i64)))))))))))))) (.pair (.sl false (.pair (.int .i64) (.pair (.int .i64) (.pair (.int .i64) (.pair (.pair (.int .i64) (.pair (.int .i64) (.pair (.int .i64) .str))) (.pair (.pair (.int .i64) (.pair (.int .i64) (.pair (.int .i64) (.pair (.int .i64) (.pair (.int .i64) (.sl false (.int .i64))))))) (.pair (.int .i64) (.pair (.int .i64) (.pair (.int .i64) (.sl false (.pair (.int .i64) (.pair (.int .i64) (.pair (.int .i64) .str))))))))))))) (.sl false (.pair (.int .i64) (.pair (.pair (.int .i64) (.sl false (.int .i64))) (.pair (.pair (.int .i64) (.pair (.int .i64) (.pair (.int .i64) .str))) (.sl false (.int .i64))))))))) (.pair (.sl false (.pair (.pair (.int .i64) (.pair .str (.pair (.pair .str .bool) (.pair .bool (.sl false .str))))) (.pair (.pair .str (.pair (.sl false .str) .bool)) (.pair .str (.sl false .str))))) (.pair (.sl false (.sl false (.pair .str (.sl false .str)))) (.sl false (.int .i64))))) ((a, b, c, d), e, f, g) ≤ n - left_) _
  rw [e_T_laws_szHall]
  refine SzM.call zm_szWorld ⟨h_a, h_b, h_c, h_d⟩ (by omega) (by omega) (by omega) fun r1 p1 q1 s1 => ?_
  refine SzM.call zm_szCallerS h_e (by omega) (by omega) (by omega) fun r2 p2 q2 s2 => ?_
  refine SzM.call zm_szTableS h_f (by omega) (by omega) (by omega) fun r3 p3 q3 s3 => ?_
  refine SzM.call zm_szIntS h_g (by omega) (by omega) (by omega) fun r4 p4 q4 s4 => ?_
  refine SzM.fin (by omega) ?_
  try simp -implicitDefEqProofs only [ms_pair, ms_int, ms_bool, ms_str] at s1
  try simp -implicitDefEqProofs only [ms_pair, ms_int, ms_bool, ms_str] at s2
  try simp -implicitDefEqProofs only [ms_pair, ms_int, ms_bool, ms_str] at s3
  try simp -implicitDefEqProofs only [ms_pair, ms_int, ms_bool, ms_str] at s4
  try simp -implicitDefEqProofs only [ms_pair, ms_int, ms_bool, ms_str]
  omega
theorem z_szHall : SzOk (.pair (.pair (.sl false (.pair (.int .i64) (.sl false (.int .i64)))) (.pair (.sl false (.pair (.int .i64) (.pair .bool (.pair (.pair (.int .i64) (.pair (.pair (.int .i64) (.sl false (.int .i64))) (.pair (.sl false (.pair (.int .i64) (.pair (.int .i64) (.pair (.int .i64) .str)))) (.pair (.sl false (.int .i64)) (.pair (.sl false .str) (.pair (.int .i64) (.pair (.int .i64) (.pair (.int .i64) (.pair (.int .i64) (.pair (.int .i64) (.pair (.int .i64) (.pair (.int .i64) (.pair (.int .i64) (.pair (.int .i64) (.sl false (.int .i64)))))))))))))))) (.pair (.int .i64) (.pair (.int .i64) (.pair (.pair (.int .i64) (.sl false (.int .i64))) (.pair (.sl false (.pair (.int .i64) (.pair (.int .i64) (.pair (.int .i64) (.sl false (.pair (.int .i64) (.pair (.int .i64) (.pair (.int .i64) .str)))))))) (.sl false (.pair (.int .i64) (.pair (.pair (.int .i64) (.sl false (.int .i64))) (.pair (.pair (.int .i64) (.pair (.int .i64) (.pair (.int .i64) .str))) (.sl false (.int .i64)))))))))))))) (.pair (.sl false (.pair (.int .i64) (.pair (.int .i64) (.pair (.int .i64) (.pair (.pair (.int .i64) (.pair (.int .i64) (.pair (.int .i64) .str))) (.pair (.pair (.int .i64) (.pair (.int .i64) (.pair (.int .i64) (.pair (.int .i64) (.pair (.int .i64) (.sl false (.int .i64))))))) (.pair (.int .i64) (.pair (.int .i64) (.pair (.int .i64) (.sl false (.pair (.int .i64) (.pair (.int .i64) (.pair (.int .i64) .str))))))))))))) (.sl false (.pair (.int .i64) (.pair (.pair (.int .i64) (.sl false (.int .i64))) (.pair (.pair (.int .i64) (.pair (.int .i64) (.pair (.int .i64) .str))) (.sl false (.int .i64))))))))) (.pair (.sl false (.pair (.pair (.int .i64) (.pair .str (.pair (.pair .str .bool) (.pair .bool (.sl false .str))))) (.pair (.pair .str (.pair (.sl false .str) .bool)) (.pair .str (.sl false .str))))) (.pair (.sl false (.sl false (.pair .str (.sl false .str)))) (.sl false (.int .i64))))) T_laws_szHall := zm_szHall.sz
theorem c_toIntS {a : (ET.sl false (.int .i64)).den} (h : (ET.sl false (.int .i64)).small a) : T_laws_toIntS a = some a := by
  have h1 : a.length ≤ 1048576 := h.1
  refine to_sl (L := L_laws_toIntS_1) 0 h1 ?_ (fun n b i y hy hi => ?_) (fun n b => ?_)
  · rw [e_T_laws_toIntS, if_pos ⟨by omega, rfl, by omega, by omega⟩]; rfl
  · have hlt := (List.getElem?_eq_some_iff.1 hy).1
    rw [e_L_laws_toIntS_1]
    simp only [show ((i : Int) < (a.length : Int)) by omega, decide_true, cond_true, Int.natCast_nonneg, if_true, Int.toNat_natCast, hy, Option.bind_some, hi, List.getElem?_eq_getElem hi]
    rw [wrap_ok (by omega) (by omega)]
  · rw [e_L_laws_toIntS_1]; simp
theorem c_toRing {x : (ET.pair (.int .i64) (.sl false (.int .i64))).den} (h : (ET.pair (.int .i64) (.sl false (.int .i64))).small x) : T_laws_toRing x = some x := by
  obtain ⟨a, b⟩ := x
  obtain ⟨h_a, h_b⟩ := h
  simp only [e_T_laws_toRing, c_toIntS h_b, Option.bind_some]
theorem c_toRingS {a : (ET.sl false (.pair (.int .i64) (.sl false (.int .i64)))).den} (h : (ET.sl false (.pair (.int .i64) (.sl false (.int .i64)))).small a) : T_laws_toRingS a = some a := by
  have h1 : a.length ≤ 1048576 := h.1
  refine to_sl (L := L_laws_toRingS_1) (0, []) h1 ?_ (fun n b i y hy hi => ?_) (fun n b => ?_)
  · rw [e_T_laws_toRingS, if_pos ⟨by omega, rfl, by omega, by omega⟩]; rfl
  · have hlt := (List.getElem?_eq_some_iff.1 hy).1
    rw [e_L_laws_toRingS_1]
    simp only [show ((i : Int) < (a.length : Int)) by omega, decide_true, cond_true, Int.natCast_nonneg, if_true, Int.toNat_natCast, hy, Option.bind_some, hi, List.getElem?_eq_getElem hi, c_toRing (h.2 y (List.mem_of_getElem? hy))]
    rw [wrap_ok (by omega) (by omega)]
  · rw [e_L_laws_toRingS_1]; simp
theorem c_toItem {x : (ET.pair (.int .i64) (.pair (.int .i64) (.pair (.int .i64) .str))).den} (h : (ET.pair (.int .i64) (.pair (.int .i64) (.pair (.int .i64) .str))).small x) : T_laws_toItem x = some x := by
  obtain ⟨a, b, c, d⟩ := x
  obtain ⟨h_a, h_b, h_c, h_d⟩ := h
  simp only [e_T_laws_toItem, Option.bind_some]
theorem c_toItemS {a : (ET.sl false (.pair (.int .i64) (.pair (.int .i64) (.pair (.int .i64) .str)))).den} (h : (ET.sl false (.pair (.int .i64) (.pair (.int .i64) (.pair (.int .i64) .str)))).small a) : T_laws_toItemS a = some a := by
  have h1 : a.length ≤ 1048576 := h.1
  refine to_sl (L := L_laws_toItemS_1) (0, 0, 0, []) h1 ?_ (fun n b i y hy hi => ?_) (fun n b => ?_)
  · rw [e_T_laws_toItemS, if_pos ⟨by omega, rfl, by omega, by omega⟩]; rfl
  · have hlt := (List.getElem?_eq_some_iff.1 hy).1
    rw [e_L_laws_toItemS_1]
    simp only [show ((i : Int) < (a.length : Int)) by omega, decide_true, cond_true, Int.natCast_nonneg, if_true, Int.toNat_natCast, hy, Option.bind_some, hi, List.getElem?_eq_getElem hi, c_toItem (h.2 y (List.mem_of_getElem? hy))]
    rw [wrap_ok (by omega) (by omega)]
  · rw [e_L_laws_toItemS_1]; simp
theorem c_toStringS {a : (ET.sl false (.str)).den} (h : (ET.sl false (.str)).small a) : T_laws_toStringS a = some a := by
  have h1 : a.length ≤ 1048576 := h.1
  refine to_sl (L := L_laws_toStringS_1) [] h1 ?_ (fun n b i y hy hi => ?_) (fun n b => ?_)
  · rw [e_T_laws_toStringS, if_pos ⟨by omega, rfl, by omega, by omega⟩]; rfl
  · have hlt := (List.getElem?_eq_some_iff.1 hy).1
    rw [e_L_laws_toStringS_1]
    simp only [show ((i : Int) < (a.length : Int)) by omega, decide_true, cond_true, Int.natCast_nonneg, if_true, Int.toNat_natCast, hy, Option.bind_some, hi, List.getElem?_eq_getElem hi]
    rw [wrap_ok (by omega) (by omega)]
  · rw [e_L_laws_toStringS_1]; simp
theorem c_toToken {x : (ET.pair (.int .i64) (.pair (.int .i64) (.pair (.int .i64) (.pair (.int .i64) (.pair (.int .i64) (.sl false (.int .i64))))))).den} (h : (ET.pair (.int .i64) (.pair (.int .i64) (.pair (.int .i64) (.pair (.int .i64) (.pair (.int .i64) (.sl false (.int .i64))))))).small x) : T_laws_toToken x = some x := by
  obtain ⟨a, b, c, d, e, f⟩ := x
  obtain ⟨h_a, h_b, h_c, h_d, h_e, h_f⟩ := h
  simp only [e_T_laws_toToken, c_toIntS h_f, Option.bind_some]
theorem c_toMate {x : (ET.pair (.int .i64) (.pair (.pair (.int .i64) (.sl false (.int .i64))) (.pair (.sl false (.pair (.int .i64) (.pair (.int .i64) (.pair (.int .i64) .str)))) (.pair (.sl false (.int .i64)) (.pair (.sl false .str) (.pair (.int .i64) (.pair (.int .i64) (.pair (.int .i64) (.pair (.int .i64) (.pair (.int .i64) (.pair (.int .i64) (.pair (.int .i64) (.pair (.int .i64) (.pair (.int .i64) (.sl false (.int .i64)))))))))))))))).den} (h : (ET.pair (.int .i64) (.pair (.pair (.int .i64) (.sl false (.int .i64))) (.pair (.sl false (.pair (.int .i64) (.pair (.int .i64) (.pair (.int .i64) .str)))) (.pair (.sl false (.int .i64)) (.pair (.sl false .str) (.pair (.int .i64) (.pair (.int .i64) (.pair (.int .i64) (.pair (.int .i64) (.pair (.int .i64) (.pair (.int .i64) (.pair (.int .i64) (.pair (.int .i64) (.pair (.int .i64) (.sl false (.int .i64)))))))))))))))).small x) : T_laws_toMate x = some x := by
  obtain ⟨a, ⟨b, c⟩, d, e, f, g, h, i, j, k, l, m, o, p, q⟩ := x
  obtain ⟨h_a, ⟨h_b, h_c⟩, h_d, h_e, h_f, h_g, h_h, h_i, h_j, h_k, h_l, h_m, h_o, h_p, h_q⟩ := h
  simp only [e_T_laws_toMate, c_toRing ⟨h_b, h_c⟩, c_toItemS h_d, c_toIntS h_e, c_toStringS h_f, c_toToken ⟨h_k, h_l, h_m, h_o, h_p, h_q⟩, Option.bind_some]
theorem c_toBundle {x : (ET.pair (.int .i64) (.pair (.int .i64) (.pair (.int .i64) (.sl false (.pair (.int .i64) (.pair (.int .i64) (.pair (.int .i64) .str))))))).den} (h : (ET.pair (.int .i64) (.pair (.int .i64) (.pair (.int .i64) (.sl false (.pair (.int .i64) (.pair (.int .i64) (.pair (.int .i64) .str))))))).small x) : T_laws_toBundle x = some x := by
  obtain ⟨a, b, c, d⟩ := x
  obtain ⟨h_a, h_b, h_c, h_d⟩ := h
  simp only [e_T_laws_toBundle, c_toItemS h_d, Option.bind_some]
theorem c_toBundleS {a : (ET.sl false (.pair (.int .i64) (.pair (.int .i64) (.pair (.int .i64) (.sl false (.pair (.int .i64) (.pair (.int .i64) (.pair (.int .i64) .str)))))))).den} (h : (ET.sl false (.pair (.int .i64) (.pair (.int .i64) (.pair (.int .i64) (.sl false (.pair (.int .i64) (.pair (.int .i64) (.pair (.int .i64) .str)))))))).small a) : T_laws_toBundleS a = some a := by
  have h1 : a.length ≤ 1048576 := h.1
  refine to_sl (L := L_laws_toBundleS_1) (0, 0, 0, []) h1 ?_ (fun n b i y hy hi => ?_) (fun n b => ?_)
  · rw [e_T_laws_toBundleS, if_pos ⟨by omega, rfl, by omega, by omega⟩]; rfl
  · have hlt := (List.getElem?_eq_some_iff.1 hy).1
    rw [e_L_laws_toBundleS_1]
    simp only [show ((i : Int) < (a.length : Int)) by omega, decide_true, cond_true, Int.natCast_nonneg, if_true, Int.toNat_natCast, hy, Option.bind_some, hi, List.getElem?_eq_getElem hi, c_toBundle (h.2 y (List.mem_of_getElem? hy))]
    rw [wrap_ok (by omega) (by omega)]
  · rw [e_L_laws_toBundleS_1]; simp
theorem c_toEvent {x : (ET.pair (.int .i64) (.pair (.pair (.int .i64) (.sl false (.int .i64))) (.pair (.pair (.int .i64) (.pair (.int .i64) (.pair (.int .i64) .str))) (.sl false (.int .i64))))).den} (h : (ET.pair (.int .i64) (.pair (.pair (.int .i64) (.sl false (.int .i64))) (.pair (.pair (.int .i64) (.pair (.int .i64) (.pair (.int .i64) .str))) (.sl false (.int .i64))))).small x) : T_laws_toEvent x = some x := by
  obtain ⟨a, ⟨b, c⟩, ⟨d, e, f, g⟩, h⟩ := x
  obtain ⟨h_a, ⟨h_b, h_c⟩, ⟨h_d, h_e, h_f, h_g⟩, h_h⟩ := h
  simp only [e_T_laws_toEvent, c_toRing ⟨h_b, h_c⟩, c_toItem ⟨h_d, h_e, h_f, h_g⟩, c_toIntS h_h, Option.bind_some]
theorem c_toEventS {a : (ET.sl false (.pair (.int .i64) (.pair (.pair (.int .i64) (.sl false (.int .i64))) (.pair (.pair (.int .i64) (.pair (.int .i64) (.pair (.int .i64) .str))) (.sl false (.int .i64)))))).den} (h : (ET.sl false (.pair (.int .i64) (.pair (.pair (.int .i64) (.sl false (.int .i64))) (.pair (.pair (.int .i64) (.pair (.int .i64) (.pair (.int .i64) .str))) (.sl false (.int .i64)))))).small a) : T_laws_toEventS a = some a := by
  have h1 : a.length ≤ 1048576 := h.1
  refine to_sl (L := L_laws_toEventS_1) (0, (0, []), (0, 0, 0, []), []) h1 ?_ (fun n b i y hy hi => ?_) (fun n b => ?_)
  · rw [e_T_laws_toEventS, if_pos ⟨by omega, rfl, by omega, by omega⟩]; rfl
  · have hlt := (List.getElem?_eq_some_iff.1 hy).1
    rw [e_L_laws_toEventS_1]
    simp only [show ((i : Int) < (a.length : Int)) by omega, decide_true, cond_true, Int.natCast_nonneg, if_true, Int.toNat_natCast, hy, Option.bind_some, hi, List.getElem?_eq_getElem hi, c_toEvent (h.2 y (List.mem_of_getElem? hy))]
    rw [wrap_ok (by omega) (by omega)]
  · rw [e_L_laws_toEventS_1]; simp
theorem c_toDaemon {x : (ET.pair (.int .i64) (.pair .bool (.pair (.pair (.int .i64) (.pair (.pair (.int .i64) (.sl false (.int .i64))) (.pair (.sl false (.pair (.int .i64) (.pair (.int .i64) (.pair (.int .i64) .str)))) (.pair (.sl false (.int .i64)) (.pair (.sl false .str) (.pair (.int .i64) (.pair (.int .i64) (.pair (.int .i64) (.pair (.int .i64) (.pair (.int .i64) (.pair (.int .i64) (.pair (.int .i64) (.pair (.int .i64) (.pair (.int .i64) (.sl false (.int .i64)))))))))))))))) (.pair (.int .i64) (.pair (.int .i64) (.pair (.pair (.int .i64) (.sl false (.int .i64))) (.pair (.sl false (.pair (.int .i64) (.pair (.int .i64) (.pair (.int .i64) (.sl false (.pair (.int .i64) (.pair (.int .i64) (.pair (.int .i64) .str)))))))) (.sl false (.pair (.int .i64) (.pair (.pair (.int .i64) (.sl false (.int .i64))) (.pair (.pair (.int .i64) (.pair (.int .i64) (.pair (.int .i64) .str))) (.sl false (.int .i64))))))))))))).den} (h : (ET.pair (.int .i64) (.pair .bool (.pair (.pair (.int .i64) (.pair (.pair (.int .i64) (.sl false (.int .i64))) (.pair (.sl false (.pair (.int .i64) (.pair (.int .i64) (.pair (.int .i64) .str)))) (.pair (.sl false (.int .i64)) (.pair (.sl false .str) (.pair (.int .i64) (.pair (.int .i64) (.pair (.int .i64) (.pair (.int .i64) (.pair (.int .i64) (.pair (.int .i64) (.pair (.int .i64) (.pair (.int .i64) (.pair (.int .i64) (.sl false (.int .i64)))))))))))))))) (.pair (.int .i64) (.pair (.int .i64) (.pair (.pair (.int .i64) (.sl false (.int .i64))) (.pair (.sl false (.pair (.int .i64) (.pair (.int .i64) (.pair (.int .i64) (.sl false (.pair (.int .i64) (.pair (.int .i64) (.pair (.int .i64) .str)))))))) (.sl false (.pair (.int .i64) (.pair (.pair (.int .i64) (.sl false (.int .i64))) (.pair (.pair (.int .i64) (.pair (.int .i64) (.pair (.int .i64) .str))) (.sl false (.int .i64))))))))))))).small x) : T_laws_toDaemon x = some x := by
  obtain ⟨a, b, ⟨c, ⟨d, e⟩, f, g, h, i, j, k, l, m, o, p, q, r, s⟩, t, u, ⟨v, w⟩, x, y⟩ := x
  obtain ⟨h_a, h_b, ⟨h_c, ⟨h_d, h_e⟩, h_f, h_g, h_h, h_i, h_j, h_k, h_l, h_m, h_o, h_p, h_q, h_r, h_s⟩, h_t, h_u, ⟨h_v, h_w⟩, h_x, h_y⟩ := h
  simp only [e_T_laws_toDaemon, c_toMate ⟨h_c, ⟨h_d, h_e⟩, h_f, h_g, h_h, h_i, h_j, h_k, h_l, h_m, h_o, h_p, h_q, h_r, h_s⟩, c_toRing ⟨h_v, h_w⟩, c_toBundleS h_x, c_toEventS h_y, Option.bind_some]
theorem c_toDaemonS {a : (ET.sl false (.pair (.int .i64) (.pair .bool (.pair (.pair (.int .i64) (.pair (.pair (.int .i64) (.sl false (.int .i64))) (.pair (.sl false (.pair (.int .i64) (.pair (.int .i64) (.pair (.int .i64) .str)))) (.pair (.sl false (.int .i64)) (.pair (.sl false .str) (.pair (.int .i64) (.pair (.int .i64) (.pair (.int .i64) (.pair (.int .i64) (.pair (.int .i64) (.pair (.int .i64) (.pair (.int .i64) (.pair (.int .i64) (.pair (.int .i64) (.sl false (.int .i64)))))))))))))))) (.pair (.int .i64) (.pair (.int .i64) (.pair (.pair (.int .i64) (.sl false (.int .i64))) (.pair (.sl false (.pair (.int .i64) (.pair (.int .i64) (.pair (.int .i64) (.sl false (.pair (.int .i64) (.pair (.int .i64) (.pair (.int .i64) .str)))))))) (.sl false (.pair (.int .i64) (.pair (.pair (.int .i64) (.sl false (.int .i64))) (.pair (.pair (.int .i64) (.pair (.int .i64) (.pair (.int .i64) .str))) (.sl false (.int .i64)))))))))))))).den} (h : (ET.sl false (.pair (.int .i64) (.pair .bool (.pair (.pair (.int .i64) (.pair (.pair (.int .i64) (.sl false (.int .i64))) (.pair (.sl false (.pair (.int .i64) (.pair (.int .i64) (.pair (.int .i64) .str)))) (.pair (.sl false (.int .i64)) (.pair (.sl false .str) (.pair (.int .i64) (.pair (.int .i64) (.pair (.int .i64) (.pair (.int .i64) (.pair (.int .i64) (.pair (.int .i64) (.pair (.int .i64) (.pair (.int .i64) (.pair (.int .i64) (.sl false (.int .i64)))))))))))))))) (.pair (.int .i64) (.pair (.int .i64) (.pair (.pair (.int .i64) (.sl false (.int .i64))) (.pair (.sl false (.pair (.int .i64) (.pair (.int .i64) (.pair (.int .i64) (.sl false (.pair (.int .i64) (.pair (.int .i64) (.pair (.int .i64) .str)))))))) (.sl false (.pair (.int .i64) (.pair (.pair (.int .i64) (.sl false (.int .i64))) (.pair (.pair (.int .i64) (.pair (.int .i64) (.pair (.int .i64) .str))) (.sl false (.int .i64)))))))))))))).small a) : T_laws_toDaemonS a = some a := by
  have h1 : a.length ≤ 1048576 := h.1
  refine to_sl (L := L_laws_toDaemonS_1) (0, false, (0, (0, []), [], [], [], 0, 0, 0, 0, 0, 0, 0, 0, 0, []), 0, 0, (0, []), [], []) h1 ?_ (fun n b i y hy hi => ?_) (fun n b => ?_)
  · rw [e_T_laws_toDaemonS, if_pos ⟨by omega, rfl, by omega, by omega⟩]; rfl
  · have hlt := (List.getElem?_eq_some_iff.1 hy).1
    rw [e_L_laws_toDaemonS_1]
    simp only [show ((i : Int) < (a.length : Int)) by omega, decide_true, cond_true, Int.natCast_nonneg, if_true, Int.toNat_natCast, hy, Option.bind_some, hi, List.getElem?_eq_getElem hi, c_toDaemon (h.2 y (List.mem_of_getElem? hy))]
    rw [wrap_ok (by omega) (by omega)]
  · rw [e_L_laws_toDaemonS_1]; simp
theorem c_toLetter {x : (ET.pair (.int .i64) (.pair (.int .i64) (.pair (.int .i64) (.pair (.pair (.int .i64) (.pair (.int .i64) (.pair (.int .i64) .str))) (.pair (.pair (.int .i64) (.pair (.int .i64) (.pair (.int .i64) (.pair (.int .i64) (.pair (.int .i64) (.sl false (.int .i64))))))) (.pair (.int .i64) (.pair (.int .i64) (.pair (.int .i64) (.sl false (.pair (.int .i64) (.pair (.int .i64) (.pair (.int .i64) .str)))))))))))).den} (h : (ET.pair (.int .i64) (.pair (.int .i64) (.pair (.int .i64) (.pair (.pair (.int .i64) (.pair (.int .i64) (.pair (.int .i64) .str))) (.pair (.pair (.int .i64) (.pair (.int .i64) (.pair (.int .i64) (.pair (.int .i64) (.pair (.int .i64) (.sl false (.int .i64))))))) (.pair (.int .i64) (.pair (.int .i64) (.pair (.int .i64) (.sl false (.pair (.int .i64) (.pair (.int .i64) (.pair (.int .i64) .str)))))))))))).small x) : T_laws_toLetter x = some x := by
  obtain ⟨a, b, c, ⟨d, e, f, g⟩, ⟨h, i, j, k, l, m⟩, o, p, q, r⟩ := x
  obtain ⟨h_a, h_b, h_c, ⟨h_d, h_e, h_f, h_g⟩, ⟨h_h, h_i, h_j, h_k, h_l, h_m⟩, h_o, h_p, h_q, h_r⟩ := h
  simp only [e_T_laws_toLetter, c_toItem ⟨h_d, h_e, h_f, h_g⟩, c_toToken ⟨h_h, h_i, h_j, h_k, h_l, h_m⟩, c_toBundle ⟨h_o, h_p, h_q, h_r⟩, Option.bind_some]
theorem c_toLetterS {a : (ET.sl false (.pair (.int .i64) (.pair (.int .i64) (.pair (.int .i64) (.pair (.pair (.int .i64) (.pair (.int .i64) (.pair (.int .i64) .str))) (.pair (.pair (.int .i64) (.pair (.int .i64) (.pair (.int .i64) (.pair (.int .i64) (.pair (.int .i64) (.sl false (.int .i64))))))) (.pair (.int .i64) (.pair (.int .i64) (.pair (.int .i64) (.sl false (.pair (.int .i64) (.pair (.int .i64) (.pair (.int .i64) .str))))))))))))).den} (h : (ET.sl false (.pair (.int .i64) (.pair (.int .i64) (.pair (.int .i64) (.pair (.pair (.int .i64) (.pair (.int .i64) (.pair (.int .i64) .str))) (.pair (.pair (.int .i64) (.pair (.int .i64) (.pair (.int .i64) (.pair (.int .i64) (.pair (.int .i64) (.sl false (.int .i64))))))) (.pair (.int .i64) (.pair (.int .i64) (.pair (.int .i64) (.sl false (.pair (.int .i64) (.pair (.int .i64) (.pair (.int .i64) .str))))))))))))).small a) : T_laws_toLetterS a = some a := by
  have h1 : a.length ≤ 1048576 := h.1
  refine to_sl (L := L_laws_toLetterS_1) (0, 0, 0, (0, 0, 0, []), (0, 0, 0, 0, 0, []), 0, 0, 0, []) h1 ?_ (fun n b i y hy hi => ?_) (fun n b => ?_)
  · rw [e_T_laws_toLetterS, if_pos ⟨by omega, rfl, by omega, by omega⟩]; rfl
  · have hlt := (List.getElem?_eq_some_iff.1 hy).1
    rw [e_L_laws_toLetterS_1]
    simp only [show ((i : Int) < (a.length : Int)) by omega, decide_true, cond_true, Int.natCast_nonneg, if_true, Int.toNat_natCast, hy, Option.bind_some, hi, List.getElem?_eq_getElem hi, c_toLetter (h.2 y (List.mem_of_getElem? hy))]
    rw [wrap_ok (by omega) (by omega)]
  · rw [e_L_laws_toLetterS_1]; simp
theorem c_toWorld {x : (ET.pair (.sl false (.pair (.int .i64) (.sl false (.int .i64)))) (.pair (.sl false (.pair (.int .i64) (.pair .bool (.pair (.pair (.int .i64) (.pair (.pair (.int .i64) (.sl false (.int .i64))) (.pair (.sl false (.pair (.int .i64) (.pair (.int .i64) (.pair (.int .i64) .str)))) (.pair (.sl false (.int .i64)) (.pair (.sl false .str) (.pair (.int .i64) (.pair (.int .i64) (.pair (.int .i64) (.pair (.int .i64) (.pair (.int .i64) (.pair (.int .i64) (.pair (.int .i64) (.pair (.int .i64) (.pair (.int .i64) (.sl false (.int .i64)))))))))))))))) (.pair (.int .i64) (.pair (.int .i64) (.pair (.pair (.int .i64) (.sl false (.int .i64))) (.pair (.sl false (.pair (.int .i64) (.pair (.int .i64) (.pair (.int .i64) (.sl false (.pair (.int .i64) (.pair (.int .i64) (.pair (.int .i64) .str)))))))) (.sl false (.pair (.int .i64) (.pair (.pair (.int .i64) (.sl false (.int .i64))) (.pair (.pair (.int .i64) (.pair (.int .i64) (.pair (.int .i64) .str))) (.sl false (.int .i64)))))))))))))) (.pair (.sl false (.pair (.int .i64) (.pair (.int .i64) (.pair (.int .i64) (.pair (.pair (.int .i64) (.pair (.int .i64) (.pair (.int .i64) .str))) (.pair (.pair (.int .i64) (.pair (.int .i64) (.pair (.int .i64) (.pair (.int .i64) (.pair (.int .i64) (.sl false (.int .i64))))))) (.pair (.int .i64) (.pair (.int .i64) (.pair (.int .i64) (.sl false (.pair (.int .i64) (.pair (.int .i64) (.pair (.int .i64) .str))))))))))))) (.sl false (.pair (.int .i64) (.pair (.pair (.int .i64) (.sl false (.int .i64))) (.pair (.pair (.int .i64) (.pair (.int .i64) (.pair (.int .i64) .str))) (.sl false (.int .i64))))))))).den} (h : (ET.pair (.sl false (.pair (.int .i64) (.sl false (.int .i64)))) (.pair (.sl false (.pair (.int .i64) (.pair .bool (.pair (.pair (.int .i64) (.pair (.pair (.int .i64) (.sl false (.int .i64))) (.pair (.sl false (.pair (.int .i64) (.pair (.int .i64) (.pair (.int .i64) .str)))) (.pair (.sl false (.int .i64)) (.pair (.sl false .str) (.pair (.int .i64) (.pair (.int .i64) (.pair (.int .i64) (.pair (.int .i64) (.pair (.int .i64) (.pair (.int .i64) (.pair (.int .i64) (.pair (.int .i64) (.pair (.int .i64) (.sl false (.int .i64)))))))))))))))) (.pair (.int .i64) (.pair (.int .i64) (.pair (.pair (.int .i64) (.sl false (.int .i64))) (.pair (.sl false (.pair (.int .i64) (.pair (.int .i64) (.pair (.int .i64) (.sl false (.pair (.int .i64) (.pair (.int .i64) (.pair (.int .i64) .str)))))))) (.sl false (.pair (.int .i64) (.pair (.pair (.int .i64) (.sl false (.int .i64))) (.pair (.pair (.int .i64) (.pair (.int .i64) (.pair (.int .i64) .str))) (.sl false (.int .i64)))))))))))))) (.pair (.sl false (.pair (.int .i64) (.pair (.int .i64) (.pair (.int .i64) (.pair (.pair (.int .i64) (.pair (.int .i64) (.pair (.int .i64) .str))) (.pair (.pair (.int .i64) (.pair (.int .i64) (.pair (.int .i64) (.pair (.int .i64) (.pair (.int .i64) (.sl false (.int .i64))))))) (.pair (.int .i64) (.pair (.int .i64) (.pair (.int .i64) (.sl false (.pair (.int .i64) (.pair (.int .i64) (.pair (.int .i64) .str))))))))))))) (.sl false (.pair (.int .i64) (.pair (.pair (.int .i64) (.sl false (.int .i64))) (.pair (.pair (.int .i64) (.pair (.int .i64) (.pair (.int .i64) .str))) (.sl false (.int .i64))))))))).small x) : T_laws_toWorld x = some x := by
  obtain ⟨a, b, c, d⟩ := x
  obtain ⟨h_a, h_b, h_c, h_d⟩ := h
  simp only [e_T_laws_toWorld, c_toRingS h_a, c_toDaemonS h_b, c_toLetterS h_c, c_toEventS h_d, Option.bind_some]
theorem c_toReader {x : (ET.pair .str .bool).den} (h : (ET.pair .str .bool).small x) : T_laws_toReader x = some x := by
  obtain ⟨a, b⟩ := x
  obtain ⟨h_a, h_b⟩ := h
  simp only [e_T_laws_toReader, Option.bind_some]
theorem c_toSession {x : (ET.pair (.int .i64) (.pair .str (.pair (.pair .str .bool) (.pair .bool (.sl false .str))))).den} (h : (ET.pair (.int .i64) (.pair .str (.pair (.pair .str .bool) (.pair .bool (.sl false .str))))).small x) : T_laws_toSession x = some x := by
  obtain ⟨a, b, ⟨c, d⟩, e, f⟩ := x
  obtain ⟨h_a, h_b, ⟨h_c, h_d⟩, h_e, h_f⟩ := h
  simp only [e_T_laws_toSession, c_toReader ⟨h_c, h_d⟩, c_toStringS h_f, Option.bind_some]
theorem c_toBox {x : (ET.pair .str (.pair (.sl false .str) .bool)).den} (h : (ET.pair .str (.pair (.sl false .str) .bool)).small x) : T_laws_toBox x = some x := by
  obtain ⟨a, b, c⟩ := x
  obtain ⟨h_a, h_b, h_c⟩ := h
  simp only [e_T_laws_toBox, c_toStringS h_b, Option.bind_some]
theorem c_toCaller {x : (ET.pair (.pair (.int .i64) (.pair .str (.pair (.pair .str .bool) (.pair .bool (.sl false .str))))) (.pair (.pair .str (.pair (.sl false .str) .bool)) (.pair .str (.sl false .str)))).den} (h : (ET.pair (.pair (.int .i64) (.pair .str (.pair (.pair .str .bool) (.pair .bool (.sl false .str))))) (.pair (.pair .str (.pair (.sl false .str) .bool)) (.pair .str (.sl false .str)))).small x) : T_laws_toCaller x = some x := by
  obtain ⟨⟨a, b, ⟨c, d⟩, e, f⟩, ⟨g, h, i⟩, j, k⟩ := x
  obtain ⟨⟨h_a, h_b, ⟨h_c, h_d⟩, h_e, h_f⟩, ⟨h_g, h_h, h_i⟩, h_j, h_k⟩ := h
  simp only [e_T_laws_toCaller, c_toSession ⟨h_a, h_b, ⟨h_c, h_d⟩, h_e, h_f⟩, c_toBox ⟨h_g, h_h, h_i⟩, c_toStringS h_k, Option.bind_some]
theorem c_toCallerS {a : (ET.sl false (.pair (.pair (.int .i64) (.pair .str (.pair (.pair .str .bool) (.pair .bool (.sl false .str))))) (.pair (.pair .str (.pair (.sl false .str) .bool)) (.pair .str (.sl false .str))))).den} (h : (ET.sl false (.pair (.pair (.int .i64) (.pair .str (.pair (.pair .str .bool) (.pair .bool (.sl false .str))))) (.pair (.pair .str (.pair (.sl false .str) .bool)) (.pair .str (.sl false .str))))).small a) : T_laws_toCallerS a = some a := by
  have h1 : a.length ≤ 1048576 := h.1
  refine to_sl (L := L_laws_toCallerS_1) ((0, [], ([], false), false, []), ([], [], false), [], []) h1 ?_ (fun n b i y hy hi => ?_) (fun n b => ?_)
  · rw [e_T_laws_toCallerS, if_pos ⟨by omega, rfl, by omega, by omega⟩]; rfl
  · have hlt := (List.getElem?_eq_some_iff.1 hy).1
    rw [e_L_laws_toCallerS_1]
    simp only [show ((i : Int) < (a.length : Int)) by omega, decide_true, cond_true, Int.natCast_nonneg, if_true, Int.toNat_natCast, hy, Option.bind_some, hi, List.getElem?_eq_getElem hi, c_toCaller (h.2 y (List.mem_of_getElem? hy))]
    rw [wrap_ok (by omega) (by omega)]
  · rw [e_L_laws_toCallerS_1]; simp
theorem c_toGroup {x : (ET.pair .str (.sl false .str)).den} (h : (ET.pair .str (.sl false .str)).small x) : T_laws_toGroup x = some x := by
  obtain ⟨a, b⟩ := x
  obtain ⟨h_a, h_b⟩ := h
  simp only [e_T_laws_toGroup, c_toStringS h_b, Option.bind_some]
theorem c_toGroupS {a : (ET.sl false (.pair .str (.sl false .str))).den} (h : (ET.sl false (.pair .str (.sl false .str))).small a) : T_laws_toGroupS a = some a := by
  have h1 : a.length ≤ 1048576 := h.1
  refine to_sl (L := L_laws_toGroupS_1) ([], []) h1 ?_ (fun n b i y hy hi => ?_) (fun n b => ?_)
  · rw [e_T_laws_toGroupS, if_pos ⟨by omega, rfl, by omega, by omega⟩]; rfl
  · have hlt := (List.getElem?_eq_some_iff.1 hy).1
    rw [e_L_laws_toGroupS_1]
    simp only [show ((i : Int) < (a.length : Int)) by omega, decide_true, cond_true, Int.natCast_nonneg, if_true, Int.toNat_natCast, hy, Option.bind_some, hi, List.getElem?_eq_getElem hi, c_toGroup (h.2 y (List.mem_of_getElem? hy))]
    rw [wrap_ok (by omega) (by omega)]
  · rw [e_L_laws_toGroupS_1]; simp
theorem c_toTable {a : (ET.sl false (.pair .str (.sl false .str))).den} (h_a : (ET.sl false (.pair .str (.sl false .str))).small a) : T_laws_toTable a = some a := by
  simp only [e_T_laws_toTable, c_toGroupS h_a, Option.bind_some]
theorem c_toTableS {a : (ET.sl false (.sl false (.pair .str (.sl false .str)))).den} (h : (ET.sl false (.sl false (.pair .str (.sl false .str)))).small a) : T_laws_toTableS a = some a := by
  have h1 : a.length ≤ 1048576 := h.1
  refine to_sl (L := L_laws_toTableS_1) [] h1 ?_ (fun n b i y hy hi => ?_) (fun n b => ?_)
  · rw [e_T_laws_toTableS, if_pos ⟨by omega, rfl, by omega, by omega⟩]; rfl
  · have hlt := (List.getElem?_eq_some_iff.1 hy).1
    rw [e_L_laws_toTableS_1]
    simp only [show ((i : Int) < (a.length : Int)) by omega, decide_true, cond_true, Int.natCast_nonneg, if_true, Int.toNat_natCast, hy, Option.bind_some, hi, List.getElem?_eq_getElem hi, c_toTable (h.2 y (List.mem_of_getElem? hy))]
    rw [wrap_ok (by omega) (by omega)]
  · rw [e_L_laws_toTableS_1]; simp
theorem c_toHall {x : (ET.pair (.pair (.sl false (.pair (.int .i64) (.sl false (.int .i64)))) (.pair (.sl false (.pair (.int .i64) (.pair .bool (.pair (.pair (.int .i64) (.pair (.pair (.int .i64) (.sl false (.int .i64))) (.pair (.sl false (.pair (.int .i64) (.pair (.int .i64) (.pair (.int .i64) .str)))) (.pair (.sl false (.int .i64)) (.pair (.sl false .str) (.pair (.int .i64) (.pair (.int .i64) (.pair (.int .i64) (.pair (.int .i64) (.pair (.int .i64) (.pair (.int .i64) (.pair (.int .i64) (.pair (.int .i64) (.pair (.int .i64) (.sl false (.int .i64)))))))))))))))) (.pair (.int .i64) (.pair (.int .i64) (.pair (.pair (.int .i64) (.sl false (.int .i64))) (.pair (.sl false (.pair (.int .i64) (.pair (.int .i64) (.pair (.int .i64) (.sl false (.pair (.int .i64) (.pair (.int .i64) (.pair (.int .i64) .str)))))))) (.sl false (.pair (.int .i64) (.pair (.pair (.int .i64) (.sl false (.int .i64))) (.pair (.pair (.int .i64) (.pair (.int .i64) (.pair (.int .i64) .str))) (.sl false (.int .i64)))))))))))))) (.pair (.sl false (.pair (.int .i64) (.pair (.int .i64) (.pair (.int .i64) (.pair (.pair (.int .i64) (.pair (.int .i64) (.pair (.int .i64) .str))) (.pair (.pair (.int .i64) (.pair (.int .i64) (.pair (.int .i64) (.pair (.int .i64) (.pair (.int .i64) (.sl false (.int .i64))))))) (.pair (.int .i64) (.pair (.int .i64) (.pair (.int .i64) (.sl false (.pair (.int .i64) (.pair (.int .i64) (.pair (.int .i64) .str))))))))))))) (.sl false (.pair (.int .i64) (.pair (.pair (.int .i64) (.sl false (.int .i64))) (.pair (.pair (.int .i64) (.pair (.int .i64) (.pair (.int .i64) .str))) (.sl false (.int .i64))))))))) (.pair (.sl false (.pair (.pair (.int .i64) (.pair .str (.pair (.pair .str .bool) (.pair .bool (.sl false .str))))) (.pair (.pair .str (.pair (.sl false .str) .bool)) (.pair .str (.sl false .str))))) (.pair (.sl false (.sl false (.pair .str (.sl false .str)))) (.sl false (.int .i64))))).den} (h : (ET.pair (.pair (.sl false (.pair (.int .i64) (.sl false (.int .i64)))) (.pair (.sl false (.pair (.int .i64) (.pair .bool (.pair (.pair (.int .i64) (.pair (.pair (.int .i64) (.sl false (.int .i64))) (.pair (.sl false (.pair (.int .i64) (.pair (.int .i64) (.pair (.int .i64) .str)))) (.pair (.sl false (.int .i64)) (.pair (.sl false .str) (.pair (.int .i64) (.pair (.int .i64) (.pair (.int .i64) (.pair (.int .i64) (.pair (.int .i64) (.pair (.int .i64) (.pair (.int .i64) (.pair (.int .i64) (.pair (.int .i64) (.sl false (.int .i64)))))))))))))))) (.pair (.int .i64) (.pair (.int .i64) (.pair (.pair (.int .i64) (.sl false (.int .i64))) (.pair (.sl false (.pair (.int .i64) (.pair (.int .i64) (.pair (.int .i64) (.sl false (.pair (.int .i64) (.pair (.int .i64) (.pair (.int .i64) .str)))))))) (.sl false (.pair (.int .i64) (.pair (.pair (.int .i64) (.sl false (.int .i64))) (.pair (.pair (.int .i64) (.pair (.int .i64) (.pair (.int .i64) .str))) (.sl false (.int .i64)))))))))))))) (.pair (.sl false (.pair (.int .i64) (.pair (.int .i64) (.pair (.int .i64) (.pair (.pair (.int .i64) (.pair (.int .i64) (.pair (.int .i64) .str))) (.pair (.pair (.int .i64) (.pair (.int .i64) (.pair (.int .i64) (.pair (.int .i64) (.pair (.int .i64) (.sl false (.int .i64))))))) (.pair (.int .i64) (.pair (.int .i64) (.pair (.int .i64) (.sl false (.pair (.int .i64) (.pair (.int .i64) (.pair (.int .i64) .str))))))))))))) (.sl false (.pair (.int .i64) (.pair (.pair (.int .i64) (.sl false (.int .i64))) (.pair (.pair (.int .i64) (.pair (.int .i64) (.pair (.int .i64) .str))) (.sl false (.int .i64))))))))) (.pair (.sl false (.pair (.pair (.int .i64) (.pair .str (.pair (.pair .str .bool) (.pair .bool (.sl false .str))))) (.pair (.pair .str (.pair (.sl false .str) .bool)) (.pair .str (.sl false .str))))) (.pair (.sl false (.sl false (.pair .str (.sl false .str)))) (.sl false (.int .i64))))).small x) : T_laws_toHall x = some x := by
  obtain ⟨⟨a, b, c, d⟩, e, f, g⟩ := x
  obtain ⟨⟨h_a, h_b, h_c, h_d⟩, h_e, h_f, h_g⟩ := h
  simp only [e_T_laws_toHall, c_toWorld ⟨h_a, h_b, h_c, h_d⟩, c_toCallerS h_e, c_toTableS h_f, c_toIntS h_g, Option.bind_some]
theorem q_eqIntS {a : (ET.sl false (.int .i64)).den} (h : (ET.sl false (.int .i64)).small a) : T_laws_eqIntS (a, a) = some true := by
  have h1 : a.length ≤ 1048576 := h.1
  rw [e_T_laws_eqIntS, eq_sl (L := L_laws_eqIntS_1) (Nat.le_trans h1 (by decide)) (fun n i y hy => ?_) (fun n => ?_)]
  · simp
  · have hlt := (List.getElem?_eq_some_iff.1 hy).1
    rw [e_L_laws_eqIntS_1]
    simp only [show ((i : Int) < (a.length : Int)) by omega, decide_true, cond_true, Int.natCast_nonneg, if_true, Int.toNat_natCast, hy, Option.bind_some, beq_self_eq_true, Bool.not_true, cond_false]
    rw [wrap_ok (by omega) (by omega)]
  · rw [e_L_laws_eqIntS_1]; simp
theorem q_eqRing {x : (ET.pair (.int .i64) (.sl false (.int .i64))).den} (h : (ET.pair (.int .i64) (.sl false (.int .i64))).small x) : T_laws_eqRing (x, x) = some true := by
  obtain ⟨a, b⟩ := x
  obtain ⟨h_a, h_b⟩ := h
  simp only [e_T_laws_eqRing, q_eqIntS h_b, Option.bind_some, beq_self_eq_true, Bool.not_true, cond_false]
theorem q_eqRingS {a : (ET.sl false (.pair (.int .i64) (.sl false (.int .i64)))).den} (h : (ET.sl false (.pair (.int .i64) (.sl false (.int .i64)))).small a) : T_laws_eqRingS (a, a) = some true := by
  have h1 : a.length ≤ 1048576 := h.1
  rw [e_T_laws_eqRingS, eq_sl (L := L_laws_eqRingS_1) (Nat.le_trans h1 (by decide)) (fun n i y hy => ?_) (fun n => ?_)]
  · simp
  · have hlt := (List.getElem?_eq_some_iff.1 hy).1
    rw [e_L_laws_eqRingS_1]
    simp only [show ((i : Int) < (a.length : Int)) by omega, decide_true, cond_true, Int.natCast_nonneg, if_true, Int.toNat_natCast, hy, Option.bind_some, beq_self_eq_true, Bool.not_true, cond_false, q_eqRing (h.2 y (List.mem_of_getElem? hy))]
    rw [wrap_ok (by omega) (by omega)]
  · rw [e_L_laws_eqRingS_1]; simp
theorem q_eqItem {x : (ET.pair (.int .i64) (.pair (.int .i64) (.pair (.int .i64) .str))).den} (h : (ET.pair (.int .i64) (.pair (.int .i64) (.pair (.int .i64) .str))).small x) : T_laws_eqItem (x, x) = some true := by
  obtain ⟨a, b, c, d⟩ := x
  obtain ⟨h_a, h_b, h_c, h_d⟩ := h
  simp only [e_T_laws_eqItem, Option.bind_some, beq_self_eq_true, Bool.not_true, cond_false]
theorem q_eqItemS {a : (ET.sl false (.pair (.int .i64) (.pair (.int .i64) (.pair (.int .i64) .str)))).den} (h : (ET.sl false (.pair (.int .i64) (.pair (.int .i64) (.pair (.int .i64) .str)))).small a) : T_laws_eqItemS (a, a) = some true := by
  have h1 : a.length ≤ 1048576 := h.1
  rw [e_T_laws_eqItemS, eq_sl (L := L_laws_eqItemS_1) (Nat.le_trans h1 (by decide)) (fun n i y hy => ?_) (fun n => ?_)]
  · simp
  · have hlt := (List.getElem?_eq_some_iff.1 hy).1
    rw [e_L_laws_eqItemS_1]
    simp only [show ((i : Int) < (a.length : Int)) by omega, decide_true, cond_true, Int.natCast_nonneg, if_true, Int.toNat_natCast, hy, Option.bind_some, beq_self_eq_true, Bool.not_true, cond_false, q_eqItem (h.2 y (List.mem_of_getElem? hy))]
    rw [wrap_ok (by omega) (by omega)]
  · rw [e_L_laws_eqItemS_1]; simp
theorem q_eqStringS {a : (ET.sl false (.str)).den} (h : (ET.sl false (.str)).small a) : T_laws_eqStringS (a, a) = some true := by
  have h1 : a.length ≤ 1048576 := h.1
  rw [e_T_laws_eqStringS, eq_sl (L := L_laws_eqStringS_1) (Nat.le_trans h1 (by decide)) (fun n i y hy => ?_) (fun n => ?_)]
  · simp
  · have hlt := (List.getElem?_eq_some_iff.1 hy).1
    rw [e_L_laws_eqStringS_1]
    simp only [show ((i : Int) < (a.length : Int)) by omega, decide_true, cond_true, Int.natCast_nonneg, if_true, Int.toNat_natCast, hy, Option.bind_some, beq_self_eq_true, Bool.not_true, cond_false]
    rw [wrap_ok (by omega) (by omega)]
  · rw [e_L_laws_eqStringS_1]; simp
theorem q_eqToken {x : (ET.pair (.int .i64) (.pair (.int .i64) (.pair (.int .i64) (.pair (.int .i64) (.pair (.int .i64) (.sl false (.int .i64))))))).den} (h : (ET.pair (.int .i64) (.pair (.int .i64) (.pair (.int .i64) (.pair (.int .i64) (.pair (.int .i64) (.sl false (.int .i64))))))).small x) : T_laws_eqToken (x, x) = some true := by
  obtain ⟨a, b, c, d, e, f⟩ := x
  obtain ⟨h_a, h_b, h_c, h_d, h_e, h_f⟩ := h
  simp only [e_T_laws_eqToken, q_eqIntS h_f, Option.bind_some, beq_self_eq_true, Bool.not_true, cond_false]
theorem q_eqMate {x : (ET.pair (.int .i64) (.pair (.pair (.int .i64) (.sl false (.int .i64))) (.pair (.sl false (.pair (.int .i64) (.pair (.int .i64) (.pair (.int .i64) .str)))) (.pair (.sl false (.int .i64)) (.pair (.sl false .str) (.pair (.int .i64) (.pair (.int .i64) (.pair (.int .i64) (.pair (.int .i64) (.pair (.int .i64) (.pair (.int .i64) (.pair (.int .i64) (.pair (.int .i64) (.pair (.int .i64) (.sl false (.int .i64)))))))))))))))).den} (h : (ET.pair (.int .i64) (.pair (.pair (.int .i64) (.sl false (.int .i64))) (.pair (.sl false (.pair (.int .i64) (.pair (.int .i64) (.pair (.int .i64) .str)))) (.pair (.sl false (.int .i64)) (.pair (.sl false .str) (.pair (.int .i64) (.pair (.int .i64) (.pair (.int .i64) (.pair (.int .i64) (.pair (.int .i64) (.pair (.int .i64) (.pair (.int .i64) (.pair (.int .i64) (.pair (.int .i64) (.sl false (.int .i64)))))))))))))))).small x) : T_laws_eqMate (x, x) = some true := by
  obtain ⟨a, ⟨b, c⟩, d, e, f, g, h, i, j, k, l, m, o, p, q⟩ := x
  obtain ⟨h_a, ⟨h_b, h_c⟩, h_d, h_e, h_f, h_g, h_h, h_i, h_j, h_k, h_l, h_m, h_o, h_p, h_q⟩ := h
  simp only [e_T_laws_eqMate, q_eqRing ⟨h_b, h_c⟩, q_eqItemS h_d, q_eqIntS h_e, q_eqStringS h_f, q_eqToken ⟨h_k, h_l, h_m, h_o, h_p, h_q⟩, Option.bind_some, beq_self_eq_true, Bool.not_true, cond_false]
theorem q_eqBundle {x : (ET.pair (.int .i64) (.pair (.int .i64) (.pair (.int .i64) (.sl false (.pair (.int .i64) (.pair (.int .i64) (.pair (.int .i64) .str))))))).den} (h : (ET.pair (.int .i64) (.pair (.int .i64) (.pair (.int .i64) (.sl false (.pair (.int .i64) (.pair (.int .i64) (.pair (.int .i64) .str))))))).small x) : T_laws_eqBundle (x, x) = some true := by
  obtain ⟨a, b, c, d⟩ := x
  obtain ⟨h_a, h_b, h_c, h_d⟩ := h
  simp only [e_T_laws_eqBundle, q_eqItemS h_d, Option.bind_some, beq_self_eq_true, Bool.not_true, cond_false]
theorem q_eqBundleS {a : (ET.sl false (.pair (.int .i64) (.pair (.int .i64) (.pair (.int .i64) (.sl false (.pair (.int .i64) (.pair (.int .i64) (.pair (.int .i64) .str)))))))).den} (h : (ET.sl false (.pair (.int .i64) (.pair (.int .i64) (.pair (.int .i64) (.sl false (.pair (.int .i64) (.pair (.int .i64) (.pair (.int .i64) .str)))))))).small a) : T_laws_eqBundleS (a, a) = some true := by
  have h1 : a.length ≤ 1048576 := h.1
  rw [e_T_laws_eqBundleS, eq_sl (L := L_laws_eqBundleS_1) (Nat.le_trans h1 (by decide)) (fun n i y hy => ?_) (fun n => ?_)]
  · simp
  · have hlt := (List.getElem?_eq_some_iff.1 hy).1
    rw [e_L_laws_eqBundleS_1]
    simp only [show ((i : Int) < (a.length : Int)) by omega, decide_true, cond_true, Int.natCast_nonneg, if_true, Int.toNat_natCast, hy, Option.bind_some, beq_self_eq_true, Bool.not_true, cond_false, q_eqBundle (h.2 y (List.mem_of_getElem? hy))]
    rw [wrap_ok (by omega) (by omega)]
  · rw [e_L_laws_eqBundleS_1]; simp
theorem q_eqEvent {x : (ET.pair (.int .i64) (.pair (.pair (.int .i64) (.sl false (.int .i64))) (.pair (.pair (.int .i64) (.pair (.int .i64) (.pair (.int .i64) .str))) (.sl false (.int .i64))))).den} (h : (ET.pair (.int .i64) (.pair (.pair (.int .i64) (.sl false (.int .i64))) (.pair (.pair (.int .i64) (.pair (.int .i64) (.pair (.int .i64) .str))) (.sl false (.int .i64))))).small x) : T_laws_eqEvent (x, x) = some true := by
  obtain ⟨a, ⟨b, c⟩, ⟨d, e, f, g⟩, h⟩ := x
  obtain ⟨h_a, ⟨h_b, h_c⟩, ⟨h_d, h_e, h_f, h_g⟩, h_h⟩ := h
  simp only [e_T_laws_eqEvent, q_eqRing ⟨h_b, h_c⟩, q_eqItem ⟨h_d, h_e, h_f, h_g⟩, q_eqIntS h_h, Option.bind_some, beq_self_eq_true, Bool.not_true, cond_false]
theorem q_eqEventS {a : (ET.sl false (.pair (.int .i64) (.pair (.pair (.int .i64) (.sl false (.int .i64))) (.pair (.pair (.int .i64) (.pair (.int .i64) (.pair (.int .i64) .str))) (.sl false (.int .i64)))))).den} (h : (ET.sl false (.pair (.int .i64) (.pair (.pair (.int .i64) (.sl false (.int .i64))) (.pair (.pair (.int .i64) (.pair (.int .i64) (.pair (.int .i64) .str))) (.sl false (.int .i64)))))).small a) : T_laws_eqEventS (a, a) = some true := by
  have h1 : a.length ≤ 1048576 := h.1
  rw [e_T_laws_eqEventS, eq_sl (L := L_laws_eqEventS_1) (Nat.le_trans h1 (by decide)) (fun n i y hy => ?_) (fun n => ?_)]
  · simp
  · have hlt := (List.getElem?_eq_some_iff.1 hy).1
    rw [e_L_laws_eqEventS_1]
    simp only [show ((i : Int) < (a.length : Int)) by omega, decide_true, cond_true, Int.natCast_nonneg, if_true, Int.toNat_natCast, hy, Option.bind_some, beq_self_eq_true, Bool.not_true, cond_false, q_eqEvent (h.2 y (List.mem_of_getElem? hy))]
    rw [wrap_ok (by omega) (by omega)]
  · rw [e_L_laws_eqEventS_1]; simp
theorem q_eqDaemon {x : (ET.pair (.int .i64) (.pair .bool (.pair (.pair (.int .i64) (.pair (.pair (.int .i64) (.sl false (.int .i64))) (.pair (.sl false (.pair (.int .i64) (.pair (.int .i64) (.pair (.int .i64) .str)))) (.pair (.sl false (.int .i64)) (.pair (.sl false .str) (.pair (.int .i64) (.pair (.int .i64) (.pair (.int .i64) (.pair (.int .i64) (.pair (.int .i64) (.pair (.int .i64) (.pair (.int .i64) (.pair (.int .i64) (.pair (.int .i64) (.sl false (.int .i64)))))))))))))))) (.pair (.int .i64) (.pair (.int .i64) (.pair (.pair (.int .i64) (.sl false (.int .i64))) (.pair (.sl false (.pair (.int .i64) (.pair (.int .i64) (.pair (.int .i64) (.sl false (.pair (.int .i64) (.pair (.int .i64) (.pair (.int .i64) .str)))))))) (.sl false (.pair (.int .i64) (.pair (.pair (.int .i64) (.sl false (.int .i64))) (.pair (.pair (.int .i64) (.pair (.int .i64) (.pair (.int .i64) .str))) (.sl false (.int .i64))))))))))))).den} (h : (ET.pair (.int .i64) (.pair .bool (.pair (.pair (.int .i64) (.pair (.pair (.int .i64) (.sl false (.int .i64))) (.pair (.sl false (.pair (.int .i64) (.pair (.int .i64) (.pair (.int .i64) .str)))) (.pair (.sl false (.int .i64)) (.pair (.sl false .str) (.pair (.int .i64) (.pair (.int .i64) (.pair (.int .i64) (.pair (.int .i64) (.pair (.int .i64) (.pair (.int .i64) (.pair (.int .i64) (.pair (.int .i64) (.pair (.int .i64) (.sl false (.int .i64)))))))))))))))) (.pair (.int .i64) (.pair (.int .i64) (.pair (.pair (.int .i64) (.sl false (.int .i64))) (.pair (.sl false (.pair (.int .i64) (.pair (.int .i64) (.pair (.int .i64) (.sl false (.pair (.int .i64) (.pair (.int .i64) (.pair (.int .i64) .str)))))))) (.sl false (.pair (.int .i64) (.pair (.pair (.int .i64) (.sl false (.int .i64))) (.pair (.pair (.int .i64) (.pair (.int .i64) (.pair (.int .i64) .str))) (.sl false (.int .i64))))))))))))).small x) : T_laws_eqDaemon (x, x) = some true := by
  obtain ⟨a, b, ⟨c, ⟨d, e⟩, f, g, h, i, j, k, l, m, o, p, q, r, s⟩, t, u, ⟨v, w⟩, x, y⟩ := x
  obtain ⟨h_a, h_b, ⟨h_c, ⟨h_d, h_e⟩, h_f, h_g, h_h, h_i, h_j, h_k, h_l, h_m, h_o, h_p, h_q, h_r, h_s⟩, h_t, h_u, ⟨h_v, h_w⟩, h_x, h_y⟩ := h
  simp only [e_T_laws_eqDaemon, q_eqMate ⟨h_c, ⟨h_d, h_e⟩, h_f, h_g, h_h, h_i, h_j, h_k, h_l, h_m, h_o, h_p, h_q, h_r, h_s⟩, q_eqRing ⟨h_v, h_w⟩, q_eqBundleS h_x, q_eqEventS h_y, Option.bind_some, beq_self_eq_true, Bool.not_true, cond_false]
theorem q_eqDaemonS {a : (ET.sl false (.pair (.int .i64) (.pair .bool (.pair (.pair (.int .i64) (.pair (.pair (.int .i64) (.sl false (.int .i64))) (.pair (.sl false (.pair (.int .i64) (.pair (.int .i64) (.pair (.int .i64) .str)))) (.pair (.sl false (.int .i64)) (.pair (.sl false .str) (.pair (.int .i64) (.pair (.int .i64) (.pair (.int .i64) (.pair (.int .i64) (.pair (.int .i64) (.pair (.int .i64) (.pair (.int .i64) (.pair (.int .i64) (.pair (.int .i64) (.sl false (.int .i64)))))))))))))))) (.pair (.int .i64) (.pair (.int .i64) (.pair (.pair (.int .i64) (.sl false (.int .i64))) (.pair (.sl false (.pair (.int .i64) (.pair (.int .i64) (.pair (.int .i64) (.sl false (.pair (.int .i64) (.pair (.int .i64) (.pair (.int .i64) .str)))))))) (.sl false (.pair (.int .i64) (.pair (.pair (.int .i64) (.sl false (.int .i64))) (.pair (.pair (.int .i64) (.pair (.int .i64) (.pair (.int .i64) .str))) (.sl false (.int .i64)))))))))))))).den} (h : (ET.sl false (.pair (.int .i64) (.pair .bool (.pair (.pair (.int .i64) (.pair (.pair (.int .i64) (.sl false (.int .i64))) (.pair (.sl false (.pair (.int .i64) (.pair (.int .i64) (.pair (.int .i64) .str)))) (.pair (.sl false (.int .i64)) (.pair (.sl false .str) (.pair (.int .i64) (.pair (.int .i64) (.pair (.int .i64) (.pair (.int .i64) (.pair (.int .i64) (.pair (.int .i64) (.pair (.int .i64) (.pair (.int .i64) (.pair (.int .i64) (.sl false (.int .i64)))))))))))))))) (.pair (.int .i64) (.pair (.int .i64) (.pair (.pair (.int .i64) (.sl false (.int .i64))) (.pair (.sl false (.pair (.int .i64) (.pair (.int .i64) (.pair (.int .i64) (.sl false (.pair (.int .i64) (.pair (.int .i64) (.pair (.int .i64) .str)))))))) (.sl false (.pair (.int .i64) (.pair (.pair (.int .i64) (.sl false (.int .i64))) (.pair (.pair (.int .i64) (.pair (.int .i64) (.pair (.int .i64) .str))) (.sl false (.int .i64)))))))))))))).small a) : T_laws_eqDaemonS (a, a) = some true := by
  have h1 : a.length ≤ 1048576 := h.1
  rw [e_T_laws_eqDaemonS, eq_sl (L := L_laws_eqDaemonS_1) (Nat.le_trans h1 (by decide)) (fun n i y hy => ?_) (fun n => ?_)]
  · simp
  · have hlt := (List.getElem?_eq_some_iff.1 hy).1
    rw [e_L_laws_eqDaemonS_1]
    simp only [show ((i : Int) < (a.length : Int)) by omega, decide_true, cond_true, Int.natCast_nonneg, if_true, Int.toNat_natCast, hy, Option.bind_some, beq_self_eq_true, Bool.not_true, cond_false, q_eqDaemon (h.2 y (List.mem_of_getElem? hy))]
    rw [wrap_ok (by omega) (by omega)]
  · rw [e_L_laws_eqDaemonS_1]; simp
theorem q_eqLetter {x : (ET.pair (.int .i64) (.pair (.int .i64) (.pair (.int .i64) (.pair (.pair (.int .i64) (.pair (.int .i64) (.pair (.int .i64) .str))) (.pair (.pair (.int .i64) (.pair (.int .i64) (.pair (.int .i64) (.pair (.int .i64) (.pair (.int .i64) (.sl false (.int .i64))))))) (.pair (.int .i64) (.pair (.int .i64) (.pair (.int .i64) (.sl false (.pair (.int .i64) (.pair (.int .i64) (.pair (.int .i64) .str)))))))))))).den} (h : (ET.pair (.int .i64) (.pair (.int .i64) (.pair (.int .i64) (.pair (.pair (.int .i64) (.pair (.int .i64) (.pair (.int .i64) .str))) (.pair (.pair (.int .i64) (.pair (.int .i64) (.pair (.int .i64) (.pair (.int .i64) (.pair (.int .i64) (.sl false (.int .i64))))))) (.pair (.int .i64) (.pair (.int .i64) (.pair (.int .i64) (.sl false (.pair (.int .i64) (.pair (.int .i64) (.pair (.int .i64) .str)))))))))))).small x) : T_laws_eqLetter (x, x) = some true := by
  obtain ⟨a, b, c, ⟨d, e, f, g⟩, ⟨h, i, j, k, l, m⟩, o, p, q, r⟩ := x
  obtain ⟨h_a, h_b, h_c, ⟨h_d, h_e, h_f, h_g⟩, ⟨h_h, h_i, h_j, h_k, h_l, h_m⟩, h_o, h_p, h_q, h_r⟩ := h
  simp only [e_T_laws_eqLetter, q_eqItem ⟨h_d, h_e, h_f, h_g⟩, q_eqToken ⟨h_h, h_i, h_j, h_k, h_l, h_m⟩, q_eqBundle ⟨h_o, h_p, h_q, h_r⟩, Option.bind_some, beq_self_eq_true, Bool.not_true, cond_false]
theorem q_eqLetterS {a : (ET.sl false (.pair (.int .i64) (.pair (.int .i64) (.pair (.int .i64) (.pair (.pair (.int .i64) (.pair (.int .i64) (.pair (.int .i64) .str))) (.pair (.pair (.int .i64) (.pair (.int .i64) (.pair (.int .i64) (.pair (.int .i64) (.pair (.int .i64) (.sl false (.int .i64))))))) (.pair (.int .i64) (.pair (.int .i64) (.pair (.int .i64) (.sl false (.pair (.int .i64) (.pair (.int .i64) (.pair (.int .i64) .str))))))))))))).den} (h : (ET.sl false (.pair (.int .i64) (.pair (.int .i64) (.pair (.int .i64) (.pair (.pair (.int .i64) (.pair (.int .i64) (.pair (.int .i64) .str))) (.pair (.pair (.int .i64) (.pair (.int .i64) (.pair (.int .i64) (.pair (.int .i64) (.pair (.int .i64) (.sl false (.int .i64))))))) (.pair (.int .i64) (.pair (.int .i64) (.pair (.int .i64) (.sl false (.pair (.int .i64) (.pair (.int .i64) (.pair (.int .i64) .str))))))))))))).small a) : T_laws_eqLetterS (a, a) = some true := by
  have h1 : a.length ≤ 1048576 := h.1
  rw [e_T_laws_eqLetterS, eq_sl (L := L_laws_eqLetterS_1) (Nat.le_trans h1 (by decide)) (fun n i y hy => ?_) (fun n => ?_)]
  · simp
  · have hlt := (List.getElem?_eq_some_iff.1 hy).1
    rw [e_L_laws_eqLetterS_1]
    simp only [show ((i : Int) < (a.length : Int)) by omega, decide_true, cond_true, Int.natCast_nonneg, if_true, Int.toNat_natCast, hy, Option.bind_some, beq_self_eq_true, Bool.not_true, cond_false, q_eqLetter (h.2 y (List.mem_of_getElem? hy))]
    rw [wrap_ok (by omega) (by omega)]
  · rw [e_L_laws_eqLetterS_1]; simp
theorem q_eqWorld {x : (ET.pair (.sl false (.pair (.int .i64) (.sl false (.int .i64)))) (.pair (.sl false (.pair (.int .i64) (.pair .bool (.pair (.pair (.int .i64) (.pair (.pair (.int .i64) (.sl false (.int .i64))) (.pair (.sl false (.pair (.int .i64) (.pair (.int .i64) (.pair (.int .i64) .str)))) (.pair (.sl false (.int .i64)) (.pair (.sl false .str) (.pair (.int .i64) (.pair (.int .i64) (.pair (.int .i64) (.pair (.int .i64) (.pair (.int .i64) (.pair (.int .i64) (.pair (.int .i64) (.pair (.int .i64) (.pair (.int .i64) (.sl false (.int .i64)))))))))))))))) (.pair (.int .i64) (.pair (.int .i64) (.pair (.pair (.int .i64) (.sl false (.int .i64))) (.pair (.sl false (.pair (.int .i64) (.pair (.int .i64) (.pair (.int .i64) (.sl false (.pair (.int .i64) (.pair (.int .i64) (.pair (.int .i64) .str)))))))) (.sl false (.pair (.int .i64) (.pair (.pair (.int .i64) (.sl false (.int .i64))) (.pair (.pair (.int .i64) (.pair (.int .i64) (.pair (.int .i64) .str))) (.sl false (.int .i64)))))))))))))) (.pair (.sl false (.pair (.int .i64) (.pair (.int .i64) (.pair (.int .i64) (.pair (.pair (.int .i64) (.pair (.int .i64) (.pair (.int .i64) .str))) (.pair (.pair (.int .i64) (.pair (.int .i64) (.pair (.int .i64) (.pair (.int .i64) (.pair (.int .i64) (.sl false (.int .i64))))))) (.pair (.int .i64) (.pair (.int .i64) (.pair (.int .i64) (.sl false (.pair (.int .i64) (.pair (.int .i64) (.pair (.int .i64) .str))))))))))))) (.sl false (.pair (.int .i64) (.pair (.pair (.int .i64) (.sl false (.int .i64))) (.pair (.pair (.int .i64) (.pair (.int .i64) (.pair (.int .i64) .str))) (.sl false (.int .i64))))))))).den} (h : (ET.pair (.sl false (.pair (.int .i64) (.sl false (.int .i64)))) (.pair (.sl false (.pair (.int .i64) (.pair .bool (.pair (.pair (.int .i64) (.pair (.pair (.int .i64) (.sl false (.int .i64))) (.pair (.sl false (.pair (.int .i64) (.pair (.int .i64) (.pair (.int .i64) .str)))) (.pair (.sl false (.int .i64)) (.pair (.sl false .str) (.pair (.int .i64) (.pair (.int .i64) (.pair (.int .i64) (.pair (.int .i64) (.pair (.int .i64) (.pair (.int .i64) (.pair (.int .i64) (.pair (.int .i64) (.pair (.int .i64) (.sl false (.int .i64)))))))))))))))) (.pair (.int .i64) (.pair (.int .i64) (.pair (.pair (.int .i64) (.sl false (.int .i64))) (.pair (.sl false (.pair (.int .i64) (.pair (.int .i64) (.pair (.int .i64) (.sl false (.pair (.int .i64) (.pair (.int .i64) (.pair (.int .i64) .str)))))))) (.sl false (.pair (.int .i64) (.pair (.pair (.int .i64) (.sl false (.int .i64))) (.pair (.pair (.int .i64) (.pair (.int .i64) (.pair (.int .i64) .str))) (.sl false (.int .i64)))))))))))))) (.pair (.sl false (.pair (.int .i64) (.pair (.int .i64) (.pair (.int .i64) (.pair (.pair (.int .i64) (.pair (.int .i64) (.pair (.int .i64) .str))) (.pair (.pair (.int .i64) (.pair (.int .i64) (.pair (.int .i64) (.pair (.int .i64) (.pair (.int .i64) (.sl false (.int .i64))))))) (.pair (.int .i64) (.pair (.int .i64) (.pair (.int .i64) (.sl false (.pair (.int .i64) (.pair (.int .i64) (.pair (.int .i64) .str))))))))))))) (.sl false (.pair (.int .i64) (.pair (.pair (.int .i64) (.sl false (.int .i64))) (.pair (.pair (.int .i64) (.pair (.int .i64) (.pair (.int .i64) .str))) (.sl false (.int .i64))))))))).small x) : T_laws_eqWorld (x, x) = some true := by
  obtain ⟨a, b, c, d⟩ := x
  obtain ⟨h_a, h_b, h_c, h_d⟩ := h
  simp only [e_T_laws_eqWorld, q_eqRingS h_a, q_eqDaemonS h_b, q_eqLetterS h_c, q_eqEventS h_d, Option.bind_some, beq_self_eq_true, Bool.not_true, cond_false]
theorem q_eqReader {x : (ET.pair .str .bool).den} (h : (ET.pair .str .bool).small x) : T_laws_eqReader (x, x) = some true := by
  obtain ⟨a, b⟩ := x
  obtain ⟨h_a, h_b⟩ := h
  simp only [e_T_laws_eqReader, Option.bind_some, beq_self_eq_true, Bool.not_true, cond_false]
theorem q_eqSession {x : (ET.pair (.int .i64) (.pair .str (.pair (.pair .str .bool) (.pair .bool (.sl false .str))))).den} (h : (ET.pair (.int .i64) (.pair .str (.pair (.pair .str .bool) (.pair .bool (.sl false .str))))).small x) : T_laws_eqSession (x, x) = some true := by
  obtain ⟨a, b, ⟨c, d⟩, e, f⟩ := x
  obtain ⟨h_a, h_b, ⟨h_c, h_d⟩, h_e, h_f⟩ := h
  simp only [e_T_laws_eqSession, q_eqReader ⟨h_c, h_d⟩, q_eqStringS h_f, Option.bind_some, beq_self_eq_true, Bool.not_true, cond_false]
theorem q_eqBox {x : (ET.pair .str (.pair (.sl false .str) .bool)).den} (h : (ET.pair .str (.pair (.sl false .str) .bool)).small x) : T_laws_eqBox (x, x) = some true := by
  obtain ⟨a, b, c⟩ := x
  obtain ⟨h_a, h_b, h_c⟩ := h
  simp only [e_T_laws_eqBox, q_eqStringS h_b, Option.bind_some, beq_self_eq_true, Bool.not_true, cond_false]
theorem q_eqCaller {x : (ET.pair (.pair (.int .i64) (.pair .str (.pair (.pair .str .bool) (.pair .bool (.sl false .str))))) (.pair (.pair .str (.pair (.sl false .str) .bool)) (.pair .str (.sl false .str)))).den} (h : (ET.pair (.pair (.int .i64) (.pair .str (.pair (.pair .str .bool) (.pair .bool (.sl false .str))))) (.pair (.pair .str (.pair (.sl false .str) .bool)) (.pair .str (.sl false .str)))).small x) : T_laws_eqCaller (x, x) = some true := by
  obtain ⟨⟨a, b, ⟨c, d⟩, e, f⟩, ⟨g, h, i⟩, j, k⟩ := x
  obtain ⟨⟨h_a, h_b, ⟨h_c, h_d⟩, h_e, h_f⟩, ⟨h_g, h_h, h_i⟩, h_j, h_k⟩ := h
  simp only [e_T_laws_eqCaller, q_eqSession ⟨h_a, h_b, ⟨h_c, h_d⟩, h_e, h_f⟩, q_eqBox ⟨h_g, h_h, h_i⟩, q_eqStringS h_k, Option.bind_some, beq_self_eq_true, Bool.not_true, cond_false]
theorem q_eqCallerS {a : (ET.sl false (.pair (.pair (.int .i64) (.pair .str (.pair (.pair .str .bool) (.pair .bool (.sl false .str))))) (.pair (.pair .str (.pair (.sl false .str) .bool)) (.pair .str (.sl false .str))))).den} (h : (ET.sl false (.pair (.pair (.int .i64) (.pair .str (.pair (.pair .str .bool) (.pair .bool (.sl false .str))))) (.pair (.pair .str (.pair (.sl false .str) .bool)) (.pair .str (.sl false .str))))).small a) : T_laws_eqCallerS (a, a) = some true := by
  have h1 : a.length ≤ 1048576 := h.1
  rw [e_T_laws_eqCallerS, eq_sl (L := L_laws_eqCallerS_1) (Nat.le_trans h1 (by decide)) (fun n i y hy => ?_) (fun n => ?_)]
  · simp
  · have hlt := (List.getElem?_eq_some_iff.1 hy).1
    rw [e_L_laws_eqCallerS_1]
    simp only [show ((i : Int) < (a.length : Int)) by omega, decide_true, cond_true, Int.natCast_nonneg, if_true, Int.toNat_natCast, hy, Option.bind_some, beq_self_eq_true, Bool.not_true, cond_false, q_eqCaller (h.2 y (List.mem_of_getElem? hy))]
    rw [wrap_ok (by omega) (by omega)]
  · rw [e_L_laws_eqCallerS_1]; simp
theorem q_eqGroup {x : (ET.pair .str (.sl false .str)).den} (h : (ET.pair .str (.sl false .str)).small x) : T_laws_eqGroup (x, x) = some true := by
  obtain ⟨a, b⟩ := x
  obtain ⟨h_a, h_b⟩ := h
  simp only [e_T_laws_eqGroup, q_eqStringS h_b, Option.bind_some, beq_self_eq_true, Bool.not_true, cond_false]
theorem q_eqGroupS {a : (ET.sl false (.pair .str (.sl false .str))).den} (h : (ET.sl false (.pair .str (.sl false .str))).small a) : T_laws_eqGroupS (a, a) = some true := by
  have h1 : a.length ≤ 1048576 := h.1
  rw [e_T_laws_eqGroupS, eq_sl (L := L_laws_eqGroupS_1) (Nat.le_trans h1 (by decide)) (fun n i y hy => ?_) (fun n => ?_)]
  · simp
  · have hlt := (List.getElem?_eq_some_iff.1 hy).1
    rw [e_L_laws_eqGroupS_1]
    simp only [show ((i : Int) < (a.length : Int)) by omega, decide_true, cond_true, Int.natCast_nonneg, if_true, Int.toNat_natCast, hy, Option.bind_some, beq_self_eq_true, Bool.not_true, cond_false, q_eqGroup (h.2 y (List.mem_of_getElem? hy))]
    rw [wrap_ok (by omega) (by omega)]
  · rw [e_L_laws_eqGroupS_1]; simp
theorem q_eqTable {a : (ET.sl false (.pair .str (.sl false .str))).den} (h_a : (ET.sl false (.pair .str (.sl false .str))).small a) : T_laws_eqTable (a, a) = some true := by
  simp only [e_T_laws_eqTable, q_eqGroupS h_a, Option.bind_some, beq_self_eq_true, Bool.not_true, cond_false]
theorem q_eqTableS {a : (ET.sl false (.sl false (.pair .str (.sl false .str)))).den} (h : (ET.sl false (.sl false (.pair .str (.sl false .str)))).small a) : T_laws_eqTableS (a, a) = some true := by
  have h1 : a.length ≤ 1048576 := h.1
  rw [e_T_laws_eqTableS, eq_sl (L := L_laws_eqTableS_1) (Nat.le_trans h1 (by decide)) (fun n i y hy => ?_) (fun n => ?_)]
  · simp
  · have hlt := (List.getElem?_eq_some_iff.1 hy).1
    rw [e_L_laws_eqTableS_1]
    simp only [show ((i : Int) < (a.length : Int)) by omega, decide_true, cond_true, Int.natCast_nonneg, if_true, Int.toNat_natCast, hy, Option.bind_some, beq_self_eq_true, Bool.not_true, cond_false, q_eqTable (h.2 y (List.mem_of_getElem? hy))]
    rw [wrap_ok (by omega) (by omega)]
  · rw [e_L_laws_eqTableS_1]; simp
theorem q_eqHall {x : (ET.pair (.pair (.sl false (.pair (.int .i64) (.sl false (.int .i64)))) (.pair (.sl false (.pair (.int .i64) (.pair .bool (.pair (.pair (.int .i64) (.pair (.pair (.int .i64) (.sl false (.int .i64))) (.pair (.sl false (.pair (.int .i64) (.pair (.int .i64) (.pair (.int .i64) .str)))) (.pair (.sl false (.int .i64)) (.pair (.sl false .str) (.pair (.int .i64) (.pair (.int .i64) (.pair (.int .i64) (.pair (.int .i64) (.pair (.int .i64) (.pair (.int .i64) (.pair (.int .i64) (.pair (.int .i64) (.pair (.int .i64) (.sl false (.int .i64)))))))))))))))) (.pair (.int .i64) (.pair (.int .i64) (.pair (.pair (.int .i64) (.sl false (.int .i64))) (.pair (.sl false (.pair (.int .i64) (.pair (.int .i64) (.pair (.int .i64) (.sl false (.pair (.int .i64) (.pair (.int .i64) (.pair (.int .i64) .str)))))))) (.sl false (.pair (.int .i64) (.pair (.pair (.int .i64) (.sl false (.int .i64))) (.pair (.pair (.int .i64) (.pair (.int .i64) (.pair (.int .i64) .str))) (.sl false (.int .i64)))))))))))))) (.pair (.sl false (.pair (.int .i64) (.pair (.int .i64) (.pair (.int .i64) (.pair (.pair (.int .i64) (.pair (.int .i64) (.pair (.int .i64) .str))) (.pair (.pair (.int .i64) (.pair (.int .i64) (.pair (.int .i64) (.pair (.int .i64) (.pair (.int .i64) (.sl false (.int .i64))))))) (.pair (.int .i64) (.pair (.int .i64) (.pair (.int .i64) (.sl false (.pair (.int .i64) (.pair (.int .i64) (.pair (.int .i64) .str))))))))))))) (.sl false (.pair (.int .i64) (.pair (.pair (.int .i64) (.sl false (.int .i64))) (.pair (.pair (.int .i64) (.pair (.int .i64) (.pair (.int .i64) .str))) (.sl false (.int .i64))))))))) (.pair (.sl false (.pair (.pair (.int .i64) (.pair .str (.pair (.pair .str .bool) (.pair .bool (.sl false .str))))) (.pair (.pair .str (.pair (.sl false .str) .bool)) (.pair .str (.sl false .str))))) (.pair (.sl false (.sl false (.pair .str (.sl false .str)))) (.sl false (.int .i64))))).den} (h : (ET.pair (.pair (.sl false (.pair (.int .i64) (.sl false (.int .i64)))) (.pair (.sl false (.pair (.int .i64) (.pair .bool (.pair (.pair (.int .i64) (.pair (.pair (.int .i64) (.sl false (.int .i64))) (.pair (.sl false (.pair (.int .i64) (.pair (.int .i64) (.pair (.int .i64) .str)))) (.pair (.sl false (.int .i64)) (.pair (.sl false .str) (.pair (.int .i64) (.pair (.int .i64) (.pair (.int .i64) (.pair (.int .i64) (.pair (.int .i64) (.pair (.int .i64) (.pair (.int .i64) (.pair (.int .i64) (.pair (.int .i64) (.sl false (.int .i64)))))))))))))))) (.pair (.int .i64) (.pair (.int .i64) (.pair (.pair (.int .i64) (.sl false (.int .i64))) (.pair (.sl false (.pair (.int .i64) (.pair (.int .i64) (.pair (.int .i64) (.sl false (.pair (.int .i64) (.pair (.int .i64) (.pair (.int .i64) .str)))))))) (.sl false (.pair (.int .i64) (.pair (.pair (.int .i64) (.sl false (.int .i64))) (.pair (.pair (.int .i64) (.pair (.int .i64) (.pair (.int .i64) .str))) (.sl false (.int .i64)))))))))))))) (.pair (.sl false (.pair (.int .i64) (.pair (.int .i64) (.pair (.int .i64) (.pair (.pair (.int .i64) (.pair (.int .i64) (.pair (.int .i64) .str))) (.pair (.pair (.int .i64) (.pair (.int .i64) (.pair (.int .i64) (.pair (.int .i64) (.pair (.int .i64) (.sl false (.int .i64))))))) (.pair (.int .i64) (.pair (.int .i64) (.pair (.int .i64) (.sl false (.pair (.int .i64) (.pair (.int .i64) (.pair (.int .i64) .str))))))))))))) (.sl false (.pair (.int .i64) (.pair (.pair (.int .i64) (.sl false (.int .i64))) (.pair (.pair (.int .i64) (.pair (.int .i64) (.pair (.int .i64) .str))) (.sl false (.int .i64))))))))) (.pair (.sl false (.pair (.pair (.int .i64) (.pair .str (.pair (.pair .str .bool) (.pair .bool (.sl false .str))))) (.pair (.pair .str (.pair (.sl false .str) .bool)) (.pair .str (.sl false .str))))) (.pair (.sl false (.sl false (.pair .str (.sl false .str)))) (.sl false (.int .i64))))).small x) : T_laws_eqHall (x, x) = some true := by
  obtain ⟨⟨a, b, c, d⟩, e, f, g⟩ := x
  obtain ⟨⟨h_a, h_b, h_c, h_d⟩, h_e, h_f, h_g⟩ := h
  simp only [e_T_laws_eqHall, q_eqWorld ⟨h_a, h_b, h_c, h_d⟩, q_eqCallerS h_e, q_eqTableS h_f, q_eqIntS h_g, Option.bind_some, beq_self_eq_true, Bool.not_true, cond_false]
theorem small_len {s : List UInt8} (h : ET.str.small s) : s.length ≤ maxLen := Nat.le_trans h (by decide)
theorem smallL_len {e : ET} {o : Bool} {s : List e.den} (h : (ET.sl o e).small s) : s.length ≤ maxLen := Nat.le_trans h.1 (by decide)
theorem x_inRange (a b c : Int) : T_spec_l01In (a, b, c) = some (decide (b ≤ a ∧ a ≤ c)) ∧ T_impl_inRange (a, b, c) = some (decide (b ≤ a ∧ a ≤ c)) := by
  rw [e_T_spec_l01In, e_T_impl_inRange]
  by_cases h : b ≤ a <;> simp [h]
/-- A name's step, as the reference has it. -/
def nameS (i : Nat) (y : UInt8) (_ : Unit) : Option (Unit ⊕ Bool) :=
  some (if (97 ≤ (y.toNat : Int) ∧ (y.toNat : Int) ≤ 122) ∨ (¬ i = 0 ∧ 48 ≤ (y.toNat : Int) ∧ (y.toNat : Int) ≤ 57) then .inl () else .inr false)
theorem getD_of {a : List UInt8} {i : Nat} {y : UInt8} (h : a[i]? = some y) (d : UInt8) : a.getD i d = y := by simp [List.getD_eq_getElem?_getD, h]
theorem w1 : IntKind.i64.wrap 1 = 1 := by decide +kernel
theorem l_implName {a : List UInt8} (h : a.length ≤ maxLen) : L_impl_NameOk_1 fuel (a, 0) = (each nameS 0 a ()).bind (Sum.elim (fun _ => some (.inl a)) fun r => some (.inr r)) := by
  refine each_loop (L := L_impl_NameOk_1) a (fun (_ : Unit) c => (a, c)) (fun _ => a) nameS (fun n s i y hy => ?_) (fun n s => ?_) h ()
  · have hlt := (List.getElem?_eq_some_iff.1 hy).1
    rw [maxLen_eq] at h
    rw [e_L_impl_NameOk_1]
    simp only [show ((i : Int) < (a.length : Int)) by omega, decide_true, cond_true, Int.natCast_nonneg, if_true, Int.toNat_natCast, getD_of hy, wrap_ok (n := (i : Int) + 1) (by omega) (by omega), nameS, ← Int.not_le, decide_not]
    have i0 : ¬ i = 0 → ((i : Int) == 0) = false := fun h => by simp [h]
    by_cases h1 : (97 : Int) ≤ y.toNat <;> by_cases h2 : (y.toNat : Int) ≤ 122 <;> by_cases h3 : i = 0 <;> by_cases h4 : (48 : Int) ≤ y.toNat <;> by_cases h5 : (y.toNat : Int) ≤ 57 <;> simp [h1, h2, h3, h4, h5, (List.getElem?_eq_some_iff.1 hy).2, hlt, Nat.not_le.2 hlt, wrap_ok (n := (i : Int) + 1) (by omega) (by omega), w1, i0, -Int.not_le]
  · rw [e_L_impl_NameOk_1]; simp
theorem l_specName {a : List UInt8} (h : a.length ≤ maxLen) (h0 : ∃ y, a[0]? = some y ∧ (97 : Int) ≤ y.toNat ∧ (y.toNat : Int) ≤ 122) : L_spec_NameOk_1 fuel (a, 0) = (each nameS 0 a ()).bind (Sum.elim (fun _ => some (.inl ())) fun r => some (.inr r)) := by
  refine each_loop (L := L_spec_NameOk_1) a (fun (_ : Unit) c => (a, c)) (fun _ => ()) nameS (fun n s i y hy => ?_) (fun n s => ?_) h ()
  · have hlt := (List.getElem?_eq_some_iff.1 hy).1
    rw [maxLen_eq] at h
    rw [e_L_spec_NameOk_1]
    simp only [show ((i : Int) < (a.length : Int)) by omega, decide_true, cond_true, Int.natCast_nonneg, if_true, Int.toNat_natCast, getD_of hy, wrap_ok (n := (i : Int) + 1) (by omega) (by omega), nameS, ← Int.not_le, decide_not]
    by_cases h3 : i = 0
    · subst h3
      obtain ⟨z, hz, h1, h2⟩ := h0
      rw [hy] at hz; cases hz
      simp [h1, h2, (List.getElem?_eq_some_iff.1 hy).2, w1, hlt, -Int.not_le]
    · have i0 : ((i : Int) == 0) = false := by simp [h3]
      by_cases h1 : (97 : Int) ≤ y.toNat <;> by_cases h2 : (y.toNat : Int) ≤ 122 <;> by_cases h4 : (48 : Int) ≤ y.toNat <;> by_cases h5 : (y.toNat : Int) ≤ 57 <;> simp [h1, h2, h3, h4, h5, (List.getElem?_eq_some_iff.1 hy).2, hlt, Nat.not_le.2 hlt, wrap_ok (n := (i : Int) + 1) (by omega) (by omega), w1, i0, -Int.not_le]
  · rw [e_L_spec_NameOk_1]; simp
theorem each_name (l : List UInt8) (i : Nat) : each nameS i l () = some (.inl ()) ∨ each nameS i l () = some (.inr false) := by
  induction l generalizing i with
  | nil => exact .inl rfl
  | cons y l ih =>
    simp only [each, nameS]
    split
    · exact ih (i + 1)
    · exact .inr rfl
theorem x_NameOk {a : List UInt8} (h : a.length ≤ maxLen) : ∃ b, T_spec_NameOk a = some b ∧ T_impl_NameOk a = some b := by
  rw [e_T_spec_NameOk, e_T_impl_NameOk, l_implName h]
  simp only [(x_inRange _ _ _).1, Option.bind_some]
  by_cases hr : (1 : Int) ≤ a.length ∧ (a.length : Int) ≤ 12
  · obtain ⟨y, hy⟩ : ∃ y, a[0]? = some y := ⟨a[0]'(by omega), List.getElem?_eq_getElem (by omega)⟩
    simp only [hr, and_self, decide_true, Bool.not_true, cond_false, show (0 : Int) < a.length by omega, if_true, getD_of hy]
    by_cases h0 : (97 : Int) ≤ y.toNat ∧ (y.toNat : Int) ≤ 122
    · rw [show decide ((y.toNat : Int) < 97) = false by simp; omega, show decide (122 < (y.toNat : Int)) = false by simp; omega]
      simp only [cond_false, Option.bind_some, Sum.elim_inl, l_specName h ⟨y, hy, h0⟩]
      rcases each_name a 0 with h1 | h1 <;> rw [h1] <;> simp [(x_inRange _ _ _).2, hr]
    · have h1 : each nameS 0 a () = some (.inr false) := by
        match a, hy with
        | z :: l, hy =>
          simp at hy; subst hy
          simp [each, nameS, h0]
      rw [h1]
      refine ⟨false, ?_, rfl⟩
      by_cases h2 : (y.toNat : Int) < 97
      · simp [h2]
      · have h3 : (122 : Int) < y.toNat := by omega
        simp [h2, h3]
  · refine ⟨false, by simp [hr], ?_⟩
    rcases each_name a 0 with h1 | h1 <;> rw [h1] <;> simp only [(x_inRange _ _ _).2, hr, Option.bind_some, Sum.elim_inl, Sum.elim_inr, decide_false]
/-- A step along names: right, and above the one ahead. -/
noncomputable def nmS (a : List (List UInt8)) (i : Nat) (y : List UInt8) (_ : Unit) : Option (Unit ⊕ Bool) :=
  (T_impl_NameOk y).bind fun r => bif !r then some (.inr false) else bif decide (0 < i) then a[i - 1]?.bind fun z => some (bif Op.bytesLess y z || y == z then .inr false else .inl ()) else some (.inl ())
theorem l_nm {σ : Type} {L : Nat → σ → Option (Unit ⊕ Bool)} {a : List (List UInt8)} (st : Int → σ) (h : (ET.sl false .str).small a) (hL : ∀ n (i : Nat) y, a[i]? = some y → (i : Int) < a.length → IntKind.i64.wrap ((i : Int) + 1) = i + 1 → (0 < i → IntKind.i64.wrap ((i : Int) - 1) = ((i - 1 : Nat) : Int)) → T_spec_NameOk y = T_impl_NameOk y →
    L (n + 1) (st i) = (nmS a i y ()).bind (Sum.elim (fun _ => L n (st ((i : Int) + 1))) fun r => some (.inr r))) (hE : ∀ n, L (n + 1) (st a.length) = some (.inl ())) : L fuel (st 0) = each (nmS a) 0 a () := by
  have hl : a.length ≤ 1048576 := h.1
  rw [each_loop (L := L) a (fun (_ : Unit) c => st c) (fun _ => ()) (nmS a) (fun n s i y hy => ?_) (fun n s => hE n) (by rw [maxLen_eq]; omega) ()]
  · cases each (nmS a) 0 a () with
    | none => rfl
    | some q => cases q <;> rfl
  · have hlt := (List.getElem?_eq_some_iff.1 hy).1
    obtain ⟨b, h1, h2⟩ := x_NameOk (a := y) (Nat.le_trans (h.2 y (List.mem_of_getElem? hy)) (by decide))
    exact hL n i y hy (by omega) (wrap_ok (by omega) (by omega)) (fun h0 => by rw [wrap_ok (by omega) (by omega)]; omega) (by rw [h1, h2])
theorem l_implNames {a : List (List UInt8)} (h : (ET.sl false .str).small a) : L_impl_areNames_1 fuel (a, a, (a.length : Int), 0) = each (nmS a) 0 a () :=
  l_nm (L := L_impl_areNames_1) (fun c => (a, a, (a.length : Int), c)) h (fun n i y hy hlt hw hw' hn => by
    rw [e_L_impl_areNames_1]
    simp only [hlt, decide_true, cond_true, Int.natCast_nonneg, if_true, Int.toNat_natCast, hy, Option.bind_some, nmS]
    cases T_impl_NameOk y with
    | none => rfl
    | some r =>
      cases r with
      | false => rfl
      | true =>
        by_cases h0 : 0 < i
        · simp only [Option.bind_some, Bool.not_true, cond_false, show (0 : Int) < i by omega, decide_true, cond_true, hw' h0, Int.natCast_nonneg, if_true, Int.toNat_natCast, h0]
          cases a[i - 1]? with
          | none => rfl
          | some z =>
            simp only [Option.bind_some, Sum.elim_inl]
            cases Op.bytesLess y z || y == z <;> simp only [cond_true, cond_false, Option.bind_some, Sum.elim_inl, Sum.elim_inr, hw]
        · simp only [Option.bind_some, Bool.not_true, cond_false, show ¬ (0 : Int) < i by omega, decide_false, h0, Sum.elim_inl, hw]) (fun n => by rw [e_L_impl_areNames_1]; simp)
theorem l_specNames {a : List (List UInt8)} (h : (ET.sl false .str).small a) : L_spec_l17Names_1 fuel (a, 0) = each (nmS a) 0 a () :=
  l_nm (L := L_spec_l17Names_1) (fun c => (a, c)) h (fun n i y hy hlt hw hw' hn => by
    rw [e_L_spec_l17Names_1]
    simp only [hlt, decide_true, cond_true, Int.natCast_nonneg, if_true, Int.toNat_natCast, hy, Option.bind_some, nmS, hn]
    cases T_impl_NameOk y with
    | none => rfl
    | some r =>
      cases r with
      | false => rfl
      | true =>
        by_cases h0 : 0 < i
        · simp only [Option.bind_some, Bool.not_true, cond_false, show (0 : Int) < i by omega, decide_true, cond_true, hw' h0, Int.natCast_nonneg, if_true, Int.toNat_natCast, h0]
          cases a[i - 1]? with
          | none => rfl
          | some z =>
            simp only [Option.bind_some, Sum.elim_inl, less_not]
            cases Op.bytesLess y z || y == z <;> simp only [cond_true, cond_false, Option.bind_some, Sum.elim_inl, Sum.elim_inr, hw]
        · simp only [Option.bind_some, Bool.not_true, cond_false, show ¬ (0 : Int) < i by omega, decide_false, h0, Sum.elim_inl, hw]) (fun n => by rw [e_L_spec_l17Names_1]; simp)
theorem each_nm {a : List (List UInt8)} (h : (ET.sl false .str).small a) : each (nmS a) 0 a () = some (.inl ()) ∨ each (nmS a) 0 a () = some (.inr false) := by
  rcases each_rule (step := nmS a) (fun _ _ => True) (fun r => r = false) a 0 () trivial (fun i y s hy _ => by
    rw [Nat.zero_add]
    obtain ⟨b, _, h2⟩ := x_NameOk (a := y) (Nat.le_trans (h.2 y (List.mem_of_getElem? hy)) (by decide))
    have hlt := (List.getElem?_eq_some_iff.1 hy).1
    simp only [nmS, h2, Option.bind_some]
    cases b with
    | false => exact .inr ⟨false, rfl, rfl⟩
    | true =>
      by_cases h0 : 0 < i
      · rw [List.getElem?_eq_getElem (show i - 1 < a.length by omega)]
        simp only [h0, decide_true, cond_true, Bool.not_true, cond_false, Option.bind_some]
        cases Op.bytesLess y a[i - 1] || y == a[i - 1]
        · exact .inl ⟨(), rfl, trivial⟩
        · exact .inr ⟨false, rfl, rfl⟩
      · exact .inl ⟨(), by simp only [h0, decide_false, Bool.not_true, cond_false], trivial⟩) with ⟨s, h1, _⟩ | ⟨r, h1, rfl⟩
  · exact .inl h1
  · exact .inr h1
theorem x_areNames {a : List (List UInt8)} (h : (ET.sl false .str).small a) : ∃ v, T_spec_l17Names a = some v ∧ T_impl_areNames a = some v := by
  rw [e_T_spec_l17Names, e_T_impl_areNames, l_implNames h, l_specNames h]
  rcases each_nm h with h1 | h1 <;> rw [h1]
  · exact ⟨true, rfl, rfl⟩
  · exact ⟨false, rfl, rfl⟩
/-- A number's bytes: seven bits each, the low ones first. -/
def vEnc (n : Nat) : List UInt8 := if 127 < n then UInt8.ofNat (n % 128 + 128) :: vEnc (n / 128) else [UInt8.ofNat n]
theorem vEnc_hi {n : Nat} (h : 127 < n) : vEnc n = UInt8.ofNat (n % 128 + 128) :: vEnc (n / 128) := by rw [vEnc, if_pos h]
theorem vEnc_lo {n : Nat} (h : n ≤ 127) : vEnc n = [UInt8.ofNat n] := by rw [vEnc, if_neg (by omega)]
theorem u8w {n : Int} (h0 : 0 ≤ n) (h1 : n < 256) : IntKind.u8.wrap n = n := by
  rw [IntKind.wrap_u8]; omega
theorem vEnc_len : ∀ n : Nat, (vEnc n).length ≤ n + 1 := by
  intro n
  induction n using Nat.strongRecOn with
  | _ n ih =>
    by_cases h : 127 < n
    · rw [vEnc_hi h]
      have := ih (n / 128) (by omega)
      simp only [List.length_cons]; omega
    · rw [vEnc_lo (by omega)]; simp
theorem l_var : ∀ (k n : Nat) (b : List Int), k < n → b.length + k ≤ 4294967296 → ∃ (k' : Nat) (b' : List Int), L_spec_l01Var_1 n ((k : Int), b) = some (.inl ((k' : Int), b')) ∧ k' ≤ 127 ∧ b'.length ≤ b.length + k ∧ b'.map (fun x => UInt8.ofNat x.toNat) ++ [UInt8.ofNat k'] = b.map (fun x => UInt8.ofNat x.toNat) ++ vEnc k := by
  intro k
  induction k using Nat.strongRecOn with
  | _ k ih =>
    intro n b hn hb
    obtain ⟨m, rfl⟩ : ∃ m, n = m + 1 := ⟨n - 1, by omega⟩
    rw [e_L_spec_l01Var_1]
    by_cases h : 127 < k
    · have h1 : (127 : Int) < (k : Int) := by omega
      have e1 : IntKind.i64.wrap ((k : Int).tmod 128 + 128) = ((k % 128 + 128 : Nat) : Int) := by
        rw [Int.tmod_eq_emod_of_nonneg (by omega), wrap_ok (by omega) (by omega)]; omega
      have e2 : IntKind.i64.wrap ((k : Int).tdiv 128) = ((k / 128 : Nat) : Int) := by
        rw [Int.tdiv_eq_ediv_of_nonneg (by omega), wrap_ok (by omega) (by omega)]; omega
      simp only [h1, decide_true, cond_true, e1, e2, List.length_singleton]
      rw [if_pos (by omega), u8w (by omega) (by omega)]
      obtain ⟨k', b', h2, h3, h4, h5⟩ := ih (k / 128) (by omega) m (b.append [((k % 128 + 128 : Nat) : Int)]) (by omega) (by simp; omega)
      refine ⟨k', b', h2, h3, by simp at h4; omega, ?_⟩
      rw [h5, vEnc_hi h]
      simp only [List.append_eq, List.map_append, List.map_cons, List.map_nil, Int.toNat_natCast, List.append_assoc, List.cons_append, List.nil_append]
    · have h1 : ¬ (127 : Int) < (k : Int) := by omega
      simp only [h1, decide_false, cond_false]
      exact ⟨k, b, rfl, by omega, by omega, by rw [vEnc_lo (by omega)]⟩
theorem v_l01Var {a : Int} (h0 : 0 ≤ a) (h1 : a ≤ 2147483648) : T_spec_l01Var a = some (vEnc a.toNat) := by
  obtain ⟨k, rfl⟩ : ∃ k : Nat, a = (k : Int) := ⟨a.toNat, by omega⟩
  rw [e_T_spec_l01Var]
  obtain ⟨k', b', h2, h3, h4, h5⟩ := l_var k fuel [] (by simp only [fuel]; omega) (by simp; omega)
  rw [h2]
  simp only [Option.bind_some, Sum.elim_inl]
  simp at h4
  rw [if_pos (by simp; omega), u8w (by omega) (by omega)]
  simp only [List.map_nil, List.nil_append] at h5
  simp only [Option.some.injEq, Int.toNat_natCast]
  rw [← h5]
  simp
/-- A number off the front of bytes. -/
def rvS : Nat → Nat → Nat → Nat → List UInt8 → Option (Nat × Nat)
  | 0, _, _, _, _ => none
  | _ + 1, _, _, _, [] => none
  | k + 1, i, acc, m, c :: t => if c.toNat < 128 then (if (c.toNat = 0 ∧ 0 < i) ∨ 1000000000 < acc + c.toNat * m then none else some (acc + c.toNat * m, i + 1))
    else rvS k (i + 1) (acc + (c.toNat - 128) * m) (m * 128) t
/-- How it is told: the number, where it ends, whether it is right. -/
def outV (b : Nat) : Option (Nat × Nat) → Int × Int × Bool
  | none => (0, 0, false)
  | some (v, n) => ((v : Int), ((b + n : Nat) : Int), true)
theorem getD_at {a : List UInt8} {i : Nat} (h : i < a.length) : a.getD i 0 = a[i] := by simp [List.getD_eq_getElem?_getD, h]
theorem u8lt (c : UInt8) : c.toNat < 256 := c.toNat_lt
theorem l_implVar : ∀ (k e acc m b j : Nat) (a : List UInt8), k + e = 5 → m = 128 ^ e → acc < m → b ≤ a.length → a.length ≤ 4294967296 → ∃ q, L_impl_ReadVar_1 (k + 1 + j) (a, (b : Int), (acc : Int), (m : Int), (e : Int)) = some q ∧ Sum.elim (fun _ => ((0 : Int), (0 : Int), false)) (fun v => v) q = outV b (rvS k e acc m (a.drop (b + e))) := by
  intro k
  induction k with
  | zero =>
    intro e acc m b j a hk hm hacc hb ha
    have he : e = 5 := by omega
    subst he
    rw [show 0 + 1 + j = j + 1 by omega, e_L_impl_ReadVar_1]
    exact ⟨.inl (), rfl, rfl⟩
  | succ k ih =>
    intro e acc m b j a hk hm hacc hb ha
    have he : e ≤ 4 := by omega
    have hmB : m ≤ 268435456 := by
      rw [hm]; exact Nat.le_trans (Nat.pow_le_pow_right (by decide) he) (by decide)
    rw [show k + 1 + 1 + j = (k + 1 + j) + 1 by omega, e_L_impl_ReadVar_1]
    have e1 : ((e : Int) < 5) := by omega
    have w1 : IntKind.i64.wrap ((b : Int) + (e : Int)) = ((b + e : Nat) : Int) := by rw [wrap_ok (by omega) (by omega)]; omega
    simp only [e1, decide_true, cond_true, w1, Option.bind_some, Sum.elim_inl]
    by_cases hlt : b + e < a.length
    · have h2 : ((b + e : Nat) : Int) < (a.length : Int) := by omega
      have hd : a.drop (b + e) = a[b + e] :: a.drop (b + e + 1) := by rw [List.drop_eq_getElem_cons hlt]
      have hc := u8lt a[b + e]
      rw [hd]
      generalize hcc : a[b + e] = c at *
      have w2 : IntKind.i64.wrap (c.toNat : Int) = (c.toNat : Int) := wrap_ok (by omega) (by omega)
      simp only [h2, decide_true, cond_true, Int.natCast_nonneg, if_true, Int.toNat_natCast, getD_at hlt, hcc, w2]
      by_cases hs : c.toNat < 128
      · have hp : c.toNat * m < 128 * m := by
          have := Nat.mul_lt_mul_of_pos_right hs (show 0 < m by rw [hm]; exact Nat.pow_pos (by decide))
          exact this
        have e2 : ¬ (128 : Int) ≤ (c.toNat : Int) := by omega
        have w3 : IntKind.i64.wrap ((acc : Int) + IntKind.i64.wrap ((c.toNat : Int).tmod 128 * (m : Int))) = ((acc + c.toNat * m : Nat) : Int) := by
          rw [Int.tmod_eq_emod_of_nonneg (by omega), Int.emod_eq_of_lt (by omega) (by omega), wrap_ok (n := (c.toNat : Int) * (m : Int)) (by omega) (by omega), wrap_ok (by omega) (by omega)]; omega
        have w4 : IntKind.i64.wrap (IntKind.i64.wrap ((b : Int) + (e : Int)) + 1) = ((b + (e + 1) : Nat) : Int) := by
          rw [w1, wrap_ok (by omega) (by omega)]; omega
        rw [w1] at w4
        have e3 : ((c.toNat : Int) == 0) = decide (c.toNat = 0) := by
          by_cases h : c.toNat = 0 <;> simp [h]
        have e4 : (decide ((0 : Int) < (e : Int))) = decide (0 < e) := by
          by_cases h : 0 < e <;> simp [h]
        have e5 : (decide ((1000000000 : Int) < ((acc + c.toNat * m : Nat) : Int))) = decide (1000000000 < acc + c.toNat * m) := by
          by_cases h : 1000000000 < acc + c.toNat * m
          · rw [decide_eq_true h, decide_eq_true (by omega)]
          · rw [decide_eq_false h, decide_eq_false (by omega)]
        simp only [e2, decide_false, cond_false, w3, e3, e4, e5, bif_bind, Option.bind_some, Sum.elim_inl, w1, w4, rvS, hs, if_true]
        by_cases hz : c.toNat = 0 <;> by_cases he0 : 0 < e <;> by_cases hbig : 1000000000 < acc + c.toNat * m <;> simp only [hz, he0, hbig, decide_true, decide_false, cond_true, cond_false, and_true, and_false, true_and, false_and, true_or, or_true, false_or, or_false, if_true, if_false] <;>
          first
          | exact ⟨_, rfl, rfl⟩
          | (simp only [hz] at hbig; simp only [hbig, decide_true, decide_false, cond_true, cond_false, if_true, if_false]; exact ⟨_, rfl, rfl⟩)
      · have hp : (c.toNat - 128) * m ≤ 127 * m := Nat.mul_le_mul_right _ (by omega)
        have e2 : (128 : Int) ≤ (c.toNat : Int) := by omega
        have hcm : ((c.toNat : Int).tmod 128 * (m : Int)) = (((c.toNat - 128) * m : Nat) : Int) := by
          rw [Int.tmod_eq_emod_of_nonneg (by omega), show (c.toNat : Int) % 128 = ((c.toNat - 128 : Nat) : Int) by omega, Int.natCast_mul]
        have w3 : IntKind.i64.wrap ((acc : Int) + IntKind.i64.wrap ((c.toNat : Int).tmod 128 * (m : Int))) = ((acc + (c.toNat - 128) * m : Nat) : Int) := by
          rw [hcm, wrap_ok (n := (((c.toNat - 128) * m : Nat) : Int)) (by omega) (by omega), wrap_ok (by omega) (by omega)]; omega
        have w4 : IntKind.i64.wrap ((m : Int) * 128) = ((m * 128 : Nat) : Int) := by rw [wrap_ok (by omega) (by omega)]; omega
        have w5 : IntKind.i64.wrap ((e : Int) + 1) = ((e + 1 : Nat) : Int) := by rw [wrap_ok (by omega) (by omega)]; omega
        simp only [e2, decide_true, cond_true, w3, w4, w5, rvS, hs, if_false]
        exact ih (e + 1) (acc + (c.toNat - 128) * m) (m * 128) b j a (by omega) (by rw [hm, Nat.pow_succ]) (by omega) hb ha
    · have h2 : ¬ ((b + e : Nat) : Int) < (a.length : Int) := by omega
      simp only [h2, decide_false, cond_false]
      rw [List.drop_eq_nil_of_le (by omega)]
      exact ⟨.inl (), rfl, rfl⟩
theorem v_implVar {a : List UInt8} {b : Nat} (hb : b ≤ a.length) (ha : a.length ≤ 4294967296) : T_impl_ReadVar (a, (b : Int)) = some (outV b (rvS 5 0 0 1 (a.drop b))) := by
  rw [e_T_impl_ReadVar]
  have h1 : ¬ (b : Int) < 0 := by omega
  have h2 : ¬ (a.length : Int) < (b : Int) := by omega
  obtain ⟨q, h3, h4⟩ := l_implVar 5 0 0 1 b 18446744073709551610 a rfl rfl (by decide) hb ha
  simp only [Nat.add_zero, Int.natCast_zero, Int.natCast_one] at h3 h4
  have h5 : L_impl_ReadVar_1 fuel (a, (b : Int), 0, 1, 0) = some q := h3
  simp only [h1, h2, decide_false, cond_false, Option.bind_some, Sum.elim_inl, h5]
  rw [← h4]
  cases q <;> rfl
theorem rvS_bound : ∀ (k i acc m : Nat) (t : List UInt8) (v n : Nat), rvS k i acc m t = some (v, n) → v ≤ 1000000000 ∧ i < n ∧ n ≤ i + t.length
  | 0, _, _, _, _, _, _, h => by simp [rvS] at h
  | _ + 1, _, _, _, [], _, _, h => by simp [rvS] at h
  | k + 1, i, acc, m, c :: t, v, n, h => by
    simp only [rvS] at h
    split at h
    · split at h
      · cases h
      · cases h; simp; omega
    · have := rvS_bound k _ _ _ t v n h
      simp; omega
/-- What bytes tell, if they are right: the value of the bytes ahead of an end. -/
def vVal : List UInt8 → Nat
  | [] => 0
  | c :: t => c.toNat % 128 + 128 * vVal t
/-- Bytes that are a number's, but for the last one's being 0. -/
def vFit : List UInt8 → Prop
  | [] => False
  | [c] => c.toNat < 128
  | c :: t => 128 ≤ c.toNat ∧ vFit t
theorem vFit_cons {c : UInt8} {t : List UInt8} (h : t ≠ []) : vFit (c :: t) ↔ 128 ≤ c.toNat ∧ vFit t := by
  cases t with
  | nil => exact absurd rfl h
  | cons x l => exact Iff.rfl
theorem vEnc_ne (n : Nat) : vEnc n ≠ [] := by
  by_cases h : 127 < n
  · rw [vEnc_hi h]; simp
  · rw [vEnc_lo (by omega)]; simp
theorem byte_of {c : UInt8} {n : Nat} (h : c.toNat = n) : UInt8.ofNat n = c := by rw [← h]; simp
theorem vEnc_last : ∀ (n : Nat), ∃ l c, vEnc n = l ++ [c] ∧ (l ≠ [] → c.toNat ≠ 0) := by
  intro n
  induction n using Nat.strongRecOn with
  | _ n ih =>
    by_cases h : 127 < n
    · obtain ⟨l, c, h1, h2⟩ := ih (n / 128) (by omega)
      rw [vEnc_hi h]
      refine ⟨UInt8.ofNat (n % 128 + 128) :: l, c, by rw [h1]; rfl, fun _ => ?_⟩
      by_cases hl : l = []
      · subst hl
        by_cases h3 : 127 < n / 128
        · rw [vEnc_hi h3] at h1
          have := vEnc_ne (n / 128 / 128)
          simp at h1
          exact absurd h1.2 this
        · rw [vEnc_lo (by omega)] at h1
          simp at h1
          rw [← h1]
          simp; omega
      · exact h2 hl
    · rw [vEnc_lo (by omega)]
      exact ⟨[], _, rfl, fun h => absurd rfl h⟩
/-- Right bytes are those that their value's are. -/
theorem vEnc_val : ∀ (t : List UInt8), vFit t → (t.length = 1 ∨ t.getLast?.map UInt8.toNat ≠ some 0) → vEnc (vVal t) = t ∧ (1 < t.length → 0 < vVal t)
  | [], h, _ => h.elim
  | [c], h, _ => by
    have h' : c.toNat < 128 := h
    simp only [vVal, Nat.mul_zero, Nat.add_zero]
    rw [Nat.mod_eq_of_lt h', vEnc_lo (by omega)]
    exact ⟨by rw [byte_of rfl], fun h => by simp at h⟩
  | c :: d :: t, h, hl => by
    obtain ⟨h1, h2⟩ := (vFit_cons (by simp)).1 h
    have hl' : (d :: t).getLast?.map UInt8.toNat ≠ some 0 := by
      rcases hl with hl | hl
      · simp at hl
      · simpa using hl
    obtain ⟨h3, h4⟩ := vEnc_val (d :: t) h2 (.inr hl')
    have hp : 0 < vVal (d :: t) := by
      cases t with
      | nil =>
        simp at hl'
        have h5 : d.toNat < 128 := h2
        simp only [vVal]; omega
      | cons x l => exact h4 (by simp)
    have hc := u8lt c
    simp only [vVal] at hp ⊢
    rw [vEnc_hi (by omega)]
    refine ⟨?_, fun _ => by omega⟩
    rw [show (c.toNat % 128 + 128 * (d.toNat % 128 + 128 * vVal t)) / 128 = d.toNat % 128 + 128 * vVal t by omega]
    rw [show vEnc (d.toNat % 128 + 128 * vVal t) = d :: t from h3, byte_of (c := c) (by omega)]
theorem vEnc_fit : ∀ n : Nat, vFit (vEnc n) ∧ vVal (vEnc n) = n := by
  intro n
  induction n using Nat.strongRecOn with
  | _ n ih =>
    by_cases h : 127 < n
    · obtain ⟨h1, h2⟩ := ih (n / 128) (by omega)
      rw [vEnc_hi h]
      have hb : (UInt8.ofNat (n % 128 + 128)).toNat = n % 128 + 128 := by simp; omega
      refine ⟨(vFit_cons (vEnc_ne _)).2 ⟨by omega, h1⟩, ?_⟩
      simp only [vVal, h2, hb]; omega
    · rw [vEnc_lo (by omega)]
      have hb : (UInt8.ofNat n).toNat = n := by simp; omega
      refine ⟨by simp only [vFit, hb]; omega, ?_⟩
      simp only [vVal, hb]; omega
theorem vVal_app : ∀ (p : List UInt8) (c : UInt8), vVal (p ++ [c]) = vVal p + c.toNat % 128 * 128 ^ p.length
  | [], c => by simp [vVal]
  | x :: p, c => by
    simp only [List.cons_append, vVal, vVal_app p c, List.length_cons, Nat.pow_succ]
    rw [Nat.mul_add, Nat.add_assoc, Nat.mul_comm (128 ^ p.length) 128, ← Nat.mul_assoc, ← Nat.mul_assoc, Nat.mul_comm (c.toNat % 128) 128]
theorem vFit_app : ∀ (p : List UInt8) (c : UInt8), (∀ x ∈ p, 128 ≤ x.toNat) → c.toNat < 128 → vFit (p ++ [c])
  | [], c, _, h => h
  | x :: p, c, hp, h => by
    rw [List.cons_append]
    exact (vFit_cons (by simp)).2 ⟨hp x (by simp), vFit_app p c (fun y hy => hp y (by simp [hy])) h⟩
theorem v_canon {p : List UInt8} {c : UInt8} (hp : ∀ x ∈ p, 128 ≤ x.toNat) (hc : c.toNat < 128) : (vEnc (vVal (p ++ [c])) == p ++ [c]) = !decide (c.toNat = 0 ∧ 0 < p.length) := by
  by_cases h : c.toNat = 0 ∧ 0 < p.length
  · rw [decide_eq_true h]
    obtain ⟨l, d, h1, h2⟩ := vEnc_last (vVal (p ++ [c]))
    rw [Bool.not_true, beq_eq_false_iff_ne]
    intro he
    rw [h1] at he
    have h3 := List.append_inj' he rfl
    have h4 : d = c := by simpa using h3.2
    subst h4
    exact h2 (fun hl => by rw [h3.1] at hl; subst hl; simp at h) h.1
  · rw [decide_eq_false h]
    have := (vEnc_val (p ++ [c]) (vFit_app p c hp hc) (by
      by_cases hl : p = []
      · subst hl; exact .inl rfl
      · refine .inr ?_
        have : 0 < p.length := by cases p with | nil => exact absurd rfl hl | cons => simp
        simp; omega)).1
    rw [this]; simp
theorem l_specVar : ∀ (k e acc m b j : Nat) (a p : List UInt8), k + e = 5 → m = 128 ^ e → p = (a.drop b).take e → p.length = e → (∀ x ∈ p, 128 ≤ x.toNat) → acc = vVal p → acc < m → b ≤ a.length → a.length ≤ 4294967296 → ∃ q, L_spec_ReadVar_1 (k + 1 + j) (a, (b : Int), (acc : Int), (m : Int), ((b + e : Nat) : Int)) = some q ∧ Sum.elim (fun _ => ((0 : Int), (0 : Int), false)) (fun v => v) q = outV b (rvS k e acc m (a.drop (b + e))) := by
  intro k
  induction k with
  | zero =>
    intro e acc m b j a p hk hm hp hpl hp8 hv hacc hb ha
    have he : e = 5 := by omega
    subst he
    rw [show 0 + 1 + j = j + 1 by omega, e_L_spec_ReadVar_1]
    have w1 : IntKind.i64.wrap ((b : Int) + 5) = ((b + 5 : Nat) : Int) := by rw [wrap_ok (by omega) (by omega)]; omega
    simp only [w1, bif_bind, Option.bind_some, Sum.elim_inl, show ¬ ((b + 5 : Nat) : Int) < ((b + 5 : Nat) : Int) by omega, decide_false, cond_false]
    cases decide (((b + 5 : Nat) : Int) < (a.length : Int)) <;> exact ⟨_, rfl, rfl⟩
  | succ k ih =>
    intro e acc m b j a p hk hm hp hpl hp8 hv hacc hb ha
    have he : e ≤ 4 := by omega
    have hmB : m ≤ 268435456 := by
      rw [hm]; exact Nat.le_trans (Nat.pow_le_pow_right (by decide) he) (by decide)
    rw [show k + 1 + 1 + j = (k + 1 + j) + 1 by omega, e_L_spec_ReadVar_1]
    have w1 : IntKind.i64.wrap ((b : Int) + 5) = ((b + 5 : Nat) : Int) := by rw [wrap_ok (by omega) (by omega)]; omega
    have e1 : ((b + e : Nat) : Int) < ((b + 5 : Nat) : Int) := by omega
    by_cases hlt : b + e < a.length
    · have h2 : ((b + e : Nat) : Int) < (a.length : Int) := by omega
      have hd : a.drop (b + e) = a[b + e] :: a.drop (b + e + 1) := by rw [List.drop_eq_getElem_cons hlt]
      have hc := u8lt a[b + e]
      have hsub : (a.drop b).take (e + 1) = p ++ [a[b + e]] := by
        rw [List.take_add_one, ← hp, List.getElem?_drop, List.getElem?_eq_getElem hlt]; rfl
      rw [hd]
      generalize hcc : a[b + e] = c at *
      have w2 : IntKind.i64.wrap (c.toNat : Int) = (c.toNat : Int) := wrap_ok (by omega) (by omega)
      have w4 : IntKind.i64.wrap (((b + e : Nat) : Int) + 1) = ((b + (e + 1) : Nat) : Int) := by
        rw [wrap_ok (by omega) (by omega)]; omega
      simp only [h2, w1, e1, decide_true, cond_true, Option.bind_some, Sum.elim_inl, Int.natCast_nonneg, if_true, Int.toNat_natCast, getD_at hlt, hcc, w2, w4]
      by_cases hs : c.toNat < 128
      · have hp2 : c.toNat * m < 128 * m := Nat.mul_lt_mul_of_pos_right hs (show 0 < m by rw [hm]; exact Nat.pow_pos (by decide))
        have e2 : (c.toNat : Int) < 128 := by omega
        have w3 : IntKind.i64.wrap ((acc : Int) + IntKind.i64.wrap ((c.toNat : Int).tmod 128 * (m : Int))) = ((acc + c.toNat * m : Nat) : Int) := by
          rw [Int.tmod_eq_emod_of_nonneg (by omega), Int.emod_eq_of_lt (by omega) (by omega), wrap_ok (n := (c.toNat : Int) * (m : Int)) (by omega) (by omega), wrap_ok (by omega) (by omega)]; omega
        have hval : vVal (p ++ [c]) = acc + c.toNat * m := by
          rw [vVal_app, Nat.mod_eq_of_lt hs, hpl, ← hm, hv]
        simp only [e2, decide_true, cond_true, w3, rvS, hs, if_true]
        by_cases hbig : 1000000000 < acc + c.toNat * m
        · have e5 : (1000000000 : Int) < ((acc + c.toNat * m : Nat) : Int) := by omega
          simp only [e5, hbig, decide_true, cond_true, Option.bind_some, Sum.elim_inl, or_true, if_true]
          exact ⟨_, rfl, rfl⟩
        · have e5 : ¬ (1000000000 : Int) < ((acc + c.toNat * m : Nat) : Int) := by omega
          have g1 : ((b + (e + 1) : Nat) : Int) ≤ (a.length : Int) := by omega
          have g2 : (b : Int) ≤ ((b + (e + 1) : Nat) : Int) := by omega
          simp only [e5, g1, g2, and_self, true_and, if_true, decide_false, cond_false, v_l01Var (a := ((acc + c.toNat * m : Nat) : Int)) (by omega) (by omega), Option.bind_some, Sum.elim_inl, Int.toNat_natCast]
          rw [List.drop_take, show b + (e + 1) - b = e + 1 by omega, hsub, ← hval, v_canon hp8 hs, hpl]
          by_cases hz : c.toNat = 0 ∧ 0 < e
          · simp only [hz, and_self, decide_true, Bool.not_true, Bool.not_false, cond_true, true_or, if_true]
            exact ⟨_, rfl, rfl⟩
          · rw [if_neg (by rw [hval]; omega)]
            simp only [hz, decide_false, Bool.not_true, Bool.not_false, cond_false]
            exact ⟨_, rfl, by simp only [Sum.elim_inr, outV]; rw [w4]⟩
      · have hp2 : (c.toNat - 128) * m ≤ 127 * m := Nat.mul_le_mul_right _ (by omega)
        have e2 : ¬ (c.toNat : Int) < 128 := by omega
        have hcm : ((c.toNat : Int).tmod 128 * (m : Int)) = (((c.toNat - 128) * m : Nat) : Int) := by
          rw [Int.tmod_eq_emod_of_nonneg (by omega), show (c.toNat : Int) % 128 = ((c.toNat - 128 : Nat) : Int) by omega, Int.natCast_mul]
        have w3 : IntKind.i64.wrap ((acc : Int) + IntKind.i64.wrap ((c.toNat : Int).tmod 128 * (m : Int))) = ((acc + (c.toNat - 128) * m : Nat) : Int) := by
          rw [hcm, wrap_ok (n := (((c.toNat - 128) * m : Nat) : Int)) (by omega) (by omega), wrap_ok (by omega) (by omega)]; omega
        have w5 : IntKind.i64.wrap ((m : Int) * 128) = ((m * 128 : Nat) : Int) := by rw [wrap_ok (by omega) (by omega)]; omega
        simp only [e2, decide_false, cond_false, w3, w5, rvS, hs, if_false]
        refine ih (e + 1) (acc + (c.toNat - 128) * m) (m * 128) b j a (p ++ [c]) (by omega) (by rw [hm, Nat.pow_succ]) hsub.symm (by simp [hpl]) (fun x hx => ?_) ?_ (by omega) hb ha
        · rcases List.mem_append.1 hx with hx | hx
          · exact hp8 x hx
          · simp at hx; subst hx; omega
        · rw [vVal_app, hpl, ← hm, hv, show c.toNat % 128 = c.toNat - 128 by omega]
    · have h2 : ¬ ((b + e : Nat) : Int) < (a.length : Int) := by omega
      simp only [h2, decide_false, cond_false, Option.bind_some, Sum.elim_inl]
      rw [List.drop_eq_nil_of_le (by omega)]
      exact ⟨.inl (), rfl, rfl⟩
theorem v_specVar {a : List UInt8} {b : Nat} (hb : b ≤ a.length) (ha : a.length ≤ 4294967296) : T_spec_ReadVar (a, (b : Int)) = some (outV b (rvS 5 0 0 1 (a.drop b))) := by
  rw [e_T_spec_ReadVar, e_T_spec_l01In]
  have h1 : (0 : Int) ≤ (b : Int) := by omega
  have h2 : (b : Int) ≤ (a.length : Int) := by omega
  obtain ⟨q, h3, h4⟩ := l_specVar 5 0 0 1 b 18446744073709551610 a [] rfl rfl (by simp) rfl (by simp) rfl (by decide) hb ha
  simp only [Nat.add_zero, Int.natCast_zero, Int.natCast_one] at h3 h4
  have h5 : L_spec_ReadVar_1 fuel (a, (b : Int), 0, 1, (b : Int)) = some q := h3
  simp only [h1, h2, decide_true, cond_true, Bool.not_true, cond_false, Option.bind_some, Sum.elim_inl, h5]
  rw [← h4]
  cases q <;> rfl
/-- What is read is what its number's bytes are. -/
theorem rvS_enc : ∀ (k i acc m : Nat) (t p : List UInt8), k + i = 5 → p.length = i → (∀ x ∈ p, 128 ≤ x.toNat) → acc = vVal p → m = 128 ^ i → ∀ v n, rvS k i acc m t = some (v, n) → ∃ q, t = q ++ t.drop (n - i) ∧ q.length = n - i ∧ p ++ q = vEnc v
  | 0, _, _, _, _, _, _, _, _, _, _, v, n, h => by simp [rvS] at h
  | _ + 1, _, _, _, [], _, _, _, _, _, _, v, n, h => by simp [rvS] at h
  | k + 1, i, acc, m, c :: t, p, hk, hpl, hp, hv, hm, v, n, h => by
    simp only [rvS] at h
    split at h
    · rename_i hs
      split at h
      · cases h
      · rename_i hz
        cases h
        refine ⟨[c], by simp, by simp, ?_⟩
        have h1 : vVal (p ++ [c]) = acc + c.toNat * m := by rw [vVal_app, Nat.mod_eq_of_lt hs, hpl, ← hm, hv]
        have h2 := v_canon hp hs
        rw [decide_eq_false (by rw [hpl]; omega), Bool.not_false, beq_iff_eq, h1] at h2
        exact h2.symm
    · rename_i hs
      have hc := u8lt c
      obtain ⟨q, h1, h2, h3⟩ := rvS_enc k (i + 1) _ _ t (p ++ [c]) (by omega) (by simp [hpl]) (fun x hx => by
        rcases List.mem_append.1 hx with hx | hx
        · exact hp x hx
        · simp at hx; subst hx; omega) (by rw [vVal_app, hpl, ← hm, hv, show c.toNat % 128 = c.toNat - 128 by omega]) (by rw [hm, Nat.pow_succ]) v n h
      have hn := (rvS_bound _ _ _ _ _ _ _ h).2.1
      refine ⟨c :: q, ?_, by simp; omega, by rw [← h3]; simp⟩
      rw [show n - i = (n - (i + 1)) + 1 by omega, List.drop_succ_cons, List.cons_append, ← h1]
def numR (a : List UInt8) (p : Nat) (bad : Bool) : Int × List UInt8 × Int × Bool :=
  bif bad then (0, a, (p : Int), true) else match rvS 5 0 0 1 (a.drop p) with
    | none => (0, a, (p : Int), true)
    | some (v, n) => ((v : Int), a, ((p + n : Nat) : Int), false)
theorem n_impl {a : List UInt8} {p : Nat} {bad : Bool} (hp : p ≤ a.length) (ha : a.length ≤ 4294967296) : T___impl_scanner__number (a, (p : Int), bad) = some (numR a p bad) := by
  rw [e_T___impl_scanner__number, v_implVar hp ha]
  cases bad <;> simp only [numR, cond_true, cond_false, Option.bind_some, Sum.elim_inl]
  cases rvS 5 0 0 1 (a.drop p) with
  | none => rfl
  | some q => rfl
theorem n_spec {a : List UInt8} {p : Nat} {bad : Bool} (hp : p ≤ a.length) (ha : a.length ≤ 4294967296) : T_spec_l05Var (a, (p : Int), bad) = some (numR a p bad) := by
  rw [e_T_spec_l05Var, v_specVar hp ha]
  cases bad <;> simp only [numR, cond_true, cond_false, Option.bind_some, Sum.elim_inl]
  cases rvS 5 0 0 1 (a.drop p) with
  | none => rfl
  | some q => rfl
def takR (a : List UInt8) (p : Nat) (bad : Bool) (n : Nat) : List UInt8 × List UInt8 × Int × Bool :=
  bif bad || decide (a.length - p < n) then ([], a, (p : Int), true) else ((a.drop p).take n, a, ((p + n : Nat) : Int), false)
theorem t_impl {a : List UInt8} {p n : Nat} {bad : Bool} (hp : p ≤ a.length) (ha : a.length ≤ 4294967296) (hn : n ≤ 4294967296) : T___impl_scanner__take ((a, (p : Int), bad), (n : Int)) = some (takR a p bad n) := by
  rw [e_T___impl_scanner__take]
  have w1 : IntKind.i64.wrap ((a.length : Int) - (p : Int)) = ((a.length - p : Nat) : Int) := by rw [wrap_ok (by omega) (by omega)]; omega
  have w2 : IntKind.i64.wrap ((p : Int) + (n : Int)) = ((p + n : Nat) : Int) := by rw [wrap_ok (by omega) (by omega)]; omega
  have w3 : IntKind.i64.wrap (((p + n : Nat) : Int) - (n : Int)) = (p : Int) := by rw [wrap_ok (by omega) (by omega)]; omega
  cases bad
  · by_cases h : a.length - p < n
    · have h' : ((a.length - p : Nat) : Int) < (n : Int) := by omega
      simp only [takR, w1, h, h', decide_true, cond_true, cond_false, Bool.false_or, Option.bind_some, Sum.elim_inl]
    · have h' : ¬ ((a.length - p : Nat) : Int) < (n : Int) := by omega
      have g1 : ((p + n : Nat) : Int) ≤ (a.length : Int) := by omega
      have g2 : (p : Int) ≤ ((p + n : Nat) : Int) := by omega
      simp only [takR, w1, w2, w3, h, h', g1, g2, decide_false, cond_false, Bool.false_or, Option.bind_some, Sum.elim_inl, Int.natCast_nonneg, true_and, if_true, Int.toNat_natCast, List.drop_take, Nat.add_sub_cancel_left]
  · rfl
theorem t_spec {a : List UInt8} {p n : Nat} {bad : Bool} (hp : p ≤ a.length) (ha : a.length ≤ 4294967296) (hn : n ≤ 4294967296) : T_spec_l05Take ((a, (p : Int), bad), (n : Int)) = some (takR a p bad n) := by
  have := t_impl (bad := bad) hp ha hn
  rw [e_T___impl_scanner__take] at this
  rw [e_T_spec_l05Take]
  exact this
def oneR (a : List UInt8) (p : Nat) (bad : Bool) : Int × List UInt8 × Int × Bool :=
  bif bad then (0, a, (p : Int), true) else match a.drop p with
    | [] => (0, a, (p : Int), true)
    | c :: _ => ((c.toNat : Int), a, ((p + 1 : Nat) : Int), false)
theorem take_one {a : List UInt8} {p : Nat} (hp : p ≤ a.length) : (takR a p false 1) = match a.drop p with
    | [] => ([], a, (p : Int), true)
    | c :: _ => ([c], a, ((p + 1 : Nat) : Int), false) := by
  unfold takR
  have hl : (a.drop p).length = a.length - p := by simp
  cases hd : a.drop p with
  | nil =>
    rw [hd, List.length_nil] at hl
    have hq : a.length - p < 1 := by omega
    rw [decide_eq_true hq]; rfl
  | cons c t =>
    rw [hd] at hl; simp at hl
    have hq : ¬ a.length - p < 1 := by omega
    rw [decide_eq_false hq]; simp
theorem o_impl {a : List UInt8} {p : Nat} {bad : Bool} (hp : p ≤ a.length) (ha : a.length ≤ 4294967296) : T___impl_scanner__octet (a, (p : Int), bad) = some (oneR a p bad) := by
  rw [e_T___impl_scanner__octet, show (1 : Int) = ((1 : Nat) : Int) from rfl, t_impl hp ha (by decide)]
  cases bad
  · rw [take_one hp]
    unfold oneR
    cases a.drop p with
    | nil => rfl
    | cons c t =>
      have hc := u8lt c
      simp only [Option.bind_some, List.length_singleton, cond_false]
      simp only [show ([c] == ([] : List UInt8)) = false from rfl, cond_false]
      rw [if_pos (by decide)]
      simp only [List.getD_cons_zero]
      rw [wrap_ok (by omega) (by omega)]
  · rfl
theorem o_spec {a : List UInt8} {p : Nat} {bad : Bool} (hp : p ≤ a.length) (ha : a.length ≤ 4294967296) : T_spec_l05One (a, (p : Int), bad) = some (oneR a p bad) := by
  rw [e_T_spec_l05One, show (1 : Int) = ((1 : Nat) : Int) from rfl, t_spec hp ha (by decide)]
  cases bad
  · rw [take_one hp]
    unfold oneR
    cases a.drop p with
    | nil => rfl
    | cons c t =>
      have hc := u8lt c
      simp only [Option.bind_some, List.length_singleton, cond_false]
      rw [if_pos (by decide)]
      simp only [List.getD_cons_zero]
      rw [wrap_ok (by omega) (by omega)]
  · rfl
/-- A text with its length ahead; the program wants it short. -/
def shR (lim : Nat) (a : List UInt8) (p : Nat) (bad : Bool) : List UInt8 × List UInt8 × Int × Bool :=
  bif bad then ([], a, (p : Int), true) else match rvS 5 0 0 1 (a.drop p) with
    | none => ([], a, (p : Int), true)
    | some (v, n) => takR a (p + n) (decide (lim < v)) v
theorem rv_le {a : List UInt8} {p v n : Nat} (hp : p ≤ a.length) (h : rvS 5 0 0 1 (a.drop p) = some (v, n)) : v ≤ 1000000000 ∧ 0 < n ∧ p + n ≤ a.length := by
  have := rvS_bound _ _ _ _ _ _ _ h
  rw [List.length_drop] at this
  omega
theorem s_impl {a : List UInt8} {p : Nat} {bad : Bool} (hp : p ≤ a.length) (ha : a.length ≤ 4294967296) : T___impl_scanner__short (a, (p : Int), bad) = some (shR 20000 a p bad) := by
  rw [e_T___impl_scanner__short, n_impl hp ha]
  cases bad
  · simp only [numR, shR, cond_false, Option.bind_some]
    cases hr : rvS 5 0 0 1 (a.drop p) with
    | none =>
      simp only [show ¬ (20000 : Int) < 0 by decide, decide_false, cond_false, Option.bind_some, Sum.elim_inl]
      rw [show (0 : Int) = ((0 : Nat) : Int) from rfl, t_impl hp ha (by decide)]
      rfl
    | some q =>
      obtain ⟨v, n⟩ := q
      obtain ⟨h1, h2, h3⟩ := rv_le hp hr
      by_cases h : 20000 < v
      · have h' : (20000 : Int) < (v : Int) := by omega
        simp only [h, h', decide_true, cond_true, Option.bind_some, Sum.elim_inl]
        rw [t_impl h3 ha (by omega)]; rfl
      · have h' : ¬ (20000 : Int) < (v : Int) := by omega
        simp only [h, h', decide_false, cond_false, Option.bind_some, Sum.elim_inl]
        rw [t_impl h3 ha (by omega)]; rfl
  · simp only [numR, shR, cond_true, Option.bind_some, show ¬ (20000 : Int) < 0 by decide, decide_false, cond_false, Sum.elim_inl]
    rw [show (0 : Int) = ((0 : Nat) : Int) from rfl, t_impl hp ha (by decide)]
    rfl
theorem s_spec {a : List UInt8} {p : Nat} {bad : Bool} (hp : p ≤ a.length) (ha : a.length ≤ 4294967296) : T_spec_l05ReadShort (a, (p : Int), bad) = some (shR 1000000000 a p bad) := by
  rw [e_T_spec_l05ReadShort, n_spec hp ha]
  cases bad
  · simp only [numR, shR, cond_false, Option.bind_some]
    cases hr : rvS 5 0 0 1 (a.drop p) with
    | none =>
      simp only [Option.bind_some]
      rw [show (0 : Int) = ((0 : Nat) : Int) from rfl, t_spec hp ha (by decide)]
      rfl
    | some q =>
      obtain ⟨v, n⟩ := q
      obtain ⟨h1, h2, h3⟩ := rv_le hp hr
      simp only [Option.bind_some]
      have hv : ¬ 1000000000 < v := by omega
      rw [t_spec h3 ha (by omega), decide_eq_false hv]; rfl
  · simp only [numR, shR, cond_true, Option.bind_some]
    rw [show (0 : Int) = ((0 : Nat) : Int) from rfl, t_spec hp ha (by decide)]
    rfl
theorem v_byte {d : Int} (h0 : 0 ≤ d) (h1 : d < 256) : T_spec_l05Byte d = some [UInt8.ofNat d.toNat] := by
  rw [e_T_spec_l05Byte, u8w h0 h1]; rfl
theorem v_short {t : List UInt8} (h : t.length ≤ 1048576) : T_spec_l05Short t = some (vEnc t.length ++ t) := by
  rw [e_T_spec_l05Short, v_l01Var (by omega) (by omega)]
  have := vEnc_len t.length
  simp only [Option.bind_some, Int.toNat_natCast]
  rw [if_neg (by omega)]
theorem bad_num {a : List UInt8} {p : Nat} : numR a p true = (0, a, (p : Int), true) := rfl
theorem bad_one {a : List UInt8} {p : Nat} : oneR a p true = (0, a, (p : Int), true) := rfl
theorem bad_sh {a : List UInt8} {p n : Nat} : shR n a p true = ([], a, (p : Int), true) := rfl
theorem bad_tak {a : List UInt8} {p n : Nat} : takR a p true n = ([], a, (p : Int), true) := rfl
theorem num_enc {a : List UInt8} {p v n : Nat} (h : rvS 5 0 0 1 (a.drop p) = some (v, n)) : a.drop p = vEnc v ++ a.drop (p + n) := by
  obtain ⟨q, h1, h2, h3⟩ := rvS_enc 5 0 0 1 _ [] rfl rfl (by simp) rfl rfl v n h
  rw [List.nil_append] at h3
  rw [Nat.sub_zero, List.drop_drop, h3] at h1
  exact h1
/-- From p to p' the text reads t. -/
def Rd (a : List UInt8) (p p' : Nat) (t : List UInt8) : Prop := p' ≤ a.length ∧ a.drop p = t ++ a.drop p'
theorem Rd.refl {a : List UInt8} {p : Nat} (h : p ≤ a.length) : Rd a p p [] := ⟨h, rfl⟩
theorem Rd.trans {a s t : List UInt8} {p q r : Nat} (h1 : Rd a p q s) (h2 : Rd a q r t) : Rd a p r (s ++ t) := ⟨h2.1, by rw [h1.2, h2.2, List.append_assoc]⟩
theorem Rd.all {a t : List UInt8} {p : Nat} (h : Rd a 0 p t) : (t == a) = ((p : Int) == (a.length : Int)) := by
  obtain ⟨h1, h2⟩ := h
  rw [List.drop_zero] at h2
  by_cases hp : p = a.length
  · rw [List.drop_eq_nil_of_le (by omega), List.append_nil] at h2
    rw [← h2, hp]; simp
  · have h3 : ¬ t = a := fun e => by
      have := congrArg List.length h2
      rw [e] at this
      simp at this; omega
    rw [beq_eq_false_iff_ne.2 h3, beq_eq_false_iff_ne.2 (by omega)]
/-- A step of the reference and of the program beside each other. E: they agree; F: what alone the program refuses. -/
structure Stp (a : List UInt8) (p q : Nat) (bs bi : Bool) (p' q' : Nat) (bs' bi' : Bool) (t : List UInt8) (E F : Prop) : Prop where
  hp : p' ≤ a.length
  hq : q' ≤ a.length
  go : bi' = false → bi = false ∧ bs' = false ∧ q' = p' ∧ E
  rd : bs' = false → bs = false ∧ Rd a p p' t
  far : bs' = false → bi = false → bi' = true → F
theorem Stp.trans {a t1 t2 : List UInt8} {p q p1 q1 p2 q2 : Nat} {bs bi bs1 bi1 bs2 bi2 : Bool} {E1 E2 F1 F2 : Prop} (h1 : Stp a p q bs bi p1 q1 bs1 bi1 t1 E1 F1) (h2 : Stp a p1 q1 bs1 bi1 p2 q2 bs2 bi2 t2 E2 F2) :
    Stp a p q bs bi p2 q2 bs2 bi2 (t1 ++ t2) (E1 ∧ E2) (F1 ∨ F2) := by
  refine ⟨h2.hp, h2.hq, fun h => ?_, fun h => ?_, fun h h0 h' => ?_⟩
  · obtain ⟨g1, g2, g3, g4⟩ := h2.go h
    obtain ⟨k1, k2, k3, k4⟩ := h1.go g1
    exact ⟨k1, g2, g3, k4, g4⟩
  · obtain ⟨g1, g2⟩ := h2.rd h
    obtain ⟨k1, k2⟩ := h1.rd g1
    exact ⟨k1, k2.trans g2⟩
  · cases hb : bi1 with
    | true => exact .inl (h1.far (h2.rd h).1 h0 hb)
    | false => exact .inr (h2.far h hb h')
theorem Stp.mono {a t : List UInt8} {p q p1 q1 : Nat} {bs bi bs1 bi1 : Bool} {E E' F F' : Prop} (h : Stp a p q bs bi p1 q1 bs1 bi1 t E F) (hE : E → E') (hF : F → F') : Stp a p q bs bi p1 q1 bs1 bi1 t E' F' :=
  ⟨h.hp, h.hq, fun e => by obtain ⟨g1, g2, g3, g4⟩ := h.go e; exact ⟨g1, g2, g3, hE g4⟩, h.rd, fun e1 e2 e3 => hF (h.far e1 e2 e3)⟩
theorem oneR_rd {a : List UInt8} {p : Nat} {b : Bool} (hp : p ≤ a.length) : ∃ (d p' : Nat) (b' : Bool), oneR a p b = ((d : Int), a, (p' : Int), b') ∧ p' ≤ a.length ∧ d < 256 ∧ (b' = false → b = false ∧ Rd a p p' [UInt8.ofNat d]) := by
  cases b with
  | true => exact ⟨0, p, true, rfl, hp, by decide, fun h => by cases h⟩
  | false =>
    unfold oneR
    have hl : (a.drop p).length = a.length - p := by simp
    cases hd : a.drop p with
    | nil => exact ⟨0, p, true, rfl, hp, by decide, fun h => by cases h⟩
    | cons c t =>
      rw [hd, List.length_cons] at hl
      refine ⟨c.toNat, p + 1, false, rfl, by omega, u8lt c, fun _ => ⟨rfl, by omega, ?_⟩⟩
      rw [byte_of (c := c) rfl, hd, ← List.drop_drop, hd]; rfl
theorem one_step {a : List UInt8} {p q : Nat} {bs bi : Bool} (ha : a.length ≤ 4294967296) (hp : p ≤ a.length) (hq : q ≤ a.length) (hl : bi = false → bs = false ∧ q = p) :
    ∃ (d u p' q' : Nat) (bs' bi' : Bool), T_spec_l05One (a, (p : Int), bs) = some ((d : Int), a, (p' : Int), bs') ∧ T___impl_scanner__octet (a, (q : Int), bi) = some ((u : Int), a, (q' : Int), bi') ∧ d < 256 ∧ u < 256 ∧
      Stp a p q bs bi p' q' bs' bi' [UInt8.ofNat d] (u = d) False := by
  obtain ⟨d, p', bs', h1, h2, h3, h4⟩ := oneR_rd (b := bs) hp
  cases bi with
  | true => exact ⟨d, 0, p', q, bs', true, by rw [o_spec hp ha, h1], by rw [o_impl hq ha]; rfl, h3, by decide, h2, hq, fun h => (by cases h), h4, fun _ h => (by cases h)⟩
  | false =>
    obtain ⟨rfl, rfl⟩ := hl rfl
    exact ⟨d, d, p', p', bs', bs', by rw [o_spec hp ha, h1], by rw [o_impl hp ha, h1], h3, h3, h2, h2, fun h => ⟨rfl, h, rfl, rfl⟩, h4, fun h1 _ h2 => by rw [h1] at h2; cases h2⟩
theorem numR_rd {a : List UInt8} {p : Nat} {b : Bool} (hp : p ≤ a.length) : ∃ (v p' : Nat) (b' : Bool), numR a p b = ((v : Int), a, (p' : Int), b') ∧ p' ≤ a.length ∧ v ≤ 1000000000 ∧ (b' = false → b = false ∧ Rd a p p' (vEnc v)) := by
  cases b with
  | true => exact ⟨0, p, true, rfl, hp, by decide, fun h => by cases h⟩
  | false =>
    unfold numR
    cases hr : rvS 5 0 0 1 (a.drop p) with
    | none => exact ⟨0, p, true, rfl, hp, by decide, fun h => by cases h⟩
    | some q =>
      obtain ⟨v, n⟩ := q
      obtain ⟨h1, h2, h3⟩ := rv_le hp hr
      exact ⟨v, p + n, false, rfl, h3, h1, fun _ => ⟨rfl, h3, num_enc hr⟩⟩
theorem num_step {a : List UInt8} {p q : Nat} {bs bi : Bool} (ha : a.length ≤ 4294967296) (hp : p ≤ a.length) (hq : q ≤ a.length) (hl : bi = false → bs = false ∧ q = p) :
    ∃ (v u p' q' : Nat) (bs' bi' : Bool), T_spec_l05Var (a, (p : Int), bs) = some ((v : Int), a, (p' : Int), bs') ∧ T___impl_scanner__number (a, (q : Int), bi) = some ((u : Int), a, (q' : Int), bi') ∧ v ≤ 1000000000 ∧ u ≤ 1000000000 ∧
      Stp a p q bs bi p' q' bs' bi' (vEnc v) (u = v) False := by
  obtain ⟨d, p', bs', h1, h2, h3, h4⟩ := numR_rd (b := bs) hp
  cases bi with
  | true => exact ⟨d, 0, p', q, bs', true, by rw [n_spec hp ha, h1], by rw [n_impl hq ha]; rfl, h3, by decide, h2, hq, fun h => (by cases h), h4, fun _ h => (by cases h)⟩
  | false =>
    obtain ⟨rfl, rfl⟩ := hl rfl
    exact ⟨d, d, p', p', bs', bs', by rw [n_spec hp ha, h1], by rw [n_impl hp ha, h1], h3, h3, h2, h2, fun h => ⟨rfl, h, rfl, rfl⟩, h4, fun h1 _ h2 => by rw [h1] at h2; cases h2⟩
/-- A text with its length ahead. -/
def shT (t : List UInt8) : List UInt8 := vEnc t.length ++ t
theorem shR_rd {a : List UInt8} {p lim : Nat} {b : Bool} (hp : p ≤ a.length) : ∃ (t : List UInt8) (p' : Nat) (b' : Bool), shR lim a p b = (t, a, (p' : Int), b') ∧ p' ≤ a.length ∧ t.length ≤ a.length ∧ (b' = false → b = false ∧ t.length ≤ lim ∧ Rd a p p' (shT t)) := by
  cases b with
  | true => exact ⟨[], p, true, rfl, hp, by simp, fun h => by cases h⟩
  | false =>
    unfold shR
    cases hr : rvS 5 0 0 1 (a.drop p) with
    | none => exact ⟨[], p, true, rfl, hp, by simp, fun h => by cases h⟩
    | some q =>
      obtain ⟨v, n⟩ := q
      obtain ⟨h1, h2, h3⟩ := rv_le hp hr
      simp only [cond_false, takR]
      by_cases hc : (decide (lim < v) || decide (a.length - (p + n) < v)) = true
      · rw [hc]; exact ⟨[], p + n, true, rfl, h3, by simp, fun h => by cases h⟩
      · rw [Bool.not_eq_true] at hc
        rw [hc]
        simp only [Bool.or_eq_false_iff, decide_eq_false_iff_not] at hc
        have hz : ((a.drop (p + n)).take v).length = v := by simp; omega
        refine ⟨(a.drop (p + n)).take v, p + n + v, false, rfl, by omega, by omega, fun _ => ⟨by first | rfl | trivial, by omega, by omega, ?_⟩⟩
        rw [shT, hz, num_enc hr, List.append_assoc, ← List.drop_drop (i := v), List.take_append_drop]
theorem sh_step {a : List UInt8} {p q : Nat} {bs bi : Bool} (ha : a.length ≤ 4294967296) (hp : p ≤ a.length) (hq : q ≤ a.length) (hl : bi = false → bs = false ∧ q = p) :
    ∃ (t u : List UInt8) (p' q' : Nat) (bs' bi' : Bool), T_spec_l05ReadShort (a, (p : Int), bs) = some (t, a, (p' : Int), bs') ∧ T___impl_scanner__short (a, (q : Int), bi) = some (u, a, (q' : Int), bi') ∧ t.length ≤ a.length ∧ u.length ≤ a.length ∧
      Stp a p q bs bi p' q' bs' bi' (shT t) (u = t ∧ u.length ≤ 20000) (20000 < t.length) := by
  obtain ⟨d, p', bs', h1, h2, h3, h4⟩ := shR_rd (lim := 1000000000) (b := bs) hp
  have h4' : bs' = false → bs = false ∧ Rd a p p' (shT d) := fun h => ⟨(h4 h).1, (h4 h).2.2⟩
  cases bi with
  | true => exact ⟨d, [], p', q, bs', true, by rw [s_spec hp ha, h1], by rw [s_impl hq ha]; rfl, h3, by simp, h2, hq, fun h => (by cases h), h4', fun _ h => (by cases h)⟩
  | false =>
    obtain ⟨rfl, rfl⟩ := hl rfl
    obtain ⟨u, q', bi', g1, g2, g3, g4⟩ := shR_rd (lim := 20000) (b := false) hp
    refine ⟨d, u, p', q', bs', bi', by rw [s_spec hp ha, h1], by rw [s_impl hp ha, g1], h3, g3, h2, g2, fun h => ?_, h4', fun e1 _ e2 => ?_⟩
    · have hu := (g4 h).2.1
      simp only [shR, cond_false] at h1 g1
      cases hr : rvS 5 0 0 1 (a.drop q) with
      | none => rw [hr] at g1; simp only [Prod.mk.injEq] at g1; rw [← g1.2.2.2] at h; cases h
      | some x =>
        obtain ⟨v, n⟩ := x
        rw [hr] at g1 h1
        obtain ⟨k1, k2, k3⟩ := rv_le hp hr
        have hv : ¬ 20000 < v := fun hv => by
          simp only [takR, decide_eq_true hv, Bool.true_or, cond_true, Prod.mk.injEq] at g1
          rw [← g1.2.2.2] at h; cases h
        simp only [decide_eq_false hv] at g1
        simp only [decide_eq_false (show ¬ 1000000000 < v by omega)] at h1
        rw [h1] at g1
        simp only [Prod.mk.injEq, Int.natCast_inj] at g1
        obtain ⟨e1, _, e2, e3⟩ := g1
        exact ⟨rfl, by rw [e3]; exact h, e2.symm, e1.symm, hu⟩
    · simp only [shR, cond_false] at h1 g1
      cases hr : rvS 5 0 0 1 (a.drop q) with
      | none => rw [hr] at h1; simp only [Prod.mk.injEq] at h1; rw [← h1.2.2.2] at e1; cases e1
      | some x =>
        obtain ⟨v, n⟩ := x
        rw [hr] at g1 h1
        obtain ⟨k1, k2, k3⟩ := rv_le hp hr
        simp only [decide_eq_false (show ¬ 1000000000 < v by omega)] at h1
        by_cases hv : 20000 < v
        · simp only [takR, Bool.false_or] at h1
          by_cases hc : a.length - (q + n) < v
          · simp only [decide_eq_true hc, cond_true, Prod.mk.injEq] at h1
            rw [← h1.2.2.2] at e1; cases e1
          · simp only [decide_eq_false hc, cond_false, Prod.mk.injEq] at h1
            rw [← h1.1]; simp; omega
        · simp only [decide_eq_false hv] at g1
          rw [h1] at g1
          simp only [Prod.mk.injEq] at g1
          rw [g1.2.2.2] at e1
          rw [e1] at e2; cases e2
theorem vEnc_len5 : ∀ (k n : Nat), n < 128 ^ (k + 1) → (vEnc n).length ≤ k + 1
  | 0, n, h => by rw [vEnc_lo (by simp at h; omega)]; simp
  | k + 1, n, h => by
    by_cases hn : 127 < n
    · rw [vEnc_hi hn, List.length_cons]
      have := vEnc_len5 k (n / 128) (by rw [Nat.pow_succ] at h; omega)
      omega
    · rw [vEnc_lo (by omega)]; simp
theorem vEnc_l5 {n : Nat} (h : n ≤ 1000000000) : (vEnc n).length ≤ 5 := vEnc_len5 4 n (by have : (128 : Nat) ^ 5 = 34359738368 := rfl; omega)
/-- Numbers, one behind the other. -/
def NRun (T : List UInt8 × Int × Bool → Option (Int × List UInt8 × Int × Bool)) (a : List UInt8) : Nat → Nat → Bool → List Int → Nat → Bool → Prop
  | 0, p, b, ts, p', b' => ts = [] ∧ p' = p ∧ b' = b
  | n + 1, p, b, ts, p', b' => ∃ (t : Int) (l : List Int) (p1 : Nat) (b1 : Bool), ts = t :: l ∧ T (a, (p : Int), b) = some (t, a, (p1 : Int), b1) ∧ p1 ≤ a.length ∧ (b1 = false → b = false) ∧ NRun T a n p1 b1 l p' b'
theorem NRun.clear {T : List UInt8 × Int × Bool → Option (Int × List UInt8 × Int × Bool)} {a : List UInt8} : ∀ {n p : Nat} {b : Bool} {ts : List Int} {p' : Nat} {b' : Bool}, NRun T a n p b ts p' b' → b' = false → b = false
  | 0, _, _, _, _, _, h, h' => by rw [← h.2.2]; exact h'
  | n + 1, _, _, _, _, _, h, h' => by
    obtain ⟨t, l, p1, b1, _, _, _, h1, h2⟩ := h
    exact h1 (h2.clear h')
theorem nums_step {a : List UInt8} (ha : a.length ≤ 4294967296) : ∀ (n p q : Nat) (bs bi : Bool), p ≤ a.length → q ≤ a.length → (bi = false → bs = false ∧ q = p) →
    ∃ (ts us : List Int) (p' q' : Nat) (bs' bi' : Bool), NRun T_spec_l05Var a n p bs ts p' bs' ∧ NRun T___impl_scanner__number a n q bi us q' bi' ∧ ts.length = n ∧ us.length = n ∧ (∀ t ∈ ts, 0 ≤ t ∧ t ≤ 1000000000) ∧
      Stp a p q bs bi p' q' bs' bi' (ts.flatMap fun t => vEnc t.toNat) (us = ts) False
  | 0, p, q, bs, bi, hp, hq, hl => ⟨[], [], p, q, bs, bi, ⟨rfl, rfl, rfl⟩, ⟨rfl, rfl, rfl⟩, rfl, rfl, by simp, hp, hq, fun h => ⟨h, (hl h).1, (hl h).2, rfl⟩, fun h => ⟨h, Rd.refl hp⟩, fun _ h1 h2 => by rw [h1] at h2; cases h2⟩
  | n + 1, p, q, bs, bi, hp, hq, hl => by
    obtain ⟨t, u, p1, q1, bs1, bi1, e1, e2, l1, l2, S⟩ := num_step ha hp hq hl
    obtain ⟨ts, us, p2, q2, bs2, bi2, r1, r2, g1, g2, g3, S2⟩ := nums_step ha n p1 q1 bs1 bi1 S.hp S.hq (fun h => ⟨(S.go h).2.1, (S.go h).2.2.1⟩)
    refine ⟨(t : Int) :: ts, (u : Int) :: us, p2, q2, bs2, bi2, ⟨t, ts, p1, bs1, rfl, e1, S.hp, fun h => (S.rd h).1, r1⟩, ⟨u, us, q1, bi1, rfl, e2, S.hq, fun h => (S.go h).1, r2⟩, by simp [g1], by simp [g2], ?_, (S.trans S2).mono ?_ ?_⟩
    · intro x hx
      rcases List.mem_cons.1 hx with rfl | hx
      · omega
      · exact g3 x hx
    · rintro ⟨rfl, rfl⟩; rfl
    · rintro (h | h) <;> exact h
/-- Texts with their lengths ahead, one behind the other. -/
def SRun (T : List UInt8 × Int × Bool → Option (List UInt8 × List UInt8 × Int × Bool)) (a : List UInt8) : Nat → Nat → Bool → List (List UInt8) → Nat → Bool → Prop
  | 0, p, b, ts, p', b' => ts = [] ∧ p' = p ∧ b' = b
  | n + 1, p, b, ts, p', b' => ∃ (t : List UInt8) (l : List (List UInt8)) (p1 : Nat) (b1 : Bool), ts = t :: l ∧ T (a, (p : Int), b) = some (t, a, (p1 : Int), b1) ∧ p1 ≤ a.length ∧ t.length ≤ a.length ∧ (b1 = false → b = false) ∧ SRun T a n p1 b1 l p' b'
theorem SRun.clear {T : List UInt8 × Int × Bool → Option (List UInt8 × List UInt8 × Int × Bool)} {a : List UInt8} : ∀ {n p : Nat} {b : Bool} {ts : List (List UInt8)} {p' : Nat} {b' : Bool}, SRun T a n p b ts p' b' → b' = false → b = false
  | 0, _, _, _, _, _, h, h' => by rw [← h.2.2]; exact h'
  | n + 1, _, _, _, _, _, h, h' => by
    obtain ⟨t, l, p1, b1, _, _, _, _, h1, h2⟩ := h
    exact h1 (h2.clear h')
theorem shs_step {a : List UInt8} (ha : a.length ≤ 4294967296) : ∀ (n p q : Nat) (bs bi : Bool), p ≤ a.length → q ≤ a.length → (bi = false → bs = false ∧ q = p) →
    ∃ (ts us : List (List UInt8)) (p' q' : Nat) (bs' bi' : Bool), SRun T_spec_l05ReadShort a n p bs ts p' bs' ∧ SRun T___impl_scanner__short a n q bi us q' bi' ∧ ts.length = n ∧ us.length = n ∧ (∀ t ∈ ts, t.length ≤ a.length) ∧ (∀ t ∈ us, t.length ≤ a.length) ∧
      Stp a p q bs bi p' q' bs' bi' (ts.flatMap shT) (us = ts ∧ ∀ t ∈ us, t.length ≤ 20000) (∃ t ∈ ts, 20000 < t.length)
  | 0, p, q, bs, bi, hp, hq, hl => ⟨[], [], p, q, bs, bi, ⟨rfl, rfl, rfl⟩, ⟨rfl, rfl, rfl⟩, rfl, rfl, by simp, by simp, hp, hq, fun h => ⟨h, (hl h).1, (hl h).2, rfl, by simp⟩, fun h => ⟨h, Rd.refl hp⟩, fun _ h1 h2 => by rw [h1] at h2; cases h2⟩
  | n + 1, p, q, bs, bi, hp, hq, hl => by
    obtain ⟨t, u, p1, q1, bs1, bi1, e1, e2, l1, l2, S⟩ := sh_step ha hp hq hl
    obtain ⟨ts, us, p2, q2, bs2, bi2, r1, r2, g1, g2, g3, g4, S2⟩ := shs_step ha n p1 q1 bs1 bi1 S.hp S.hq (fun h => ⟨(S.go h).2.1, (S.go h).2.2.1⟩)
    refine ⟨t :: ts, u :: us, p2, q2, bs2, bi2, ⟨t, ts, p1, bs1, rfl, e1, S.hp, l1, fun h => (S.rd h).1, r1⟩, ⟨u, us, q1, bi1, rfl, e2, S.hq, l2, fun h => (S.go h).1, r2⟩, by simp [g1], by simp [g2], ?_, ?_, (S.trans S2).mono ?_ ?_⟩
    · intro x hx
      rcases List.mem_cons.1 hx with rfl | hx
      · exact l1
      · exact g3 x hx
    · intro x hx
      rcases List.mem_cons.1 hx with rfl | hx
      · exact l2
      · exact g4 x hx
    · rintro ⟨⟨rfl, h1⟩, rfl, h2⟩
      refine ⟨rfl, fun x hx => ?_⟩
      rcases List.mem_cons.1 hx with rfl | hx
      · exact h1
      · exact h2 x hx
    · rintro (h | ⟨x, hx, h⟩)
      · exact ⟨t, by simp, h⟩
      · exact ⟨x, by simp [hx], h⟩
theorem im_names {a : List UInt8} {n : Nat} (hn : n ≤ 1000000) : ∀ (m i q : Nat) (b : Bool) (us ts : List (List UInt8)) (q' : Nat) (b' : Bool) (f : Nat), m < f → i + m = n → us.length = i → SRun T___impl_scanner__short a m q b ts q' b' →
    L___impl_scanner__names_1 f ((a, (q : Int), b), us, (n : Int), (i : Int)) = some (.inl ((a, (q' : Int), b'), us ++ ts))
  | 0, i, q, b, us, ts, q', b', f, hf, hi, hu, h => by
    obtain ⟨f, rfl⟩ : ∃ g, f = g + 1 := ⟨f - 1, by omega⟩
    obtain ⟨rfl, rfl, rfl⟩ := h
    rw [e_L___impl_scanner__names_1, decide_eq_false (by omega), List.append_nil]; rfl
  | m + 1, i, q, b, us, ts, q', b', f, hf, hi, hu, h => by
    obtain ⟨f, rfl⟩ : ∃ g, f = g + 1 := ⟨f - 1, by omega⟩
    obtain ⟨t, l, p1, b1, rfl, h1, h2, h3, h4, h5⟩ := h
    have ih := im_names hn m (i + 1) p1 b1 (us ++ [t]) l q' b' f (by omega) (by omega) (by simp [hu]) h5
    rw [e_L___impl_scanner__names_1, decide_eq_true (by omega), cond_true, h1, Option.bind_some]
    simp only [List.length_cons, List.length_nil]
    rw [if_pos ⟨by omega, by omega⟩, wrap_ok (by omega) (by omega)]
    rw [List.append_assoc] at ih
    exact ih
theorem v_fig {r : Nat} (h : r < 10) : T_spec_l01Figure (r : Int) = some ((48 + r : Nat) : Int) := by
  rw [e_T_spec_l01Figure, decide_eq_true (by omega), cond_true, wrap_ok (by omega) (by omega), u8w (by omega) (by omega)]
  simp only [Option.some.injEq]; omega
theorem digs_len : ∀ (k u : Nat), u < 10 ^ (k + 1) → (Lib.decDigits u).length ≤ k + 1
  | 0, u, h => by rw [Lib.decDigits, dif_pos (by simpa using h)]; simp
  | k + 1, u, h => by
    rw [Lib.decDigits]
    split
    · simp
    · have := digs_len k (u / 10) (by rw [Nat.pow_succ] at h; omega)
      rw [List.length_append, List.length_singleton]; omega
theorem itoa_len {a : Int} (h0 : -9223372036854775808 ≤ a) (h1 : a ≤ 9223372036854775807) : (Lib.itoa a).length ≤ 20 := by
  have hp : (10 : Nat) ^ 19 = 10000000000000000000 := by decide
  unfold Lib.itoa
  split
  · have := digs_len 18 a.natAbs (by omega)
    rw [List.length_cons]; omega
  · have := digs_len 18 a.toNat (by omega)
    omega
theorem l_dec : ∀ (k n : Nat) (a : Int) (neg : Bool) (acc : List UInt8), a.natAbs < 10 ^ k → k ≤ 19 → k < n → acc.length + k ≤ 1000 → L_spec_Decimal_1 n (a, neg, acc) = some (.inl (neg, (if a.natAbs = 0 then [] else Lib.decDigits a.natAbs) ++ acc))
  | k, n, a, neg, acc, ha, hk, hn, hl => by
    obtain ⟨n, rfl⟩ : ∃ j, n = j + 1 := ⟨n - 1, by omega⟩
    rw [e_L_spec_Decimal_1]
    by_cases h0 : a = 0
    · subst h0; rfl
    · have hne : (a == 0) = false := beq_eq_false_iff_ne.2 h0
      obtain ⟨k, rfl⟩ : ∃ j, k = j + 1 := ⟨k - 1, by
        cases k with
        | zero => simp at ha; omega
        | succ k => omega⟩
      have hp : (10 : Nat) ^ (k + 1) ≤ 10 ^ 19 := Nat.pow_le_pow_right (by decide) hk
      have hp2 : (10 : Nat) ^ 19 = 10000000000000000000 := by decide
      have hu : a.natAbs / 10 < 10 ^ k := by rw [Nat.pow_succ] at ha; omega
      have hdig : (bif decide (a.tmod 10 < 0) then some (Sum.inl (a, neg, acc, IntKind.i64.wrap (0 - a.tmod 10))) else some (Sum.inl (a, neg, acc, a.tmod 10))) = (some (Sum.inl (a, neg, acc, ((a.natAbs % 10 : Nat) : Int))) : Option ((Int × Bool × List UInt8 × Int) ⊕ ((Bool × List UInt8) ⊕ (List UInt8)))) := by
        by_cases hs : 0 ≤ a
        · obtain ⟨u, rfl⟩ : ∃ u : Nat, a = (u : Int) := ⟨a.toNat, by omega⟩
          rw [Int.tmod_eq_emod_of_nonneg (by omega), decide_eq_false (by omega), cond_false]
          have : ((u : Int) % 10) = (((u : Int).natAbs % 10 : Nat) : Int) := by omega
          rw [this]
        · obtain ⟨u, rfl⟩ : ∃ u : Nat, a = -(u : Int) := ⟨a.natAbs, by omega⟩
          rw [Int.neg_tmod, Int.tmod_eq_emod_of_nonneg (by omega)]
          have e1 : (((-(u : Int)).natAbs % 10 : Nat) : Int) = (u : Int) % 10 := by omega
          rw [e1]
          by_cases hz : (u : Int) % 10 = 0
          · rw [hz]; rfl
          · rw [decide_eq_true (by omega), cond_true, wrap_ok (by omega) (by omega)]
            have : (0 : Int) - -((u : Int) % 10) = (u : Int) % 10 := by omega
            rw [this]
      have hdiv : (IntKind.i64.wrap (a.tdiv 10)).natAbs = a.natAbs / 10 ∧ IntKind.i64.wrap (a.tdiv 10) = a.tdiv 10 := by
        by_cases hs : 0 ≤ a
        · rw [Int.tdiv_eq_ediv_of_nonneg hs, wrap_ok (by omega) (by omega)]
          exact ⟨by omega, rfl⟩
        · obtain ⟨u, rfl⟩ : ∃ u : Nat, a = -(u : Int) := ⟨a.natAbs, by omega⟩
          rw [Int.neg_tdiv, Int.tdiv_eq_ediv_of_nonneg (by omega), wrap_ok (by omega) (by omega)]
          exact ⟨by omega, rfl⟩
      rw [hne]
      simp only [Bool.not_false, cond_true]
      rw [hdig]
      simp only [Option.bind_some, Sum.elim_inl, v_fig (Nat.mod_lt _ (by decide)), List.map_cons, List.map_nil, List.length_singleton, Int.toNat_natCast]
      rw [if_neg (by omega), l_dec k n _ neg _ (by rw [hdiv.1]; exact hu) (by omega) (by omega) (by simp; omega), hdiv.1]
      simp only [Option.some.injEq, Sum.inl.injEq, Prod.mk.injEq, true_and]
      rw [if_neg (show ¬ a.natAbs = 0 by omega), show Lib.decDigits a.natAbs = (if h : a.natAbs < 10 then [UInt8.ofNat (48 + a.natAbs)] else Lib.decDigits (a.natAbs / 10) ++ [UInt8.ofNat (48 + a.natAbs % 10)]) from by rw [Lib.decDigits]]
      by_cases h10 : a.natAbs < 10
      · rw [dif_pos h10, if_pos (by omega), Nat.mod_eq_of_lt h10]; rfl
      · rw [dif_neg h10, if_neg (by omega), List.append_assoc]
theorem v_Decimal {a : Int} (h0 : -9223372036854775808 ≤ a) (h1 : a ≤ 9223372036854775807) : T_spec_Decimal a = some (Lib.itoa a) := by
  rw [e_T_spec_Decimal]
  by_cases hz : a = 0
  · subst hz
    have : Lib.itoa 0 = [48] := by unfold Lib.itoa; rw [if_neg (by decide)]; exact Lib.decDigits_one (i := 0) (by decide)
    rw [this]; rfl
  · have hne : (a == 0) = false := beq_eq_false_iff_ne.2 hz
    have hp2 : (10 : Nat) ^ 19 = 10000000000000000000 := by decide
    have hlen := itoa_len h0 h1
    rw [hne, cond_false, l_dec 19 fuel a _ [] (by omega) (by omega) (by simp only [fuel]; omega) (by simp), if_neg (by omega)]
    simp only [Option.bind_some, Sum.elim_inl, List.append_nil]
    unfold Lib.itoa at hlen ⊢
    by_cases hs : a < 0
    · rw [if_pos hs] at hlen ⊢
      rw [List.length_cons] at hlen
      rw [decide_eq_true hs, cond_true, if_neg (by omega)]; rfl
    · rw [decide_eq_false hs, cond_false, if_neg hs]
      have : a.natAbs = a.toNat := by omega
      rw [this]
theorem v_implDecimal {a : Int} (h0 : -9223372036854775808 ≤ a) (h1 : a ≤ 9223372036854775807) : T_impl_Decimal a = some (Lib.itoa a) := by
  rw [e_T_impl_Decimal, T_strconv_Itoa, if_pos ⟨h0, h1⟩]; rfl
theorem nm_no35 : ∀ (l : List UInt8) (i : Nat), each nameS i l () = some (.inl ()) → ∀ y ∈ l, y ≠ 35
  | [], _, _, y, hy => by cases hy
  | z :: l, i, h, y, hy => by
    simp only [each, nameS] at h
    split at h
    · rename_i hz
      rcases List.mem_cons.1 hy with rfl | hy
      · intro e
        subst e
        have h35 : ((35 : UInt8).toNat : Int) = 35 := rfl
        rw [h35] at hz
        omega
      · exact nm_no35 l (i + 1) h y hy
    · cases h
theorem okName {a : List UInt8} (h : a.length ≤ maxLen) (hk : T_impl_NameOk a = some true) : ∀ y ∈ a, y ≠ 35 := by
  rw [e_T_impl_NameOk, l_implName h] at hk
  rcases each_name a 0 with h1 | h1
  · exact nm_no35 a 0 h1
  · rw [h1] at hk
    simp at hk
theorem ix_hit : ∀ (p q : List UInt8), (∀ y ∈ p, y ≠ 35) → Lib.index (p ++ 35 :: q) [35] = (p.length : Int)
  | [], q, _ => by rw [List.nil_append, Lib.index]; simp [List.isPrefixOf]
  | b :: p, q, h => by
    have hb : ¬ b = 35 := h b (by simp)
    have hp : ([35] : List UInt8).isPrefixOf (b :: (p ++ 35 :: q)) = false := by simp [List.isPrefixOf, Ne.symm hb]
    have ih := ix_hit p q (fun y hy => h y (by simp [hy]))
    rw [List.cons_append, Lib.index, hp, ih]
    have : ¬ ((p.length : Int) == -1) = true := fun e => by have := beq_iff_eq.1 e; omega
    simp only [Bool.false_eq_true, if_false, this, List.length_cons]
    omega
theorem spl3 {d : UInt8} {name : List UInt8} (hd : d ≠ 35) (hn : ∀ y ∈ name, y ≠ 35) : splK 35 (Lib.count (35 :: d :: 35 :: name) [35]) (35 :: d :: 35 :: name) = [[], [d], name] := by
  have hc : Lib.count (35 :: d :: 35 :: name) [35] = 2 := by
    rw [Lib.count_one, List.count_cons_self, List.count_cons_of_ne (by simpa using hd), List.count_cons_self, List.count_eq_zero.2 (fun h => hn 35 h rfl)]
  have i1 : Lib.index (35 :: d :: 35 :: name) [35] = ((0 : Nat) : Int) := ix_hit [] (d :: 35 :: name) (fun y hy => by cases hy)
  have i2 : Lib.index (d :: 35 :: name) [35] = ((1 : Nat) : Int) := ix_hit [d] name (fun y hy => by rw [List.mem_singleton.1 hy]; exact hd)
  rw [hc, splK, i1, if_neg (by decide)]
  simp only [Int.toNat_natCast, List.take_zero, Nat.zero_add, List.drop_succ_cons, List.drop_zero]
  rw [splK, i2, if_neg (by decide)]
  simp only [Int.toNat_natCast, List.take_succ_cons, List.take_zero, List.drop_succ_cons, List.drop_zero, splK]
theorem splK_len (c : UInt8) : ∀ (k : Nat) (s : List UInt8), (splK c k s).length ≤ k + 1 ∧ ∀ t ∈ splK c k s, t.length ≤ s.length
  | 0, s => ⟨by simp [splK], fun t ht => by simp [splK] at ht; rw [ht]; exact Nat.le_refl _⟩
  | k + 1, s => by
    rw [splK]
    split
    · exact ⟨by simp, fun t ht => by simp at ht; rw [ht]; exact Nat.le_refl _⟩
    · obtain ⟨h1, h2⟩ := splK_len c k (s.drop ((Lib.index s [c]).toNat + 1))
      refine ⟨by simp; omega, fun t ht => ?_⟩
      rcases List.mem_cons.1 ht with rfl | ht
      · rw [List.length_take]; omega
      · have := h2 t ht
        rw [List.length_drop] at this; omega
theorem l_RD {a : List UInt8} (ha : a.length ≤ 10) : ∀ (m i n b : Nat), m < n → i + m = a.length → b < 10 ^ i → (∃ b' : Nat, L_impl_ReadDecimal_1 n (a, (b : Int), (i : Int)) = some (.inl (a, (b' : Int))) ∧ b' < 10 ^ 10) ∨ L_impl_ReadDecimal_1 n (a, (b : Int), (i : Int)) = some (.inr (0, false))
  | 0, i, n, b, hn, hi, hb => by
    obtain ⟨n, rfl⟩ : ∃ j, n = j + 1 := ⟨n - 1, by omega⟩
    rw [e_L_impl_ReadDecimal_1, decide_eq_false (by omega), cond_false]
    exact .inl ⟨b, rfl, Nat.lt_of_lt_of_le hb (Nat.pow_le_pow_right (by decide) (by omega))⟩
  | m + 1, i, n, b, hn, hi, hb => by
    obtain ⟨n, rfl⟩ : ∃ j, n = j + 1 := ⟨n - 1, by omega⟩
    have hlt : i < a.length := by omega
    have hy : a[i]? = some a[i] := List.getElem?_eq_getElem hlt
    have hg : a.getD i 0 = a[i] := by simp [List.getD_eq_getElem?_getD, hy]
    have hc := u8lt a[i]
    have h10 : (10 : Nat) ^ i ≤ 10 ^ 9 := Nat.pow_le_pow_right (by decide) (by omega)
    have h9 : (10 : Nat) ^ 9 = 1000000000 := by decide
    have hw : IntKind.i64.wrap ((i : Int) + 1) = ((i + 1 : Nat) : Int) := by rw [wrap_ok (by omega) (by omega)]; omega
    rw [e_L_impl_ReadDecimal_1]
    simp only [show ((i : Int) < (a.length : Int)) by omega, decide_true, cond_true, Int.natCast_nonneg, if_true, Int.toNat_natCast, hg]
    by_cases h1 : ((a[i].toNat : Nat) : Int) < 48
    · simp only [h1, decide_true, cond_true, Option.bind_some, Sum.elim_inl]
      exact .inr trivial
    · by_cases h2 : (57 : Int) < ((a[i].toNat : Nat) : Int)
      · simp only [h1, h2, decide_true, decide_false, cond_true, cond_false, Option.bind_some, Sum.elim_inl]
        exact .inr trivial
      · simp only [h1, h2, decide_false, cond_false, Option.bind_some, Sum.elim_inl, show ((i : Int) < (a.length : Int)) by omega, Int.natCast_nonneg, if_true, Int.toNat_natCast, hg]
        have e1 : IntKind.i64.wrap (IntKind.i64.wrap ((b : Int) * 10) + IntKind.i64.wrap (IntKind.u8.wrap (((a[i].toNat : Nat) : Int) - 48))) = ((b * 10 + (a[i].toNat - 48) : Nat) : Int) := by
          rw [u8w (by omega) (by omega), wrap_ok (n := (b : Int) * 10) (by omega) (by omega), wrap_ok (n := ((a[i].toNat : Nat) : Int) - 48) (by omega) (by omega), wrap_ok (by omega) (by omega)]
          omega
        rw [e1, hw]
        exact l_RD ha m (i + 1) n _ (by omega) (by omega) (by rw [Nat.pow_succ]; omega)
theorem x_RD (t : List UInt8) (ht : t.length ≤ 1048576) : ∃ n ok, T_impl_ReadDecimal t = some (n, ok) := by
  rw [e_T_impl_ReadDecimal]
  by_cases h0 : t.length = 0
  · have : ((t.length : Int) == 0) = true := by rw [h0]; rfl
    rw [this]
    exact ⟨_, _, rfl⟩
  · have : ((t.length : Int) == 0) = false := beq_eq_false_iff_ne.2 (by omega)
    rw [this]
    simp only [cond_false, Option.bind_some, Sum.elim_inl]
    by_cases h10 : (10 : Int) < (t.length : Int)
    · rw [decide_eq_true h10]; exact ⟨_, _, rfl⟩
    · rw [decide_eq_false h10, cond_false]
      rcases l_RD (a := t) (by omega) t.length 0 fuel 0 (by simp only [fuel]; omega) (by omega) (by decide) with ⟨b', h1, h2⟩ | h1
      · rw [show ((0 : Nat) : Int) = (0 : Int) from rfl] at h1
        have hp : (10 : Nat) ^ 10 = 10000000000 := by decide
        rw [h1]
        simp only [Option.bind_some, Sum.elim_inl, v_implDecimal (a := (b' : Int)) (by omega) (by omega)]
        cases decide (1000000000 < (b' : Int)) with
        | true => exact ⟨_, _, rfl⟩
        | false =>
          simp only [cond_false, Option.bind_some, Sum.elim_inl]
          cases !(Lib.itoa (b' : Int) == t) <;> exact ⟨_, _, rfl⟩
      · rw [show ((0 : Nat) : Int) = (0 : Int) from rfl] at h1
        rw [h1]; exact ⟨_, _, rfl⟩
theorem itoa_one {d : Nat} (h : d < 10) : Lib.itoa (d : Int) = [UInt8.ofNat (48 + d)] := by
  unfold Lib.itoa
  rw [if_neg (by omega), Int.toNat_natCast]
  exact Lib.decDigits_one h
theorem rd_one {c : UInt8} (h1 : 49 ≤ c.toNat) (h2 : c.toNat ≤ 57) : T_impl_ReadDecimal [c] = some (((c.toNat - 48 : Nat) : Int), true) := by
  have hi : Lib.itoa ((c.toNat - 48 : Nat) : Int) = [c] := by
    rw [itoa_one (by omega), show 48 + (c.toNat - 48) = c.toNat by omega]; simp
  have hL : L_impl_ReadDecimal_1 fuel ([c], 0, 0) = some (.inl ([c], ((c.toNat - 48 : Nat) : Int))) := by
    rw [show fuel = 18446744073709551614 + 1 + 1 from rfl, e_L_impl_ReadDecimal_1]
    simp only [List.length_singleton, show ((0 : Int) < ((1 : Nat) : Int)) by decide, decide_true, cond_true, show (0 : Int) ≤ 0 by decide, if_true, show (0 : Int).toNat = 0 from rfl, List.getD_cons_zero, show ¬ ((c.toNat : Nat) : Int) < 48 by omega, show ¬ (57 : Int) < ((c.toNat : Nat) : Int) by omega, decide_false, cond_false, Option.bind_some, Sum.elim_inl]
    have e1 : IntKind.i64.wrap (IntKind.i64.wrap ((0 : Int) * 10) + IntKind.i64.wrap (IntKind.u8.wrap (((c.toNat : Nat) : Int) - 48))) = ((c.toNat - 48 : Nat) : Int) := by
      rw [u8w (by omega) (by omega), wrap_ok (n := (0 : Int) * 10) (by omega) (by omega), wrap_ok (n := ((c.toNat : Nat) : Int) - 48) (by omega) (by omega), wrap_ok (by omega) (by omega)]
      omega
    rw [e1, wrap_ok (n := (0 : Int) + 1) (by omega) (by omega), e_L_impl_ReadDecimal_1, decide_eq_false (by simp), cond_false]
  rw [e_T_impl_ReadDecimal, show ((([c] : List UInt8).length : Int) == 0) = false from rfl]
  simp only [cond_false, Option.bind_some, Sum.elim_inl]
  rw [decide_eq_false (by simp), cond_false, hL]
  simp only [Option.bind_some, Sum.elim_inl]
  rw [decide_eq_false (by omega), cond_false, v_implDecimal (by omega) (by omega), hi]
  simp only [Option.bind_some, beq_self_eq_true, Bool.not_true, Sum.elim_inl, cond_false]
theorem x_PN (d : Int) {t : List UInt8} (ht : t.length ≤ 1048576) : ∃ r, T_impl_PrivateName (d, t) = some r ∧ (r = [] ∨ (1 ≤ d ∧ d ≤ 9) ∧ T_impl_NameOk t = some true) ∧ ((1 ≤ d ∧ d ≤ 9) → T_impl_NameOk t = some true → r = 35 :: UInt8.ofNat (48 + d.toNat) :: 35 :: t) := by
  obtain ⟨b, _, h2⟩ := x_NameOk (a := t) (by rw [maxLen_eq]; omega)
  rw [e_T_impl_PrivateName, (x_inRange _ _ _).2]
  simp only [Option.bind_some]
  by_cases hd : 1 ≤ d ∧ d ≤ 9
  · rw [decide_eq_true hd]
    simp only [Bool.not_true, cond_false, h2, Option.bind_some, Sum.elim_inl]
    cases b with
    | false => exact ⟨[], rfl, .inl rfl, fun _ h => by cases h⟩
    | true =>
      obtain ⟨n, rfl⟩ : ∃ n : Nat, d = (n : Int) := ⟨d.toNat, by omega⟩
      simp only [Bool.not_true, cond_false, v_implDecimal (a := (n : Int)) (by omega) (by omega), Option.bind_some, itoa_one (show n < 10 by omega), List.length_cons, List.length_nil, List.length_append]
      rw [if_neg (by omega), if_neg (by omega), if_neg (by omega)]
      exact ⟨_, rfl, .inr ⟨hd, trivial⟩, fun _ _ => rfl⟩
  · rw [decide_eq_false hd]
    exact ⟨[], rfl, .inl rfl, fun h => absurd h hd⟩
theorem nm_pos {t : List UInt8} (h : T_spec_NameOk t = some true) : 1 ≤ t.length ∧ t.length ≤ 12 := by
  rw [e_T_spec_NameOk, (x_inRange _ _ _).1] at h
  by_cases hr : (1 : Int) ≤ t.length ∧ (t.length : Int) ≤ 12
  · omega
  · rw [decide_eq_false hr] at h
    simp at h
theorem sp_good {c : UInt8} {t : List UInt8} (h1 : 49 ≤ c.toNat) (h2 : c.toNat ≤ 57) (hn : T_spec_NameOk t = some true) : T_spec_SplitPrivate (35 :: c :: 35 :: t) = some (((c.toNat - 48 : Nat) : Int), t, true) := by
  have hl := nm_pos hn
  rw [e_T_spec_SplitPrivate]
  simp only [List.length_cons, List.getD_cons_zero, List.getD_cons_succ, List.drop_succ_cons, List.drop_zero, List.take_succ_cons, List.take_length]
  rw [decide_eq_false (by omega), cond_false, if_pos (by omega), show ((((35 : UInt8).toNat : Nat) : Int) == 35) = true from rfl]
  simp only [Bool.not_true, cond_false]
  rw [if_pos (by omega), if_pos (by omega), decide_eq_false (by omega), cond_false, if_pos (by omega), decide_eq_false (by omega), cond_false, if_pos (by omega), hn]
  simp only [Option.bind_some, Bool.not_true, Sum.elim_inl, cond_false, List.length_cons, List.getD_cons_zero, List.getD_cons_succ, List.drop_succ_cons, List.drop_zero, List.take_succ_cons, List.take_length]
  rw [if_pos (by omega), if_pos (by omega), wrap_ok (n := ((c.toNat : Nat) : Int)) (by omega) (by omega), wrap_ok (by omega) (by omega)]
  have : ((c.toNat : Nat) : Int) - 48 = ((c.toNat - 48 : Nat) : Int) := by omega
  rw [this]
theorem sp_total {a : List UInt8} (ha : a.length ≤ 1048576) : T_spec_SplitPrivate a = some (0, [], false) ∨ ∃ c t, a = 35 :: c :: 35 :: t ∧ 49 ≤ c.toNat ∧ c.toNat ≤ 57 ∧ T_spec_NameOk t = some true := by
  by_cases hl : (a.length : Int) < 4
  · left
    rw [e_T_spec_SplitPrivate, decide_eq_true hl]; rfl
  · match a, ha, hl with
    | [], _, hl => simp at hl
    | [_], _, hl => simp at hl
    | [_, _], _, hl => simp at hl
    | c0 :: c1 :: c2 :: t, ha, hl =>
      simp only [List.length_cons] at ha hl
      obtain ⟨b, hb, _⟩ := x_NameOk (a := t) (by rw [maxLen_eq]; omega)
      have u1 := u8lt c1
      by_cases h0 : c0 = 35
      · by_cases h2 : c2 = 35
        · by_cases h3 : ((c1.toNat : Nat) : Int) < 49
          · left
            subst h0 h2
            rw [e_T_spec_SplitPrivate]
            simp only [List.length_cons, List.getD_cons_zero, List.getD_cons_succ]
            rw [decide_eq_false (by omega), cond_false, if_pos (by omega), show ((((35 : UInt8).toNat : Nat) : Int) == 35) = true from rfl]
            simp only [Bool.not_true, cond_false]
            rw [if_pos (by omega), if_pos (by omega), decide_eq_true h3]; rfl
          · by_cases h4 : (57 : Int) < ((c1.toNat : Nat) : Int)
            · left
              subst h0 h2
              rw [e_T_spec_SplitPrivate]
              simp only [List.length_cons, List.getD_cons_zero, List.getD_cons_succ]
              rw [decide_eq_false (by omega), cond_false, if_pos (by omega), show ((((35 : UInt8).toNat : Nat) : Int) == 35) = true from rfl]
              simp only [Bool.not_true, cond_false]
              rw [if_pos (by omega), if_pos (by omega), decide_eq_false h3, cond_false, if_pos (by omega), decide_eq_true h4]; rfl
            · cases b with
              | true => exact .inr ⟨c1, t, by rw [h0, h2], by omega, by omega, hb⟩
              | false =>
                left
                subst h0 h2
                rw [e_T_spec_SplitPrivate]
                simp only [List.length_cons, List.getD_cons_zero, List.getD_cons_succ, List.drop_succ_cons, List.drop_zero, List.take_succ_cons, List.take_length]
                rw [decide_eq_false (by omega), cond_false, if_pos (by omega), show ((((35 : UInt8).toNat : Nat) : Int) == 35) = true from rfl]
                simp only [Bool.not_true, cond_false]
                rw [if_pos (by omega), if_pos (by omega), decide_eq_false h3, cond_false, if_pos (by omega), decide_eq_false h4, cond_false, if_pos (by omega), hb]; rfl
        · left
          subst h0
          have hne : (((c2.toNat : Nat) : Int) == 35) = false := beq_eq_false_iff_ne.2 (fun e => h2 (by
            have : c2.toNat = (35 : UInt8).toNat := by show c2.toNat = 35; omega
            exact UInt8.toNat_inj.1 this))
          rw [e_T_spec_SplitPrivate]
          simp only [List.length_cons, List.getD_cons_zero, List.getD_cons_succ]
          rw [decide_eq_false (by omega), cond_false, if_pos (by omega), show ((((35 : UInt8).toNat : Nat) : Int) == 35) = true from rfl]
          simp only [Bool.not_true, cond_false]
          rw [if_pos (by omega), hne]; rfl
      · left
        have hne : (((c0.toNat : Nat) : Int) == 35) = false := beq_eq_false_iff_ne.2 (fun e => h0 (by
          have : c0.toNat = (35 : UInt8).toNat := by show c0.toNat = 35; omega
          exact UInt8.toNat_inj.1 this))
        rw [e_T_spec_SplitPrivate]
        simp only [List.length_cons, List.getD_cons_zero]
        rw [decide_eq_false (by omega), cond_false, if_pos (by omega), hne]; rfl
theorem x_SplitP {a : List UInt8} (ha : a.length ≤ 1048576) : ∃ d n v, T_spec_SplitPrivate a = some (d, n, v) ∧ T_impl_SplitPrivate a = some (d, n, v) ∧ n.length ≤ 12 ∧ (v = true → ∃ c t, a = 35 :: c :: 35 :: t ∧ 49 ≤ c.toNat ∧ c.toNat ≤ 57 ∧ t.length ≤ 12) := by
  have hS : T_strings_Split (a, [35]) = some (splK 35 (Lib.count a [35]) a) := by
    unfold T_strings_Split
    simp only
    rw [if_pos (by omega)]
  have hS' : T_strings_Split (a, ([{ toBitVec := { toFin := ⟨35, Nat.mod_lt 35 (BitVec.ofNat._proof_1 8)⟩ } }] : List UInt8)) = some (splK 35 (Lib.count a [35]) a) := hS
  rcases sp_total ha with h | ⟨c, t, rfl, h1, h2, h3⟩
  · refine ⟨0, [], false, h, ?_, by simp, fun h => by cases h⟩
    rw [e_T_impl_SplitPrivate, hS']
    simp only [Option.bind_some]
    obtain ⟨l1, l2⟩ := splK_len 35 (Lib.count a [35]) a
    generalize hL : splK 35 (Lib.count a [35]) a = L at l1 l2
    by_cases h3 : L.length = 3
    · have e3 : ((L.length : Int) == 3) = true := by rw [h3]; rfl
      rw [e3]
      match L, h3, l2, hL with
      | [p0, p1, p2], _, l2, hL =>
        obtain ⟨n, ok, r1⟩ := x_RD p1 (Nat.le_trans (l2 p1 (by simp)) ha)
        simp only [Bool.not_true, cond_false, List.length_cons, List.length_nil, show (1 : Nat) < 0 + 1 + 1 + 1 by decide, show (2 : Nat) < 0 + 1 + 1 + 1 by decide, if_true, List.getElem?_cons_succ, List.getElem?_cons_zero, Option.bind_some, r1]
        cases ok with
        | false => rfl
        | true =>
          have hp2 := Nat.le_trans (l2 p2 (by simp)) ha
          obtain ⟨r, r2, r3, r4⟩ := x_PN n hp2
          simp only [Bool.not_true, cond_false, r2, Option.bind_some, Sum.elim_inl]
          cases hra : (r == a) with
          | false => rfl
          | true =>
            exfalso
            have hra := eq_of_beq hra
            rcases r3 with rfl | ⟨hd, hn⟩
            · subst hra
              have : splK 35 (Lib.count [] [35]) [] = [[]] := by rw [Lib.count_one]; rfl
              rw [this] at hL
              cases hL
            · have e := r4 hd hn
              obtain ⟨b, k1, k2⟩ := x_NameOk (a := p2) (by rw [maxLen_eq]; omega)
              rw [hn] at k2
              cases k2
              have hc : (UInt8.ofNat (48 + n.toNat)).toNat = 48 + n.toNat := by simp; omega
              have := sp_good (c := UInt8.ofNat (48 + n.toNat)) (t := p2) (by omega) (by omega) k1
              rw [← e, hra, h] at this
              simp at this
    · have e3 : ((L.length : Int) == 3) = false := beq_eq_false_iff_ne.2 (by omega)
      rw [e3]; rfl
  · have hl := nm_pos h3
    obtain ⟨b, k1, k2⟩ := x_NameOk (a := t) (by rw [maxLen_eq]; omega)
    rw [h3] at k1
    cases k1
    have hc35 : c ≠ 35 := fun e => by subst e; exact absurd h1 (by decide)
    refine ⟨_, _, _, sp_good h1 h2 h3, ?_, hl.2, fun _ => ⟨c, t, rfl, h1, h2, hl.2⟩⟩
    obtain ⟨r, r2, r3, r4⟩ := x_PN ((c.toNat - 48 : Nat) : Int) (t := t) (by omega)
    have e := r4 (by omega) k2
    rw [Int.toNat_natCast, show 48 + (c.toNat - 48) = c.toNat by omega, byte_of (c := c) rfl] at e
    subst e
    rw [e_T_impl_SplitPrivate, hS', spl3 hc35 (okName (by rw [maxLen_eq]; omega) k2)]
    simp only [Option.bind_some, List.length_cons, List.length_nil, show ((((0 + 1 + 1 + 1 : Nat)) : Int) == 3) = true from rfl, Bool.not_true, cond_false, show (1 : Nat) < 0 + 1 + 1 + 1 by decide, show (2 : Nat) < 0 + 1 + 1 + 1 by decide, if_true, List.getElem?_cons_succ, List.getElem?_cons_zero, rd_one h1 h2, r2, beq_self_eq_true, Sum.elim_inl]
theorem x_isPrivate {a : List UInt8} (ha : a.length ≤ 1048576) : ∃ v, T_spec_l17Private a = some v ∧ T_impl_isPrivate a = some v ∧ (v = true → a.length ≤ 15) := by
  obtain ⟨d, n, v, h1, h2, _, h4⟩ := x_SplitP ha
  refine ⟨v, by rw [e_T_spec_l17Private, h1]; rfl, by rw [e_T_impl_isPrivate, h2]; rfl, fun hv => ?_⟩
  obtain ⟨c, t, rfl, _, _, ht⟩ := h4 hv
  simp only [List.length_cons]; omega
theorem x_WordOk {a : Int} {b : List UInt8} {c : List (List UInt8)} {d : List UInt8} (h : (ET.pair (.int .i64) (.pair .str (.pair (.sl false .str) .str))).small (a, b, c, d)) : ∃ v, T_spec_WordOk (a, b, c, d) = some v ∧ T_impl_WordOk (a, b, c, d) = some v := by
  obtain ⟨h_a, h_b, h_c, h_d⟩ := h
  obtain ⟨v, h1, h2, hv⟩ := x_isPrivate (a := b) h_b
  obtain ⟨w, h3, h4⟩ := x_areNames h_c
  have hd : d.length ≤ 1048576 := h_d
  rw [e_T_spec_WordOk, e_T_impl_WordOk]
  simp only [(x_inRange _ _ _).1, (x_inRange _ _ _).2, h1, h2, h3, h4, Option.bind_some, bif_bind, Sum.elim_inl]
  have e1 : (d == []) = decide (d.length = 0) := by cases d <;> rfl
  have e20 : (d == []) = true → decide ((d.length : Int) ≤ 20) = true := fun h => by
    rw [e1] at h
    have := of_decide_eq_true h
    exact decide_eq_true (by omega)
  have e20' : decide (20 < (d.length : Int)) = !decide ((d.length : Int) ≤ 20) := by
    by_cases hq : (d.length : Int) ≤ 20
    · rw [decide_eq_true hq, decide_eq_false (by omega)]; rfl
    · rw [decide_eq_false hq, decide_eq_true (by omega)]; rfl
  have ea : decide ((1 : Int) ≤ a ∧ a ≤ 4) = (a == 1 || (a == 2 || (a == 3 || a == 4))) := by
    by_cases q1 : a = 1
    · subst q1; rfl
    by_cases q2 : a = 2
    · subst q2; rfl
    by_cases q3 : a = 3
    · subst q3; rfl
    by_cases q4 : a = 4
    · subst q4; rfl
    rw [beq_eq_false_iff_ne.2 q1, beq_eq_false_iff_ne.2 q2, beq_eq_false_iff_ne.2 q3, beq_eq_false_iff_ne.2 q4]
    exact decide_eq_false (by omega)
  have x1 : (a == 1) = true → (a == 2) = false ∧ (a == 3) = false ∧ (a == 4) = false := fun h => by rw [eq_of_beq h]; decide
  have x2 : (a == 2) = true → (a == 3) = false ∧ (a == 4) = false := fun h => by rw [eq_of_beq h]; decide
  have x3 : (a == 3) = true → (a == 4) = false := fun h => by rw [eq_of_beq h]; decide
  rw [ea, e20']
  clear h1 h2 h3 h4 h_a h_b h_c h_d hd e1 e20' ea hv
  revert e20 x1 x2 x3
  generalize ((c.length : Int) == 0) = z
  generalize ((c.length : Int) == 1) = z1
  generalize (decide ((1 : Int) ≤ c.length ∧ (c.length : Int) ≤ 3)) = z3
  generalize (a == 1) = p1, (a == 2) = p2, (a == 3) = p3, (a == 4) = p4, (d == []) = q3, (decide ((d.length : Int) ≤ 20)) = q5
  revert v w z z1 z3 p1 p2 p3 p4 q3 q5
  decide +kernel
def namesT : List (List UInt8) → List UInt8
  | [] => []
  | t :: l => (vEnc t.length ++ t) ++ namesT l
theorem namesT_len : ∀ {l : List (List UInt8)} (_ : ∀ t ∈ l, t.length ≤ 1048576), (namesT l).length ≤ l.length * 1048581
  | [], _ => by simp [namesT]
  | t :: l, h => by
    have h1 := namesT_len (l := l) (fun x hx => h x (by simp [hx]))
    have h2 := h t (by simp)
    have h3 := vEnc_l5 (n := t.length) (by omega)
    simp only [namesT, List.length_append, List.length_cons, Nat.add_mul]
    omega
theorem word_a {a : Int} {b : List UInt8} {c : List (List UInt8)} {d : List UInt8} (h : T_spec_WordOk (a, b, c, d) = some true) : 1 ≤ a ∧ a ≤ 4 := by
  rw [e_T_spec_WordOk, (x_inRange _ _ _).1] at h
  by_cases hr : 1 ≤ a ∧ a ≤ 4
  · exact hr
  · rw [decide_eq_false hr] at h
    simp at h
def wordI (a : Int) (b : List UInt8) (c : List (List UInt8)) (d : List UInt8) : List UInt8 :=
  [UInt8.ofNat a.toNat] ++ (vEnc b.length ++ b) ++ (vEnc c.length ++ namesT c) ++ (vEnc d.length ++ d)
theorem l_wordS {a : Int} {b : List UInt8} {c : List (List UInt8)} {d : List UInt8} (hc : ∀ t ∈ c, t.length ≤ 1048576) (hl : c.length ≤ 1048576) : ∀ (m i n : Nat) (s : List UInt8), m < n → i + m = c.length → s.length + (namesT (c.drop i)).length ≤ 140737488355328 → L_spec_WordText_1 n ((a, b, c, d), s, (i : Int)) = some (.inl ((a, b, c, d), s ++ namesT (c.drop i)))
  | 0, i, n, s, hn, hi, hb => by
    obtain ⟨n, rfl⟩ : ∃ j, n = j + 1 := ⟨n - 1, by omega⟩
    rw [e_L_spec_WordText_1, decide_eq_false (by omega), cond_false, List.drop_eq_nil_of_le (by omega)]
    simp [namesT]
  | m + 1, i, n, s, hn, hi, hb => by
    obtain ⟨n, rfl⟩ : ∃ j, n = j + 1 := ⟨n - 1, by omega⟩
    have hlt : i < c.length := by omega
    have hy : c[i]? = some c[i] := List.getElem?_eq_getElem hlt
    have hcy := hc c[i] (List.getElem_mem hlt)
    rw [List.drop_eq_getElem_cons hlt] at hb ⊢
    simp only [namesT, List.length_append] at hb
    rw [e_L_spec_WordText_1, decide_eq_true (by omega), cond_true, if_pos (by omega), Int.toNat_natCast, hy, Option.bind_some, v_short hcy, Option.bind_some, if_neg (by simp only [List.length_append]; omega), wrap_ok (by omega) (by omega)]
    have := l_wordS (a := a) (b := b) (d := d) hc hl m (i + 1) n (s ++ (vEnc c[i].length ++ c[i])) (by omega) (by omega) (by simp only [List.length_append]; omega)
    rw [show ((i + 1 : Nat) : Int) = (i : Int) + 1 from by omega] at this
    rw [this, namesT, List.append_assoc]
theorem s_WordText {a : Int} {b : List UInt8} {c : List (List UInt8)} {d : List UInt8} (h : (ET.pair (.int .i64) (.pair .str (.pair (.sl false .str) .str))).small (a, b, c, d)) {v : Bool} (h1 : T_spec_WordOk (a, b, c, d) = some v) : T_spec_WordText (a, b, c, d) = some (bif v then (wordI a b c d, true) else ([], false)) := by
  rw [e_T_spec_WordText, h1]
  simp only [Option.bind_some]
  cases v with
  | false => rfl
  | true =>
    have ka := word_a h1
    obtain ⟨h_a, h_b, h_c, h_d⟩ := h
    have hb : b.length ≤ 1048576 := h_b
    have hd : d.length ≤ 1048576 := h_d
    have hl : c.length ≤ 1048576 := h_c.1
    have hc : ∀ t ∈ c, t.length ≤ 1048576 := h_c.2
    have n1 := namesT_len hc
    have n2 := vEnc_l5 (n := c.length) (by omega)
    have n3 := vEnc_l5 (n := b.length) (by omega)
    have n4 := vEnc_l5 (n := d.length) (by omega)
    simp only [Bool.not_true, cond_false]
    first | rw [v_byte (by omega) (by omega), Option.bind_some] | simp only [List.map_cons, List.map_nil, u8w (n := a) (by omega) (by omega)]
    rw [v_short hb, Option.bind_some, if_neg (by simp only [List.length_append, List.length_singleton]; omega), v_l01Var (by omega) (by omega), Option.bind_some, Int.toNat_natCast, if_neg (by simp only [List.length_append, List.length_singleton]; omega)]
    have hL := l_wordS (a := a) (b := b) (d := d) hc hl c.length 0 fuel ([UInt8.ofNat a.toNat] ++ (vEnc b.length ++ b) ++ vEnc c.length) (by simp only [fuel]; omega) (by omega) (by rw [List.drop_zero]; simp only [List.length_append, List.length_singleton]; omega)
    rw [List.drop_zero, show ((0 : Nat) : Int) = (0 : Int) from rfl] at hL
    rw [hL]
    simp only [Option.bind_some, Sum.elim_inl]
    rw [v_short hd, Option.bind_some, if_neg (by simp only [List.length_append, List.length_singleton]; omega)]
    simp only [cond_true, wordI, List.append_assoc]
theorem sp_groups {a : List UInt8} {z : Int × List UInt8 × List (List UInt8) × List UInt8} {k : Int} {nm e : List UInt8} {n : Nat} (hn : n ≤ 1000000000) : ∀ (m i p : Nat) (b : Bool) (gs ts : List (List UInt8)) (p' : Nat) (b' : Bool) (f : Nat), m < f → i + m = min n 20 → gs.length = i → (∀ t ∈ gs, t.length ≤ a.length) → p ≤ a.length → SRun T_spec_l05ReadShort a m p b ts p' b' →
    ∃ (gs' : List (List UInt8)) (p'' : Nat), L_spec_ReadWord_1 f (a, z, (a, (p : Int), b), (k, nm, gs, e), (n : Int), (i : Int)) = some (.inl (a, z, (a, (p'' : Int), b'), (k, nm, gs', e))) ∧ p'' ≤ a.length ∧ gs'.length ≤ 20 ∧ (∀ t ∈ gs', t.length ≤ a.length) ∧ (b' = false → gs' = gs ++ ts ∧ p'' = p')
  | 0, i, p, b, gs, ts, p', b', f, hf, hi, hu, hg, hp, h => by
    obtain ⟨f, rfl⟩ : ∃ g, f = g + 1 := ⟨f - 1, by omega⟩
    obtain ⟨rfl, rfl, rfl⟩ := h
    refine ⟨gs, p', ?_, hp, by omega, hg, fun _ => ⟨by simp, rfl⟩⟩
    obtain ⟨z1, z2, z3, z4⟩ := z
    rw [e_L_spec_ReadWord_1]
    by_cases h1 : (i : Int) < (n : Int)
    · simp only [h1, show ¬ (i : Int) < 20 by omega, decide_true, decide_false, cond_true, cond_false, Option.bind_some, Sum.elim_inl]
    · simp only [h1, decide_false, cond_false, Option.bind_some, Sum.elim_inl]
  | m + 1, i, p, b, gs, ts, p', b', f, hf, hi, hu, hg, hp, h => by
    obtain ⟨f, rfl⟩ : ∃ g, f = g + 1 := ⟨f - 1, by omega⟩
    have hc := h.clear
    obtain ⟨t, l', p1, b1, rfl, h1, h2, h3, h4, h5⟩ := h
    obtain ⟨z1, z2, z3, z4⟩ := z
    rw [e_L_spec_ReadWord_1]
    simp only [show (i : Int) < (n : Int) by omega, show (i : Int) < 20 by omega, decide_true, cond_true, Option.bind_some, Sum.elim_inl]
    cases b with
    | true =>
      have hb' : b' = true := by
        cases hb : b' with
        | true => rfl
        | false => have := hc hb; cases this
      refine ⟨gs, p, ?_, hp, by omega, hg, fun h => by rw [hb'] at h; cases h⟩
      rw [hb']; rfl
    | false =>
      obtain ⟨gs', p'', ih, i1, i2, i3, i4⟩ := sp_groups (z := (z1, z2, z3, z4)) (k := k) (nm := nm) (e := e) hn m (i + 1) p1 b1 (gs ++ [t]) l' p' b' f (by omega) (by omega) (by simp [hu]) (fun x hx => by
        rcases List.mem_append.1 hx with hx | hx
        · exact hg x hx
        · rw [List.mem_singleton.1 hx]; exact h3) h2 h5
      refine ⟨gs', p'', ?_, i1, i2, i3, fun hb => ?_⟩
      · simp only [Bool.not_false, cond_true, h1, Option.bind_some, List.length_cons, List.length_nil]
        rw [if_pos ⟨by omega, by omega⟩, wrap_ok (by omega) (by omega)]
        exact ih
      · obtain ⟨j1, j2⟩ := i4 hb
        exact ⟨by rw [j1, List.append_assoc]; rfl, j2⟩
theorem nm_len {t : List UInt8} (h : T_spec_NameOk t = some true) : t.length ≤ 12 := by
  rw [e_T_spec_NameOk, (x_inRange _ _ _).1] at h
  by_cases hr : (1 : Int) ≤ t.length ∧ (t.length : Int) ≤ 12
  · omega
  · rw [decide_eq_false hr] at h
    simp at h
theorem each_all {a : List (List UInt8)} : ∀ (l : List (List UInt8)) (k : Nat), each (nmS a) k l () = some (.inl ()) → ∀ t ∈ l, T_impl_NameOk t = some true
  | [], _, _, t, h => by cases h
  | y :: l, k, h, t, ht => by
    simp only [each, nmS] at h
    cases hy : T_impl_NameOk y with
    | none => rw [hy] at h; cases h
    | some r =>
      rw [hy] at h
      cases r with
      | false => cases h
      | true =>
        rcases List.mem_cons.1 ht with rfl | ht
        · exact hy
        · refine each_all (a := a) l (k + 1) ?_ t ht
          simp only [Option.bind_some, Bool.not_true, cond_false] at h
          cases h0 : decide (0 < k) with
          | false => rw [h0] at h; exact h
          | true =>
            rw [h0] at h
            simp only [cond_true] at h
            cases hz : a[k - 1]? with
            | none => rw [hz] at h; cases h
            | some z =>
              rw [hz] at h
              simp only [Option.bind_some] at h
              cases hc : (Op.bytesLess y z || y == z) with
              | true => rw [hc] at h; cases h
              | false => rw [hc] at h; exact h
theorem names_len {c : List (List UInt8)} (h : (ET.sl false .str).small c) (hc : T_spec_l17Names c = some true) : ∀ t ∈ c, t.length ≤ 12 := by
  rw [e_T_spec_l17Names, l_specNames h] at hc
  intro t ht
  cases he : each (nmS c) 0 c () with
  | none => rw [he] at hc; cases hc
  | some q =>
    rw [he] at hc
    cases q with
    | inr r =>
      simp only [Option.bind_some, Sum.elim_inr, Option.some.injEq] at hc
      subst hc
      exfalso
      rcases each_rule (step := nmS c) (fun _ _ => True) (fun r => r = false) c 0 () trivial (fun i y s hy _ => by
        obtain ⟨b, h1, h2⟩ := x_NameOk (a := y) (Nat.le_trans (h.2 y (List.mem_of_getElem? hy)) (by decide))
        simp only [nmS, h2, Option.bind_some, Nat.zero_add]
        cases b with
        | false => exact .inr ⟨false, rfl, rfl⟩
        | true =>
          simp only [Bool.not_true, cond_false]
          by_cases h0 : 0 < i
          · have hi := (List.getElem?_eq_some_iff.1 hy).1
            rw [decide_eq_true h0, cond_true, List.getElem?_eq_getElem (by omega), Option.bind_some]
            cases Op.bytesLess y c[i - 1] || y == c[i - 1]
            · exact .inl ⟨(), rfl, trivial⟩
            · exact .inr ⟨false, rfl, rfl⟩
          · rw [decide_eq_false h0]
            exact .inl ⟨(), rfl, trivial⟩) with ⟨s, h1, _⟩ | ⟨r, h1, h2⟩
      · rw [he] at h1; cases h1
      · rw [he] at h1; cases h1; cases h2
    | inl s =>
      have := each_all c 0 he t ht
      obtain ⟨b, h1, h2⟩ := x_NameOk (a := t) (Nat.le_trans (h.2 t ht) (by decide))
      rw [this] at h2
      cases h2
      exact nm_len h1
theorem wordFit {a : Int} {b : List UInt8} {c : List (List UInt8)} {d : List UInt8} (h : (ET.pair (.int .i64) (.pair .str (.pair (.sl false .str) .str))).small (a, b, c, d)) (hk : T_spec_WordOk (a, b, c, d) = some true) : b.length ≤ 15 ∧ c.length ≤ 3 ∧ (∀ t ∈ c, t.length ≤ 12) ∧ d.length ≤ 20 := by
  obtain ⟨h_a, h_b, h_c, h_d⟩ := h
  obtain ⟨v, h1, h2, hv⟩ := x_isPrivate (a := b) h_b
  obtain ⟨w, h3, h4⟩ := x_areNames h_c
  have hd : d.length ≤ 1048576 := h_d
  have e1 : (d == []) = true → decide ((d.length : Int) ≤ 20) = true := fun h => by
    cases d with
    | nil => rfl
    | cons x d => cases h
  rw [e_T_spec_WordOk] at hk
  simp only [(x_inRange _ _ _).1, h1, h3, Option.bind_some, bif_bind, Sum.elim_inl] at hk
  have key : (v && w && (((c.length : Int) == 0) || ((c.length : Int) == 1) || decide ((1 : Int) ≤ c.length ∧ (c.length : Int) ≤ 3)) && decide ((d.length : Int) ≤ 20)) = true := by
    revert hk e1
    clear h1 h2 h3 h4 h_a h_b h_c h_d hv hd
    generalize (decide ((1 : Int) ≤ a ∧ a ≤ 4)) = z2
    generalize ((c.length : Int) == 0) = z
    generalize ((c.length : Int) == 1) = z1
    generalize (decide ((1 : Int) ≤ c.length ∧ (c.length : Int) ≤ 3)) = z3
    generalize (a == 3) = p3, (a == 4) = p4, (d == []) = q3, (decide ((d.length : Int) ≤ 20)) = q5
    revert v w z z1 z2 z3 p3 p4 q3 q5
    decide +kernel
  simp only [Bool.and_eq_true, Bool.or_eq_true, beq_iff_eq, decide_eq_true_eq] at key
  obtain ⟨⟨⟨k0, k1⟩, k3⟩, k4⟩ := key
  rw [k1] at h3
  exact ⟨hv k0, by omega, names_len h_c h3, by omega⟩
theorem shT_len {t : List UInt8} {n : Nat} (h : t.length ≤ n) : (shT t).length ≤ 2 * n + 1 := by
  have := vEnc_len t.length
  simp only [shT, List.length_append]; omega
theorem shTs_len {n : Nat} : ∀ {c : List (List UInt8)}, (∀ t ∈ c, t.length ≤ n) → (c.flatMap shT).length ≤ c.length * (2 * n + 1)
  | [], _ => by simp
  | t :: c, h => by
    have h1 := shT_len (h t (by simp))
    have h2 := shTs_len (c := c) (fun x hx => h x (by simp [hx]))
    simp only [List.flatMap_cons, List.length_append, List.length_cons, Nat.add_mul, Nat.one_mul]; omega
/-- A word's bytes. -/
def wordT (a : Nat) (b : List UInt8) (c : List (List UInt8)) (e : List UInt8) : List UInt8 := [UInt8.ofNat a] ++ shT b ++ vEnc c.length ++ c.flatMap shT ++ shT e
theorem namesT_flat : ∀ c : List (List UInt8), namesT c = c.flatMap shT
  | [] => rfl
  | t :: c => by rw [namesT, namesT_flat c, List.flatMap_cons]; rfl
theorem wordI_T (a : Nat) (b : List UInt8) (c : List (List UInt8)) (e : List UInt8) : wordI (a : Int) b c e = wordT a b c e := by
  unfold wordI wordT
  rw [namesT_flat, Int.toNat_natCast]
  simp only [shT, List.append_assoc]
theorem v_WordText {a : Nat} {b : List UInt8} {c : List (List UInt8)} {e : List UInt8} (h : (ET.pair (.int .i64) (.pair .str (.pair (.sl false .str) .str))).small ((a : Int), b, c, e)) {v : Bool} (hv : T_spec_WordOk ((a : Int), b, c, e) = some v) :
    T_spec_WordText ((a : Int), b, c, e) = some (bif v then (wordT a b c e, true) else ([], false)) := by
  rw [s_WordText h hv, wordI_T]
theorem r_ReadWord {a : List UInt8} (ha : a.length ≤ 1048576) : ∃ r, T_spec_ReadWord a = some r ∧ T_impl_ReadWord a = some r ∧ (ET.pair (.int .i64) (.pair .str (.pair (.sl false .str) .str))).small r.1 ∧ (r.2 = true → T_spec_WordText r.1 = some (a, true)) := by
  have ha4 : a.length ≤ 4294967296 := by omega
  obtain ⟨k, k', p1, q1, bs1, bi1, e1, e1', lk, lk', S1⟩ := one_step (bs := false) (bi := false) ha4 (Nat.zero_le a.length) (Nat.zero_le a.length) (fun _ => ⟨rfl, rfl⟩)
  have L1 : bi1 = false → bs1 = false ∧ q1 = p1 := fun h => ⟨(S1.go h).2.1, (S1.go h).2.2.1⟩
  obtain ⟨nm, nm', p3, q3, bs3, bi3, e3, e3', l3, l3', S3⟩ := sh_step ha4 S1.hp S1.hq L1
  have L3 : bi3 = false → bs3 = false ∧ q3 = p3 := fun h => ⟨(S3.go h).2.1, (S3.go h).2.2.1⟩
  obtain ⟨n, n', p4, q4, bs4, bi4, e4, e4', l4, l4', S4⟩ := num_step ha4 S3.hp S3.hq L3
  -- the program wants three at most
  let bi4' : Bool := bif decide (3 < n') then true else bi4
  let m' : Nat := bif decide (3 < n') then 0 else n'
  have L4 : bi4' = false → bs4 = false ∧ q4 = p4 := fun h => by
    have h0 : bi4 = false := by
      by_cases h3 : 3 < n'
      · simp only [bi4', decide_eq_true h3, cond_true] at h; cases h
      · simpa only [bi4', decide_eq_false h3, cond_false] using h
    exact ⟨(S4.go h0).2.1, (S4.go h0).2.2.1⟩
  have ecount : T___impl_scanner__count ((a, (q3 : Int), bi3), 3) = some ((m' : Int), a, (q4 : Int), bi4') := by
    rw [e_T___impl_scanner__count, e4', Option.bind_some]
    by_cases h3 : 3 < n'
    · simp only [show (3 : Int) < (n' : Int) by omega, decide_true, cond_true, bi4', m', h3]; rfl
    · simp only [show ¬ (3 : Int) < (n' : Int) by omega, decide_false, cond_false, bi4', m', h3]
  have hm' : m' ≤ 3 := by
    by_cases h3 : 3 < n'
    · simp [m', h3]
    · simp [m', h3]; omega
  -- the names
  have hrun : ∃ (ts us : List (List UInt8)) (p5 q5 : Nat) (bs5 bi5 : Bool), SRun T_spec_l05ReadShort a (min n 20) p4 bs4 ts p5 bs5 ∧ SRun T___impl_scanner__short a m' q4 bi4' us q5 bi5 ∧ ts.length = min n 20 ∧ us.length = m' ∧ (∀ t ∈ us, t.length ≤ a.length) ∧
      Stp a p4 q4 bs4 bi4 p5 q5 bs5 bi5 (ts.flatMap shT) (us = ts ∧ us.length = n') (3 < n ∨ ∃ t ∈ ts, 20000 < t.length) := by
    obtain ⟨ts, us0, p5, q50, bs5, bi50, r5, r50, t1, u01, t2, u02, S5⟩ := shs_step ha4 (min n 20) p4 q4 bs4 bi4' S4.hp S4.hq L4
    obtain ⟨_, us, _, q5, _, bi5, _, r5', _, u1, _, u2, S53⟩ := shs_step ha4 m' p4 q4 bs4 bi4' S4.hp S4.hq L4
    by_cases hb : bi4' = false
    · have h3 : ¬ 3 < n' := fun h3 => by simp only [bi4', decide_eq_true h3, cond_true] at hb; cases hb
      have hbb : bi4 = false := by simpa only [bi4', decide_eq_false h3, cond_false] using hb
      have hm : m' = n' := by simp only [m', decide_eq_false h3, cond_false]
      have hnn : n' = n := (S4.go hbb).2.2.2
      have hmin : min n 20 = m' := by omega
      rw [hmin] at r50 u01
      refine ⟨ts, us0, p5, q50, bs5, bi50, r5, r50, t1, u01, u02, S5.hp, S5.hq, fun h => ?_, S5.rd, fun h1 _ h2 => .inr (S5.far h1 hb h2)⟩
      obtain ⟨g1, g2, g3, g4, _⟩ := S5.go h
      exact ⟨hbb, g2, g3, g4, by omega⟩
    · have hb5 : bi5 = false → False := fun h => hb (S53.go h).1
      refine ⟨ts, us, p5, q5, bs5, bi5, r5, r5', t1, u1, u2, S5.hp, S53.hq, fun h => (hb5 h).elim, S5.rd, fun h1 h0 _ => ?_⟩
      by_cases h3 : 3 < n'
      · exact .inl (by rw [← (S4.go h0).2.2.2]; exact h3)
      · exact absurd (by simp only [bi4', decide_eq_false h3, cond_false]; exact h0) hb
  obtain ⟨ts, us, p5, q5, bs5, bi5, r5, r5', t1, u1, u2, S5⟩ := hrun
  obtain ⟨gs, p5', eg, g1, g2, g3, g4⟩ := sp_groups (z := (0, [], [], [])) (k := (k : Int)) (nm := nm) (e := []) l4 (min n 20) 0 p4 bs4 [] ts p5 bs5 fuel (by simp only [fuel]; omega) (by omega) rfl (by simp) S4.hp r5
  have eim := im_names (n := m') (by omega) m' 0 q4 bi4' [] us q5 bi5 fuel (by simp only [fuel]; omega) (by omega) rfl r5'
  rw [List.nil_append] at eim
  have S5' : Stp a p4 q4 bs4 bi4 p5' q5 bs5 bi5 (gs.flatMap shT) (us = gs ∧ us.length = n') (3 < n ∧ gs.length = min n 20 ∨ ∃ t ∈ gs, 20000 < t.length) := by
    refine ⟨g1, S5.hq, fun h => ?_, fun h => ?_, fun h h0 h1 => ?_⟩
    · obtain ⟨k1, k2, k3, k4, k5⟩ := S5.go h
      obtain ⟨j1, j2⟩ := g4 k2
      exact ⟨k1, k2, by rw [j2]; exact k3, by rw [j1]; exact k4, k5⟩
    · obtain ⟨j1, j2⟩ := g4 h
      rw [j1, j2]; exact S5.rd h
    · obtain ⟨j1, j2⟩ := g4 h
      rw [j1, List.nil_append]
      exact (S5.far h h0 h1).imp (fun h => ⟨h, t1⟩) id
  obtain ⟨e, e', p6, q6, bs6, bi6, e6, e6', l6, l6', S6⟩ := sh_step ha4 S5'.hp S5'.hq (fun h => ⟨(S5'.go h).2.1, (S5'.go h).2.2.1⟩)
  have S := (((S1.trans S3).trans S4).trans S5').trans S6
  -- what is read
  have small : ∀ {t : List UInt8}, t.length ≤ a.length → ET.str.small t := fun h => show _ ≤ 1048576 by omega
  have sm : (ET.pair (.int .i64) (.pair .str (.pair (.sl false .str) .str))).small ((k : Int), nm, gs, e) := ⟨trivial, small l3, ⟨show gs.length ≤ 1048576 by omega, fun x hx => small (g3 x hx)⟩, small l6⟩
  have sm' : (ET.pair (.int .i64) (.pair .str (.pair (.sl false .str) .str))).small ((k' : Int), nm', us, e') := ⟨trivial, small l3', ⟨show us.length ≤ 1048576 by omega, fun x hx => small (u2 x hx)⟩, small l6'⟩
  obtain ⟨v, v1, v2⟩ := x_WordOk sm
  obtain ⟨v', v1', v2'⟩ := x_WordOk sm'
  have es : T_spec_ReadWord a = some (bif bs6 || (!v || !(wordT k nm gs e == a)) then ((0, [], [], []), false) else (((k : Int), nm, gs, e), true)) := by
    rw [e_T_spec_ReadWord, show (0 : Int) = ((0 : Nat) : Int) from rfl, e1]
    simp only [Option.bind_some, e3, e4]
    rw [show ((0 : Nat) : Int) = (0 : Int) from rfl] at eg ⊢
    rw [eg]
    simp only [Option.bind_some, Sum.elim_inl, e6, v_WordText sm v1]
    cases bs6 <;> cases v <;> simp <;> (cases wordT k nm gs e == a <;> rfl)
  have ei : T_impl_ReadWord a = some (bif bi6 || (!((q6 : Int) == (a.length : Int)) || !v') then ((0, [], [], []), false) else (((k' : Int), nm', us, e'), true)) := by
    rw [e_T_impl_ReadWord, show (0 : Int) = ((0 : Nat) : Int) from rfl, e1']
    simp only [Option.bind_some, e3', e_T___impl_scanner__names, ecount]
    rw [show ((0 : Nat) : Int) = (0 : Int) from rfl] at eim ⊢
    rw [eim]
    simp only [Option.bind_some, Sum.elim_inl, e6', e_T___impl_scanner__done, v2']
    cases bi6 <;> cases v' <;> simp <;> (cases ((q6 : Int) == (a.length : Int)) <;> rfl)
  cases hb : bi6 with
  | false =>
    obtain ⟨_, hbs, hq, ⟨⟨⟨hk, hnm, _⟩, hn⟩, hus, hun⟩, he, _⟩ := S.go hb
    subst hk hnm hus he hq
    rw [v1] at v1'
    cases v1'
    rw [es, ei, hbs, hb]
    cases hv : v with
    | false => exact ⟨_, rfl, by simp, ⟨trivial, Nat.zero_le _, ⟨Nat.zero_le _, fun x hx => by cases hx⟩, Nat.zero_le _⟩, fun h => by simp at h⟩
    | true =>
      have hT : (wordT k' nm' us e' == a) = ((q6 : Int) == (a.length : Int)) := by
        rw [← (S.rd hbs).2.all, ← hn, ← hun]; rfl
      rw [← hT]
      cases hq : (wordT k' nm' us e' == a) with
      | false => exact ⟨_, rfl, rfl, ⟨trivial, Nat.zero_le _, ⟨Nat.zero_le _, fun x hx => by cases hx⟩, Nat.zero_le _⟩, fun h => by simp at h⟩
      | true =>
        rw [hv] at v1
        have hv2 := v_WordText sm v1
        rw [eq_of_beq hq] at hv2
        exact ⟨_, rfl, rfl, sm, fun _ => hv2⟩
  | true =>
    have hz : (bs6 || (!v || !(wordT k nm gs e == a))) = true := by
      cases hbs : bs6 with
      | true => rfl
      | false =>
        have hv : v = false := by
          cases hv : v with
          | false => rfl
          | true =>
            rw [hv] at v1
            obtain ⟨f1, f2, f3, f4⟩ := wordFit sm v1
            rcases S.far hbs rfl hb with (((h | h) | h) | (⟨h, h'⟩ | ⟨t, ht, h⟩)) | h
            · exact h.elim
            · omega
            · exact h.elim
            · omega
            · have := f3 t ht; omega
            · omega
        rw [hv]; rfl
    rw [es, ei, hz, hb]
    exact ⟨_, rfl, rfl, ⟨trivial, Nat.zero_le _, ⟨Nat.zero_le _, fun x hx => by cases hx⟩, Nat.zero_le _⟩, fun h => by simp at h⟩
end Xs
end Go.Proofs.YtjeikneboeallaaGreatDoor
