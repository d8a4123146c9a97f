/- What the reference's function answers, and the program's: the same. -/
import Derived.Test.YtdbhnefcmnglnaaDoorXHNPc
namespace Go.Proofs.YtdbhnefcmnglnaaDoor
open Go Vm
set_option linter.unusedVariables false
set_option linter.unusedSimpArgs false
namespace Xs
abbrev RingE (o : Bool) : ET := .pair (.int .i64) (.sl o (.int .i64))
abbrev ItemE : ET := .pair (.int .i64) (.pair (.int .i64) (.pair (.int .i64) .str))
abbrev TokE (o : Bool) : ET := .pair (.int .i64) (.pair (.int .i64) (.pair (.int .i64) (.pair (.int .i64) (.pair (.int .i64) (.sl o (.int .i64))))))
abbrev MateE (o : Bool) : ET := .pair (.int .i64) (.pair (RingE o) (.pair (.sl o ItemE) (.pair (.sl o (.int .i64)) (.pair (.sl o .str) (.pair (.int .i64) (.pair (.int .i64) (.pair (.int .i64) (.pair (.int .i64) (TokE o)))))))))
abbrev BundleE (o : Bool) : ET := .pair (.int .i64) (.pair (.int .i64) (.pair (.int .i64) (.sl o ItemE)))
abbrev EventE (o : Bool) : ET := .pair (.int .i64) (.pair (RingE o) (.pair ItemE (.sl o (.int .i64))))
abbrev DaemonE (o : Bool) : ET := .pair (.int .i64) (.pair .bool (.pair (MateE o) (.pair (.int .i64) (.pair (.int .i64) (.pair (RingE o) (.pair (.sl o (BundleE o)) (.sl o (EventE o))))))))
abbrev LetterE (o : Bool) : ET := .pair (.int .i64) (.pair (.int .i64) (.pair (.int .i64) (.pair ItemE (.pair (TokE o) (BundleE o)))))
abbrev WorldE (o : Bool) : ET := .pair (.sl o (RingE o)) (.pair (.sl o (DaemonE o)) (.pair (.sl o (LetterE o)) (.sl o (EventE o))))
abbrev CallerE (o : Bool) : ET := .pair (.pair (.int .i64) (.pair .str (.pair (.pair .str .bool) (.pair .bool (.sl o .str))))) (.pair (.pair .str (.pair (.sl o .str) .bool)) (.pair .str (.sl o .str)))
abbrev HallE (o : Bool) : ET := .pair (WorldE o) (.pair (.sl o (CallerE o)) (.pair (.sl o (.sl o (.pair .str (.sl o .str)))) (.sl o (.int .i64))))
theorem czs_small : (ET.sl false (CallerE false)).small czs := ms_small _ _ (by
  have h1 := itoa_len (a := 1) (by omega) (by omega)
  have h2 := itoa_len (a := 2) (by omega) (by omega)
  have h3 := itoa_len (a := 3) (by omega) (by omega)
  have h4 := itoa_len (a := 4) (by omega) (by omega)
  simp only [ET.ms, sumI, czs, cz, List.length_cons, List.length_nil, List.length_append]
  omega)
theorem hz_ok {w : List (Int × List Int)} (hm : (ET.sl false (RingE false)).ms w ≤ 1048576) : (HallE false).small (hz w) ∧ (HallE true).wt (hz w) ≤ 1000000000 := by
  have hs : (ET.sl false (RingE false)).small w := ms_small _ _ hm
  have s1 : (ET.sl false (DaemonE false)).small dzs := ms_small _ _ (by decide +kernel)
  have s2 : (ET.sl false (LetterE false)).small [] := ms_small _ _ (by decide +kernel)
  have s3 : (ET.sl false (EventE false)).small [] := ms_small _ _ (by decide +kernel)
  have s5 : (ET.sl false (.sl false (.pair .str (.sl false .str)))).small [[], [], [], [], []] := ms_small _ _ (by decide +kernel)
  have s6 : (ET.sl false (.int .i64)).small [0, 0, 0, 0, 0] := ms_small _ _ (by decide +kernel)
  refine ⟨⟨⟨hs, s1, s2, s3⟩, czs_small, s5, s6⟩, ?_⟩
  have w1 := wt_top (e := .sl true (RingE true)) (x := w) hm
  have w2 : (ET.sl true (RingE true)).fw + (ET.sl true (RingE true)).mw * 1048576 ≤ 100000000 := by decide +kernel
  have w3 : (HallE true).wt (hz w) = ((ET.sl true (RingE true)).wt w + ((ET.sl true (DaemonE true)).wt dzs + (0 + 0))) + ((ET.sl true (CallerE true)).wt czs + ((ET.sl true (.sl true (.pair .str (.sl true .str)))).wt [[], [], [], [], []] + (ET.sl true (.int .i64)).wt [0, 0, 0, 0, 0])) := rfl
  have w4 : (ET.sl true (DaemonE true)).wt dzs ≤ 1000 := by decide +kernel
  have w5 : (ET.sl true (CallerE true)).wt czs ≤ 1000 := by decide +kernel
  have w6 : (ET.sl true (.sl true (.pair .str (.sl true .str)))).wt [[], [], [], [], []] ≤ 1000 := by decide +kernel
  have w7 : (ET.sl true (.int .i64)).wt [0, 0, 0, 0, 0] ≤ 1000 := by decide +kernel
  omega
theorem h0_ok : (HallE false).small h0 ∧ (HallE true).wt h0 ≤ 1000000000 := ⟨ms_small _ _ (by decide +kernel), by decide +kernel⟩
theorem law_FnExactHallNew (w : Den [.cell (.sl false (RingE false))]) (h : okL [.cell (.sl false (RingE false))] w) : T_laws_FnExactHallNew w = some true := by
  obtain ⟨r, h1, h2, h3⟩ := zm_szRingS w 1048576 h (by decide) (by decide)
  rw [e_T_laws_FnExactHallNew, h1]
  simp only [Option.bind_some]
  by_cases hr : r < 0
  · simp [hr]
  · have hm : (ET.sl false (RingE false)).ms w ≤ 1048576 := Int.le_trans (h3 (by omega)) (by omega)
    have hs : (ET.sl false (RingE false)).small w := ms_small _ _ hm
    obtain ⟨g, b, h4, h5, h6⟩ := x_HallNew (a := w) hs.1 (fun y hy => (hs.2 y hy).2.1)
    have hg : (HallE false).small g ∧ (HallE true).wt g ≤ 1000000000 := by
      rcases h6 with rfl | rfl
      · exact h0_ok
      · exact hz_ok hm
    have w1 := wt_top (e := .sl true (RingE true)) (x := w) hm
    have w2 : (ET.sl true (RingE true)).fw + (ET.sl true (RingE true)).mw * 1048576 ≤ 100000000 := by decide +kernel
    have w5 := wt_nn (HallE true) g
    have w6 := wt_nn (.sl true (RingE true)) w
    obtain ⟨k1, x1, m1, _, l1⟩ := (show MkW (.sl true (RingE true)) T_laws_markRingS _ from mk_markRingS) w 1 hs (by decide) (by omega)
    obtain ⟨k2, x2, m2, d2, l2⟩ := (show MkW (HallE true) T_laws_markHall _ from mk_markHall) g 1 hg.1 (by decide) (by omega)
    have n1 : decide (k1 < 0) = false := decide_eq_false (by omega)
    have n2 : decide (k2 < 0) = false := decide_eq_false (by omega)
    have hgs := hg.1
    obtain ⟨⟨ga, gb, gc, gd⟩, ge, gf, gg⟩ := g
    obtain ⟨⟨xa, xb, xc, xd⟩, xe, xf, xg⟩ := x2
    simp only [hr, decide_false, cond_false, c_toRingS hs, h4, h5, q_eqRingS hs, q_eqHall hgs, m1, m2, d2, n1, n2, Option.bind_some, Sum.elim_inl, beq_self_eq_true, Bool.not_true]
end Xs
end Go.Proofs.YtdbhnefcmnglnaaDoor
