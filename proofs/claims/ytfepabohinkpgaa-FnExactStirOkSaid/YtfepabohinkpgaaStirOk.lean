/- Stirs, deeds: what the code computes. -/
import Derived.Test.YtfepabohinkpgaaXs
import Derived.Test.YtfepabohinkpgaaVm14
namespace Go.Proofs.Ytfepabohinkpgaa
open Go Vm Xs
set_option linter.unusedSimpArgs false
set_option linter.unusedVariables false
set_option maxHeartbeats 1000000

def inR (a b c : Int) : Bool := decide (b ≤ a) && decide (a ≤ c)
def deedOkS (a b c d : Int) (s : Str) : Bool :=
  if !inR a 1 9 || !inR b 1 5 || decide (c < 0) then false
  else if decide (a = 1) then inR d 1 2 && decide ((s.length : Int) ≤ 60) else decide (d = 0) && decide (s = [])
def noDeed (a b c d : Int) (s : Str) : Bool := decide (a = 0) && decide (b = 0) && decide (c = 0) && decide (d = 0) && decide (s = [])
def wordsOk (w : Bool) (d : Int) (s : Str) : Bool := if w then inR d 1 2 && decide ((s.length : Int) ≤ 60) else decide (d = 0) && decide (s = [])
def deedOkI (a b c d : Int) (s : Str) : Bool :=
  if !inR a 1 9 || !inR b 1 5 || decide (c < 0) then false else wordsOk (decide (a = 1)) d s
def stirOkS (k n : Int) (t : Str) (a b c d : Int) (s : Str) : Bool :=
  if !inR k 1 3 || !inR n 1 4 || decide (200 < (t.length : Int)) || (!decide (k = 1) && !decide (t = [])) then false
  else if decide (k = 3) then deedOkS a b c d s && !decide (a = 1) else noDeed a b c d s
def stirOkI (k n : Int) (t : Str) (a b c d : Int) (s : Str) : Bool :=
  if !inR k 1 3 || !inR n 1 4 || decide (200 < (t.length : Int)) then false
  else if !decide (k = 1) && !decide (t = []) then false
  else if decide (k = 3) then deedOkI a b c d s && !decide (a = 1) else noDeed a b c d s
def sub1 (n : Int) (s : Str) : Int := IntKind.i64.wrap (n - s.length)
def szDeed (s : Str) (n : Int) : Int := if sub1 n s < 0 then -1 else sub1 n s
def szStir (t s : Str) (n : Int) : Int := if sub1 n t < 0 then -1 else if szDeed s (sub1 n t) < 0 then -1 else szDeed s (sub1 n t)

theorem ok_l01In (a b c : Int) : Ok Try.prog n_spec_l01In [vi a, vi b, vi c] (fun r _ => r = vb (inR a b c)) := by
  refine Ok.of m_spec_l01In rfl ?_
  simp -implicitDefEqProofs only [X_spec_l01In, go_sem]
  repeat' (first
    | (refine w_split _ rfl ?_ ?_ <;> (intro hb; simp -implicitDefEqProofs only [hb, go_sem]))
    | (refine w_csplit _ rfl ?_ ?_ <;> (intro hb; simp -implicitDefEqProofs only [hb, go_sem])))
  all_goals first | done | rfl | grind [inR]
theorem ok_inRange (a b c : Int) : Ok Try.prog n_impl_inRange [vi a, vi b, vi c] (fun r _ => r = vb (inR a b c)) := by
  refine Ok.of m_impl_inRange rfl ?_
  simp -implicitDefEqProofs only [X_impl_inRange, go_sem]
  repeat' (first
    | (refine w_split _ rfl ?_ ?_ <;> (intro hb; simp -implicitDefEqProofs only [hb, go_sem]))
    | (refine w_csplit _ rfl ?_ ?_ <;> (intro hb; simp -implicitDefEqProofs only [hb, go_sem])))
  all_goals first | done | rfl | grind [inR]
theorem ok_isDaemon (a : Int) : Ok Try.prog n_impl_isDaemon [vi a] (fun r _ => r = vb (inR a 1 5)) := by
  refine Ok.of m_impl_isDaemon rfl ?_
  simp -implicitDefEqProofs only [X_impl_isDaemon, go_sem]
  repeat' (first
    | (refine w_split _ rfl ?_ ?_ <;> (intro hb; simp -implicitDefEqProofs only [hb, go_sem]))
    | (refine w_csplit _ rfl ?_ ?_ <;> (intro hb; simp -implicitDefEqProofs only [hb, go_sem]))
    | (apply w_callB
       case ha => simp -implicitDefEqProofs only [go_sem]; rfl
       case h => first | (apply ok_inRange <;> first | assumption | omega)
       case hna => simp -implicitDefEqProofs only [go_sem]
       case hn => simp -implicitDefEqProofs only [go_sem]
       try simp -implicitDefEqProofs only [go_sem]))
  all_goals first | done | rfl | grind [inR]
theorem ok_isLevel (a : Int) : Ok Try.prog n_impl_isLevel [vi a] (fun r _ => r = vb (inR a 1 2)) := by
  refine Ok.of m_impl_isLevel rfl ?_
  simp -implicitDefEqProofs only [X_impl_isLevel, go_sem]
  repeat' (first
    | (refine w_split _ rfl ?_ ?_ <;> (intro hb; simp -implicitDefEqProofs only [hb, go_sem]))
    | (refine w_csplit _ rfl ?_ ?_ <;> (intro hb; simp -implicitDefEqProofs only [hb, go_sem]))
    | (apply w_callB
       case ha => simp -implicitDefEqProofs only [go_sem]; rfl
       case h => first | (apply ok_inRange <;> first | assumption | omega)
       case hna => simp -implicitDefEqProofs only [go_sem]
       case hn => simp -implicitDefEqProofs only [go_sem]
       try simp -implicitDefEqProofs only [go_sem]))
  all_goals first | done | rfl | grind [inR]
theorem ok_wordsOk (w : Bool) (d : Int) (s : Str) : Ok Try.prog n_impl_wordsOk [vb w, vi d, vs s] (fun r _ => r = vb (wordsOk w d s)) := by
  refine Ok.of m_impl_wordsOk rfl ?_
  simp -implicitDefEqProofs only [X_impl_wordsOk, go_sem]
  repeat' (first
    | (refine w_split _ rfl ?_ ?_ <;> (intro hb; simp -implicitDefEqProofs only [hb, go_sem]))
    | (refine w_csplit _ rfl ?_ ?_ <;> (intro hb; simp -implicitDefEqProofs only [hb, go_sem]))
    | (apply w_callB
       case ha => simp -implicitDefEqProofs only [go_sem]; rfl
       case h => first | (apply ok_isLevel <;> first | assumption | omega)
       case hna => simp -implicitDefEqProofs only [go_sem]
       case hn => simp -implicitDefEqProofs only [go_sem]
       try simp -implicitDefEqProofs only [go_sem]))
  all_goals first | done | rfl | grind [wordsOk]
theorem ok_szDeed (a b c d n : Int) (s : Str) : Ok Try.prog n_laws_szDeed [.agg [vi a, vi b, vi c, vi d, vs s], vi n] (fun r _ => r = vi (szDeed s n)) := by
  refine Ok.of m_laws_szDeed rfl ?_
  simp -implicitDefEqProofs only [X_laws_szDeed, go_sem]
  repeat' (first
    | (refine w_split _ rfl ?_ ?_ <;> (intro hb; simp -implicitDefEqProofs only [hb, go_sem]))
    | (refine w_csplit _ rfl ?_ ?_ <;> (intro hb; simp -implicitDefEqProofs only [hb, go_sem])))
  all_goals first | done | rfl | grind [szDeed, sub1]
theorem ok_toDeed (a b c d : Int) (s : Str) : Ok Try.prog n_laws_toDeed [.agg [vi a, vi b, vi c, vi d, vs s]] (fun r _ => r = .agg [vi a, vi b, vi c, vi d, vs s]) := by
  refine Ok.of m_laws_toDeed rfl ?_
  simp -implicitDefEqProofs only [X_laws_toDeed, go_sem]
  repeat' (first
    | (refine w_split _ rfl ?_ ?_ <;> (intro hb; simp -implicitDefEqProofs only [hb, go_sem]))
    | (refine w_csplit _ rfl ?_ ?_ <;> (intro hb; simp -implicitDefEqProofs only [hb, go_sem])))
  all_goals first | done | rfl | grind []
theorem ok_DeedOkS (a b c d : Int) (s : Str) : Ok Try.prog n_spec_DeedOk [.agg [vi a, vi b, vi c, vi d, vs s]] (fun r _ => r = vb (deedOkS a b c d s)) := by
  refine Ok.of m_spec_DeedOk rfl ?_
  simp -implicitDefEqProofs only [X_spec_DeedOk, go_sem]
  repeat' (first
    | (refine w_split _ rfl ?_ ?_ <;> (intro hb; simp -implicitDefEqProofs only [hb, go_sem]))
    | (refine w_csplit _ rfl ?_ ?_ <;> (intro hb; simp -implicitDefEqProofs only [hb, go_sem]))
    | (apply w_callB
       case ha => simp -implicitDefEqProofs only [go_sem]; rfl
       case h => first | (apply ok_l01In <;> first | assumption | omega)
       case hna => simp -implicitDefEqProofs only [go_sem]
       case hn => simp -implicitDefEqProofs only [go_sem]
       try simp -implicitDefEqProofs only [go_sem]))
  all_goals first | done | rfl | grind [deedOkS]
theorem ok_noDeed (a b c d : Int) (s : Str) : Ok Try.prog n_spec_l20NoDeed [.agg [vi a, vi b, vi c, vi d, vs s]] (fun r _ => r = vb (noDeed a b c d s)) := by
  refine Ok.of m_spec_l20NoDeed rfl ?_
  simp -implicitDefEqProofs only [X_spec_l20NoDeed, go_sem]
  repeat' (first
    | (refine w_split _ rfl ?_ ?_ <;> (intro hb; simp -implicitDefEqProofs only [hb, go_sem]))
    | (refine w_csplit _ rfl ?_ ?_ <;> (intro hb; simp -implicitDefEqProofs only [hb, go_sem])))
  all_goals first | done | rfl | grind [noDeed]
theorem ok_DeedOkI (a b c d : Int) (s : Str) : Ok Try.prog n_impl_DeedOk [.agg [vi a, vi b, vi c, vi d, vs s]] (fun r _ => r = vb (deedOkI a b c d s)) := by
  refine Ok.of m_impl_DeedOk rfl ?_
  simp -implicitDefEqProofs only [X_impl_DeedOk, go_sem]
  repeat' (first
    | (refine w_split _ rfl ?_ ?_ <;> (intro hb; simp -implicitDefEqProofs only [hb, go_sem]))
    | (refine w_csplit _ rfl ?_ ?_ <;> (intro hb; simp -implicitDefEqProofs only [hb, go_sem]))
    | (apply w_callB
       case ha => simp -implicitDefEqProofs only [go_sem]; rfl
       case h => first | (apply ok_inRange <;> first | assumption | omega) | (apply ok_isDaemon <;> first | assumption | omega) | (apply ok_wordsOk <;> first | assumption | omega)
       case hna => simp -implicitDefEqProofs only [go_sem]
       case hn => simp -implicitDefEqProofs only [go_sem]
       try simp -implicitDefEqProofs only [go_sem]))
  all_goals first | done | rfl | grind [deedOkI]
theorem ok_szStir (k m : Int) (t : Str) (a b c d n : Int) (s : Str) : Ok Try.prog n_laws_szStir [.agg [vi k, vi m, vs t, vi a, vi b, vi c, vi d, vs s], vi n] (fun r _ => r = vi (szStir t s n)) := by
  refine Ok.of m_laws_szStir rfl ?_
  simp -implicitDefEqProofs only [X_laws_szStir, go_sem]
  repeat' (first
    | (refine w_split _ rfl ?_ ?_ <;> (intro hb; simp -implicitDefEqProofs only [hb, go_sem]))
    | (refine w_csplit _ rfl ?_ ?_ <;> (intro hb; simp -implicitDefEqProofs only [hb, go_sem]))
    | (apply w_callB
       case ha => simp -implicitDefEqProofs only [go_sem]; rfl
       case h => first | (apply ok_szDeed <;> first | assumption | omega)
       case hna => simp -implicitDefEqProofs only [go_sem]
       case hn => simp -implicitDefEqProofs only [go_sem]
       try simp -implicitDefEqProofs only [go_sem]))
  all_goals first | done | rfl | grind [szStir, sub1]
theorem ok_toStir (k m : Int) (t : Str) (a b c d : Int) (s : Str) : Ok Try.prog n_laws_toStir [.agg [vi k, vi m, vs t, vi a, vi b, vi c, vi d, vs s]] (fun r _ => r = .agg [vi k, vi m, vs t, vi a, vi b, vi c, vi d, vs s]) := by
  refine Ok.of m_laws_toStir rfl ?_
  simp -implicitDefEqProofs only [X_laws_toStir, go_sem]
  repeat' (first
    | (refine w_split _ rfl ?_ ?_ <;> (intro hb; simp -implicitDefEqProofs only [hb, go_sem]))
    | (refine w_csplit _ rfl ?_ ?_ <;> (intro hb; simp -implicitDefEqProofs only [hb, go_sem]))
    | (apply w_callB
       case ha => simp -implicitDefEqProofs only [go_sem]; rfl
       case h => first | (apply ok_toDeed <;> first | assumption | omega)
       case hna => simp -implicitDefEqProofs only [go_sem]
       case hn => simp -implicitDefEqProofs only [go_sem]
       try simp -implicitDefEqProofs only [go_sem]))
  all_goals first | done | rfl | grind []
theorem ok_StirOkS (k m : Int) (t : Str) (a b c d : Int) (s : Str) : Ok Try.prog n_spec_StirOk [.agg [vi k, vi m, vs t, vi a, vi b, vi c, vi d, vs s]] (fun r _ => r = vb (stirOkS k m t a b c d s)) := by
  refine Ok.of m_spec_StirOk rfl ?_
  simp -implicitDefEqProofs only [X_spec_StirOk, go_sem]
  repeat' (first
    | (refine w_split _ rfl ?_ ?_ <;> (intro hb; simp -implicitDefEqProofs only [hb, go_sem]))
    | (refine w_csplit _ rfl ?_ ?_ <;> (intro hb; simp -implicitDefEqProofs only [hb, go_sem]))
    | (apply w_callB
       case ha => simp -implicitDefEqProofs only [go_sem]; rfl
       case h => first | (apply ok_l01In <;> first | assumption | omega) | (apply ok_DeedOkS <;> first | assumption | omega) | (apply ok_noDeed <;> first | assumption | omega)
       case hna => simp -implicitDefEqProofs only [go_sem]
       case hn => simp -implicitDefEqProofs only [go_sem]
       try simp -implicitDefEqProofs only [go_sem]))
  all_goals first | done | rfl | grind [stirOkS]
theorem ok_StirOkI (k m : Int) (t : Str) (a b c d : Int) (s : Str) : Ok Try.prog n_impl_StirOk [.agg [vi k, vi m, vs t, vi a, vi b, vi c, vi d, vs s]] (fun r _ => r = vb (stirOkI k m t a b c d s)) := by
  refine Ok.of m_impl_StirOk rfl ?_
  simp -implicitDefEqProofs only [X_impl_StirOk, go_sem]
  repeat' (first
    | (refine w_split _ rfl ?_ ?_ <;> (intro hb; simp -implicitDefEqProofs only [hb, go_sem]))
    | (refine w_csplit _ rfl ?_ ?_ <;> (intro hb; simp -implicitDefEqProofs only [hb, go_sem]))
    | (apply w_callB
       case ha => simp -implicitDefEqProofs only [go_sem]; rfl
       case h => first | (apply ok_inRange <;> first | assumption | omega) | (apply ok_DeedOkI <;> first | assumption | omega)
       case hna => simp -implicitDefEqProofs only [go_sem]
       case hn => simp -implicitDefEqProofs only [go_sem]
       try simp -implicitDefEqProofs only [go_sem]))
  all_goals first | done | rfl | grind [stirOkI, noDeed]
theorem deedOk_same (a b c d : Int) (s : Str) : deedOkI a b c d s = deedOkS a b c d s := by
  unfold deedOkI deedOkS wordsOk; rfl
theorem stirOk_same (k n : Int) (t : Str) (a b c d : Int) (s : Str) : stirOkI k n t a b c d s = stirOkS k n t a b c d s := by
  unfold stirOkI stirOkS
  rw [deedOk_same]
  grind
theorem ok_law_StirOk (k m : Int) (t : Str) (a b c d : Int) (s : Str) : Ok Try.prog n_laws_FnExactStirOk [.agg [vi k, vi m, vs t, vi a, vi b, vi c, vi d, vs s]] (fun r _ => r = vb true) := by
  refine Ok.of m_laws_FnExactStirOk rfl ?_
  simp -implicitDefEqProofs only [X_laws_FnExactStirOk, go_sem]
  repeat' (first
    | (refine w_split _ rfl ?_ ?_ <;> (intro hb; simp -implicitDefEqProofs only [hb, go_sem]))
    | (refine w_csplit _ rfl ?_ ?_ <;> (intro hb; simp -implicitDefEqProofs only [hb, go_sem]))
    | (apply w_callB
       case ha => simp -implicitDefEqProofs only [go_sem]; rfl
       case h => first | (apply ok_szStir <;> first | assumption | omega) | (apply ok_toStir <;> first | assumption | omega) | (apply ok_StirOkS <;> first | assumption | omega) | (apply ok_StirOkI <;> first | assumption | omega)
       case hna => simp -implicitDefEqProofs only [go_sem]
       case hn => simp -implicitDefEqProofs only [go_sem]
       try simp -implicitDefEqProofs only [go_sem]))
  all_goals first | done | rfl | grind [stirOk_same]
end Go.Proofs.Ytfepabohinkpgaa
