/- The typed code of the functions, printed by program. -/
import Derived.Test.YtkjpdhdmjjepfaaT7
import Derived.Test.YtkjpdhdmjjepfaaProg
import Derived.KernelRfl


namespace Go.Proofs.Ytkjpdhdmjjepfaa
open Go Vm
namespace Xs
theorem mixed : Try.prog.follows .mixedOrders = true := by kernel_rfl
abbrev n_laws_FnExactSafeKept : Nat := 4
abbrev n_laws_szWorld : Nat := 5
abbrev n_laws_toWorld : Nat := 7
abbrev n_laws_eqWorld : Nat := 9
abbrev n_spec_SafeKept : Nat := 10
abbrev n_impl_SafeKept : Nat := 11
abbrev n_laws_szRingS : Nat := 12
abbrev n_laws_szDaemonS : Nat := 13
abbrev n_laws_szLetterS : Nat := 14
abbrev n_laws_szEventS : Nat := 15
abbrev n_laws_toRingS : Nat := 17
abbrev n_laws_toDaemonS : Nat := 18
abbrev n_laws_toLetterS : Nat := 19
abbrev n_laws_toEventS : Nat := 20
abbrev n_laws_eqRingS : Nat := 22
abbrev n_laws_eqDaemonS : Nat := 23
abbrev n_laws_eqLetterS : Nat := 24
abbrev n_laws_eqEventS : Nat := 25
abbrev n_spec_l16PartAt : Nat := 26
abbrev n_spec_l16Has : Nat := 27
abbrev n_impl_partOf : Nat := 28
abbrev n_impl_keptBy : Nat := 29
abbrev n_laws_szRing : Nat := 30
abbrev n_laws_szDaemon : Nat := 31
abbrev n_laws_szLetter : Nat := 32
abbrev n_laws_szEvent : Nat := 33
abbrev n_laws_toRing : Nat := 34
abbrev n_laws_toDaemon : Nat := 35
abbrev n_laws_toLetter : Nat := 36
abbrev n_laws_toEvent : Nat := 37
abbrev n_laws_eqRing : Nat := 38
abbrev n_laws_eqDaemon : Nat := 39
abbrev n_laws_eqLetter : Nat := 40
abbrev n_laws_eqEvent : Nat := 41
abbrev n_slices_IndexFunc___impl_Event_impl_Event_ : Nat := 42
abbrev n_impl_partOf_1 : Nat := 43
abbrev n_impl_hasItem : Nat := 44
abbrev n_impl_uptoWhole : Nat := 45
abbrev n_laws_szIntS : Nat := 46
abbrev n_laws_szMate : Nat := 47
abbrev n_laws_szBundleS : Nat := 48
abbrev n_laws_szItem : Nat := 49
abbrev n_laws_szToken : Nat := 50
abbrev n_laws_szBundle : Nat := 51
abbrev n_laws_toIntS : Nat := 52
abbrev n_laws_toMate : Nat := 53
abbrev n_laws_toBundleS : Nat := 54
abbrev n_laws_toItem : Nat := 55
abbrev n_laws_toToken : Nat := 56
abbrev n_laws_toBundle : Nat := 57
abbrev n_laws_eqIntS : Nat := 58
abbrev n_laws_eqMate : Nat := 59
abbrev n_laws_eqBundleS : Nat := 60
abbrev n_laws_eqItem : Nat := 61
abbrev n_laws_eqToken : Nat := 62
abbrev n_laws_eqBundle : Nat := 63
abbrev n_slices_ContainsFunc___impl_Event_impl_Event_ : Nat := 64
abbrev n_impl_hasItem_1 : Nat := 65
abbrev n_impl_sameItem : Nat := 66
abbrev n_laws_szItemS : Nat := 67
abbrev n_laws_szStringS : Nat := 68
abbrev n_laws_toItemS : Nat := 69
abbrev n_laws_toStringS : Nat := 70
abbrev n_laws_eqItemS : Nat := 71
abbrev n_laws_eqStringS : Nat := 72
def F_laws_szIntS : TF := ⟨(.seq (.reg none [.p (.mv 4 (.c (.int .i64 0))) .unit])
 (.seq (.reg none [.p (.mv 5 (.t 1)) .unit,
  .p (.mv 6 (.t 0)) .unit,
  .p (.lenB 7 (.t 6)) .unit,
  .p (.bin 8 false .sub (.t 5) (.t 7)) .unit,
  .p (.mv 1 (.t 8)) .unit])
 (.seq (.seq (.reg none [.p (.mv 9 (.t 1)) .unit,
  .p (.bin 10 false .lss (.t 9) (.c (.int .i64 0))) .unit])
 (.cond (.t 10) (.seq (.reg none [.p (.mv 4 (.c (.int .i64 (-1)))) .unit])
 .ret) .skip))
 (.seq (.reg none [.p (.mv 11 (.t 1)) .unit,
  .p (.mv 4 (.t 11)) .unit])
 .ret)))),
 12, 2, [.t 4]⟩
theorem m_laws_szIntS : mH Try.prog 46 [] = some (F_laws_szIntS.code.x, F_laws_szIntS.N, F_laws_szIntS.np, F_laws_szIntS.res) := by kernel_rfl
noncomputable def T_laws_szIntS : (List (Int)) × Int → Option (Int) := evF [] F_laws_szIntS [.cell (.sl false (.int .i64)), .cell (.int .i64)] [] [.cell (.int .i64)] []
noncomputable def fn_laws_szIntS : TFn := ⟨46, [.cell (.sl false (.int .i64)), .cell (.int .i64)], [], [.cell (.int .i64)], [], T_laws_szIntS⟩
theorem ok_laws_szIntS : FnOk Try.prog fn_laws_szIntS := evF_ok mixed allOk_nil m_laws_szIntS (by decide)
def F_laws_szRing : TF := ⟨(.seq (.reg none [.p (.box 2 (.t 0)) .unit,
  .p (.mv 4 (.c (.int .i64 0))) .unit])
 (.seq (.reg none [.p (.fadr 5 (.t 2) 1) .unit,
  .p (.load 6 (.t 5) 1 false) .unit,
  .p (.mv 7 (.t 1)) .unit,
  .p (.callB 8 n_laws_szIntS [((.t 6), 0), ((.t 7), 0)]) .unit,
  .p (.mv 1 (.t 8)) .unit])
 (.seq (.seq (.reg none [.p (.mv 9 (.t 1)) .unit,
  .p (.bin 10 false .lss (.t 9) (.c (.int .i64 0))) .unit])
 (.cond (.t 10) (.seq (.reg none [.p (.mv 4 (.c (.int .i64 (-1)))) .unit])
 .ret) .skip))
 (.seq (.reg none [.p (.mv 11 (.t 1)) .unit,
  .p (.mv 4 (.t 11)) .unit])
 .ret)))),
 12, 2, [.t 4]⟩
theorem m_laws_szRing : mH Try.prog 30 [] = some (F_laws_szRing.code.x, F_laws_szRing.N, F_laws_szRing.np, F_laws_szRing.res) := by kernel_rfl
noncomputable def T_laws_szRing : (Int × List (Int)) × Int → Option (Int) := evF [fn_laws_szIntS] F_laws_szRing [.agg (.pair (.int .i64) (.sl false (.int .i64))), .cell (.int .i64)] [] [.cell (.int .i64)] []
noncomputable def fn_laws_szRing : TFn := ⟨30, [.agg (.pair (.int .i64) (.sl false (.int .i64))), .cell (.int .i64)], [], [.cell (.int .i64)], [], T_laws_szRing⟩
theorem ok_laws_szRing : FnOk Try.prog fn_laws_szRing := evF_ok mixed (allOk_cons ok_laws_szIntS allOk_nil) m_laws_szRing (by decide)
def B_laws_szRingS_1 : TC := (.seq (.seq (.reg none [.p (.mv 12 (.t 5)) .unit,
  .p (.mv 13 (.t 0)) .unit,
  .p (.lenB 14 (.t 13)) .unit,
  .p (.bin 15 false .lss (.t 12) (.t 14)) .unit])
 (.cond (.t 15) .skip (.exit 0)))
 (.seq (.block 1 (.seq (.reg none [.p (.mv 18 (.t 0)) .unit,
  .p (.mv 19 (.t 5)) .unit,
  .p (.iadr 20 2 (.t 18) (.t 19)) .unit,
  .p (.load 21 (.t 20) 2 true) .unit,
  .p (.mv 22 (.t 1)) .unit,
  .p (.callB 23 n_laws_szRing [((.t 21), 0), ((.t 22), 0)]) .unit,
  .p (.mv 1 (.t 23)) .unit])
 (.seq (.reg none [.p (.mv 24 (.t 1)) .unit,
  .p (.bin 25 false .lss (.t 24) (.c (.int .i64 0))) .unit])
 (.cond (.t 25) (.seq (.reg none [.p (.mv 4 (.c (.int .i64 (-1)))) .unit])
 .ret) .skip))))
 (.reg none [.p (.mv 16 (.t 5)) .unit,
  .p (.bin 17 false .add (.t 16) (.c (.int .i64 1))) .unit,
  .p (.mv 5 (.t 17)) .unit])))
noncomputable def L_laws_szRingS_1 : Nat → (List (Int × List (Int))) × (Int) × Int → Option ((Int) ⊕ (Int)) := evL [fn_laws_szRing] (finT [.t 4] [] [.cell (.int .i64)]) 0 ⟨[(0, true), (1, false), (5, false)], [.cell (.sl false (.pair (.int .i64) (.sl false (.int .i64)))), .cell (.int .i64), .cell (.int .i64)]⟩ ⟨[(1, false)], [.cell (.int .i64)]⟩ B_laws_szRingS_1
def F_laws_szRingS : TF := ⟨(.seq (.reg none [.p (.mv 4 (.c (.int .i64 0))) .unit])
 (.seq (.reg none [.p (.mv 6 (.t 1)) .unit,
  .p (.mv 7 (.t 0)) .unit,
  .p (.lenB 8 (.t 7)) .unit,
  .p (.bin 9 false .sub (.t 6) (.t 8)) .unit,
  .p (.mv 1 (.t 9)) .unit])
 (.seq (.seq (.reg none [.p (.mv 10 (.t 1)) .unit,
  .p (.bin 11 false .lss (.t 10) (.c (.int .i64 0))) .unit])
 (.cond (.t 11) (.seq (.reg none [.p (.mv 4 (.c (.int .i64 (-1)))) .unit])
 .ret) .skip))
 (.seq (.seq (.reg none [.p (.mv 5 (.c (.int .i64 0))) .unit])
 (.jl 0 ⟨[(0, true), (1, false), (5, false)], [.cell (.sl false (.pair (.int .i64) (.sl false (.int .i64)))), .cell (.int .i64), .cell (.int .i64)]⟩ ⟨[(1, false)], [.cell (.int .i64)]⟩ B_laws_szRingS_1))
 (.seq (.reg none [.p (.mv 26 (.t 1)) .unit,
  .p (.mv 4 (.t 26)) .unit])
 .ret))))),
 27, 2, [.t 4]⟩
theorem m_laws_szRingS : mH Try.prog 12 [] = some (F_laws_szRingS.code.x, F_laws_szRingS.N, F_laws_szRingS.np, F_laws_szRingS.res) := by kernel_rfl
noncomputable def T_laws_szRingS : (List (Int × List (Int))) × Int → Option (Int) := evF [fn_laws_szRing] F_laws_szRingS [.cell (.sl false (.pair (.int .i64) (.sl false (.int .i64)))), .cell (.int .i64)] [] [.cell (.int .i64)] []
noncomputable def fn_laws_szRingS : TFn := ⟨12, [.cell (.sl false (.pair (.int .i64) (.sl false (.int .i64)))), .cell (.int .i64)], [], [.cell (.int .i64)], [], T_laws_szRingS⟩
theorem ok_laws_szRingS : FnOk Try.prog fn_laws_szRingS := evF_ok mixed (allOk_cons ok_laws_szRing allOk_nil) m_laws_szRingS (by decide)
def F_laws_szItem : TF := ⟨(.seq (.reg none [.p (.box 2 (.t 0)) .unit,
  .p (.mv 4 (.c (.int .i64 0))) .unit])
 (.seq (.reg none [.p (.mv 5 (.t 1)) .unit,
  .p (.fadr 6 (.t 2) 3) .unit,
  .p (.load 7 (.t 6) 1 false) .unit,
  .p (.lenS 8 (.t 7)) .unit,
  .p (.bin 9 false .sub (.t 5) (.t 8)) .unit,
  .p (.mv 1 (.t 9)) .unit])
 (.seq (.seq (.reg none [.p (.mv 10 (.t 1)) .unit,
  .p (.bin 11 false .lss (.t 10) (.c (.int .i64 0))) .unit])
 (.cond (.t 11) (.seq (.reg none [.p (.mv 4 (.c (.int .i64 (-1)))) .unit])
 .ret) .skip))
 (.seq (.reg none [.p (.mv 12 (.t 1)) .unit,
  .p (.mv 4 (.t 12)) .unit])
 .ret)))),
 13, 2, [.t 4]⟩
theorem m_laws_szItem : mH Try.prog 49 [] = some (F_laws_szItem.code.x, F_laws_szItem.N, F_laws_szItem.np, F_laws_szItem.res) := by kernel_rfl
noncomputable def T_laws_szItem : (Int × Int × Int × List UInt8) × Int → Option (Int) := evF [] F_laws_szItem [.agg (.pair (.int .i64) (.pair (.int .i64) (.pair (.int .i64) .str))), .cell (.int .i64)] [] [.cell (.int .i64)] []
noncomputable def fn_laws_szItem : TFn := ⟨49, [.agg (.pair (.int .i64) (.pair (.int .i64) (.pair (.int .i64) .str))), .cell (.int .i64)], [], [.cell (.int .i64)], [], T_laws_szItem⟩
theorem ok_laws_szItem : FnOk Try.prog fn_laws_szItem := evF_ok mixed allOk_nil m_laws_szItem (by decide)
def B_laws_szItemS_1 : TC := (.seq (.seq (.reg none [.p (.mv 12 (.t 5)) .unit,
  .p (.mv 13 (.t 0)) .unit,
  .p (.lenB 14 (.t 13)) .unit,
  .p (.bin 15 false .lss (.t 12) (.t 14)) .unit])
 (.cond (.t 15) .skip (.exit 0)))
 (.seq (.block 1 (.seq (.reg none [.p (.mv 18 (.t 0)) .unit,
  .p (.mv 19 (.t 5)) .unit,
  .p (.iadr 20 4 (.t 18) (.t 19)) .unit,
  .p (.load 21 (.t 20) 4 true) .unit,
  .p (.mv 22 (.t 1)) .unit,
  .p (.callB 23 n_laws_szItem [((.t 21), 0), ((.t 22), 0)]) .unit,
  .p (.mv 1 (.t 23)) .unit])
 (.seq (.reg none [.p (.mv 24 (.t 1)) .unit,
  .p (.bin 25 false .lss (.t 24) (.c (.int .i64 0))) .unit])
 (.cond (.t 25) (.seq (.reg none [.p (.mv 4 (.c (.int .i64 (-1)))) .unit])
 .ret) .skip))))
 (.reg none [.p (.mv 16 (.t 5)) .unit,
  .p (.bin 17 false .add (.t 16) (.c (.int .i64 1))) .unit,
  .p (.mv 5 (.t 17)) .unit])))
noncomputable def L_laws_szItemS_1 : Nat → (List (Int × Int × Int × List UInt8)) × (Int) × Int → Option ((Int) ⊕ (Int)) := evL [fn_laws_szItem] (finT [.t 4] [] [.cell (.int .i64)]) 0 ⟨[(0, true), (1, false), (5, false)], [.cell (.sl false (.pair (.int .i64) (.pair (.int .i64) (.pair (.int .i64) .str)))), .cell (.int .i64), .cell (.int .i64)]⟩ ⟨[(1, false)], [.cell (.int .i64)]⟩ B_laws_szItemS_1
def F_laws_szItemS : TF := ⟨(.seq (.reg none [.p (.mv 4 (.c (.int .i64 0))) .unit])
 (.seq (.reg none [.p (.mv 6 (.t 1)) .unit,
  .p (.mv 7 (.t 0)) .unit,
  .p (.lenB 8 (.t 7)) .unit,
  .p (.bin 9 false .sub (.t 6) (.t 8)) .unit,
  .p (.mv 1 (.t 9)) .unit])
 (.seq (.seq (.reg none [.p (.mv 10 (.t 1)) .unit,
  .p (.bin 11 false .lss (.t 10) (.c (.int .i64 0))) .unit])
 (.cond (.t 11) (.seq (.reg none [.p (.mv 4 (.c (.int .i64 (-1)))) .unit])
 .ret) .skip))
 (.seq (.seq (.reg none [.p (.mv 5 (.c (.int .i64 0))) .unit])
 (.jl 0 ⟨[(0, true), (1, false), (5, false)], [.cell (.sl false (.pair (.int .i64) (.pair (.int .i64) (.pair (.int .i64) .str)))), .cell (.int .i64), .cell (.int .i64)]⟩ ⟨[(1, false)], [.cell (.int .i64)]⟩ B_laws_szItemS_1))
 (.seq (.reg none [.p (.mv 26 (.t 1)) .unit,
  .p (.mv 4 (.t 26)) .unit])
 .ret))))),
 27, 2, [.t 4]⟩
theorem m_laws_szItemS : mH Try.prog 67 [] = some (F_laws_szItemS.code.x, F_laws_szItemS.N, F_laws_szItemS.np, F_laws_szItemS.res) := by kernel_rfl
noncomputable def T_laws_szItemS : (List (Int × Int × Int × List UInt8)) × Int → Option (Int) := evF [fn_laws_szItem] F_laws_szItemS [.cell (.sl false (.pair (.int .i64) (.pair (.int .i64) (.pair (.int .i64) .str)))), .cell (.int .i64)] [] [.cell (.int .i64)] []
noncomputable def fn_laws_szItemS : TFn := ⟨67, [.cell (.sl false (.pair (.int .i64) (.pair (.int .i64) (.pair (.int .i64) .str)))), .cell (.int .i64)], [], [.cell (.int .i64)], [], T_laws_szItemS⟩
theorem ok_laws_szItemS : FnOk Try.prog fn_laws_szItemS := evF_ok mixed (allOk_cons ok_laws_szItem allOk_nil) m_laws_szItemS (by decide)
def B_laws_szStringS_1 : TC := (.seq (.seq (.reg none [.p (.mv 12 (.t 5)) .unit,
  .p (.mv 13 (.t 0)) .unit,
  .p (.lenB 14 (.t 13)) .unit,
  .p (.bin 15 false .lss (.t 12) (.t 14)) .unit])
 (.cond (.t 15) .skip (.exit 0)))
 (.seq (.block 1 (.seq (.reg none [.p (.mv 18 (.t 1)) .unit,
  .p (.mv 19 (.t 0)) .unit,
  .p (.mv 20 (.t 5)) .unit,
  .p (.iadr 21 1 (.t 19) (.t 20)) .unit,
  .p (.load 22 (.t 21) 1 false) .unit,
  .p (.lenS 23 (.t 22)) .unit,
  .p (.bin 24 false .sub (.t 18) (.t 23)) .unit,
  .p (.mv 1 (.t 24)) .unit])
 (.seq (.reg none [.p (.mv 25 (.t 1)) .unit,
  .p (.bin 26 false .lss (.t 25) (.c (.int .i64 0))) .unit])
 (.cond (.t 26) (.seq (.reg none [.p (.mv 4 (.c (.int .i64 (-1)))) .unit])
 .ret) .skip))))
 (.reg none [.p (.mv 16 (.t 5)) .unit,
  .p (.bin 17 false .add (.t 16) (.c (.int .i64 1))) .unit,
  .p (.mv 5 (.t 17)) .unit])))
noncomputable def L_laws_szStringS_1 : Nat → (List (List UInt8)) × (Int) × Int → Option ((Int) ⊕ (Int)) := evL [] (finT [.t 4] [] [.cell (.int .i64)]) 0 ⟨[(0, true), (1, false), (5, false)], [.cell (.sl false .str), .cell (.int .i64), .cell (.int .i64)]⟩ ⟨[(1, false)], [.cell (.int .i64)]⟩ B_laws_szStringS_1
def F_laws_szStringS : TF := ⟨(.seq (.reg none [.p (.mv 4 (.c (.int .i64 0))) .unit])
 (.seq (.reg none [.p (.mv 6 (.t 1)) .unit,
  .p (.mv 7 (.t 0)) .unit,
  .p (.lenB 8 (.t 7)) .unit,
  .p (.bin 9 false .sub (.t 6) (.t 8)) .unit,
  .p (.mv 1 (.t 9)) .unit])
 (.seq (.seq (.reg none [.p (.mv 10 (.t 1)) .unit,
  .p (.bin 11 false .lss (.t 10) (.c (.int .i64 0))) .unit])
 (.cond (.t 11) (.seq (.reg none [.p (.mv 4 (.c (.int .i64 (-1)))) .unit])
 .ret) .skip))
 (.seq (.seq (.reg none [.p (.mv 5 (.c (.int .i64 0))) .unit])
 (.jl 0 ⟨[(0, true), (1, false), (5, false)], [.cell (.sl false .str), .cell (.int .i64), .cell (.int .i64)]⟩ ⟨[(1, false)], [.cell (.int .i64)]⟩ B_laws_szStringS_1))
 (.seq (.reg none [.p (.mv 27 (.t 1)) .unit,
  .p (.mv 4 (.t 27)) .unit])
 .ret))))),
 28, 2, [.t 4]⟩
theorem m_laws_szStringS : mH Try.prog 68 [] = some (F_laws_szStringS.code.x, F_laws_szStringS.N, F_laws_szStringS.np, F_laws_szStringS.res) := by kernel_rfl
noncomputable def T_laws_szStringS : (List (List UInt8)) × Int → Option (Int) := evF [] F_laws_szStringS [.cell (.sl false .str), .cell (.int .i64)] [] [.cell (.int .i64)] []
noncomputable def fn_laws_szStringS : TFn := ⟨68, [.cell (.sl false .str), .cell (.int .i64)], [], [.cell (.int .i64)], [], T_laws_szStringS⟩
theorem ok_laws_szStringS : FnOk Try.prog fn_laws_szStringS := evF_ok mixed allOk_nil m_laws_szStringS (by decide)
def F_laws_szToken : TF := ⟨(.seq (.reg none [.p (.box 2 (.t 0)) .unit,
  .p (.mv 4 (.c (.int .i64 0))) .unit])
 (.seq (.reg none [.p (.fadr 5 (.t 2) 5) .unit,
  .p (.load 6 (.t 5) 1 false) .unit,
  .p (.mv 7 (.t 1)) .unit,
  .p (.callB 8 n_laws_szIntS [((.t 6), 0), ((.t 7), 0)]) .unit,
  .p (.mv 1 (.t 8)) .unit])
 (.seq (.seq (.reg none [.p (.mv 9 (.t 1)) .unit,
  .p (.bin 10 false .lss (.t 9) (.c (.int .i64 0))) .unit])
 (.cond (.t 10) (.seq (.reg none [.p (.mv 4 (.c (.int .i64 (-1)))) .unit])
 .ret) .skip))
 (.seq (.reg none [.p (.mv 11 (.t 1)) .unit,
  .p (.mv 4 (.t 11)) .unit])
 .ret)))),
 12, 2, [.t 4]⟩
theorem m_laws_szToken : mH Try.prog 50 [] = some (F_laws_szToken.code.x, F_laws_szToken.N, F_laws_szToken.np, F_laws_szToken.res) := by kernel_rfl
noncomputable def T_laws_szToken : (Int × Int × Int × Int × Int × List (Int)) × Int → Option (Int) := evF [fn_laws_szIntS] F_laws_szToken [.agg (.pair (.int .i64) (.pair (.int .i64) (.pair (.int .i64) (.pair (.int .i64) (.pair (.int .i64) (.sl false (.int .i64))))))), .cell (.int .i64)] [] [.cell (.int .i64)] []
noncomputable def fn_laws_szToken : TFn := ⟨50, [.agg (.pair (.int .i64) (.pair (.int .i64) (.pair (.int .i64) (.pair (.int .i64) (.pair (.int .i64) (.sl false (.int .i64))))))), .cell (.int .i64)], [], [.cell (.int .i64)], [], T_laws_szToken⟩
theorem ok_laws_szToken : FnOk Try.prog fn_laws_szToken := evF_ok mixed (allOk_cons ok_laws_szIntS allOk_nil) m_laws_szToken (by decide)
def F_laws_szMate : TF := ⟨(.seq (.reg none [.p (.box 2 (.t 0)) .unit,
  .p (.mv 4 (.c (.int .i64 0))) .unit])
 (.seq (.reg none [.p (.fadr 5 (.t 2) 1) .unit,
  .p (.load 6 (.t 5) 2 true) .unit,
  .p (.mv 7 (.t 1)) .unit,
  .p (.callB 8 n_laws_szRing [((.t 6), 0), ((.t 7), 0)]) .unit,
  .p (.mv 1 (.t 8)) .unit])
 (.seq (.seq (.reg none [.p (.mv 9 (.t 1)) .unit,
  .p (.bin 10 false .lss (.t 9) (.c (.int .i64 0))) .unit])
 (.cond (.t 10) (.seq (.reg none [.p (.mv 4 (.c (.int .i64 (-1)))) .unit])
 .ret) .skip))
 (.seq (.reg none [.p (.fadr 11 (.t 2) 3) .unit,
  .p (.load 12 (.t 11) 1 false) .unit,
  .p (.mv 13 (.t 1)) .unit,
  .p (.callB 14 n_laws_szItemS [((.t 12), 0), ((.t 13), 0)]) .unit,
  .p (.mv 1 (.t 14)) .unit])
 (.seq (.seq (.reg none [.p (.mv 15 (.t 1)) .unit,
  .p (.bin 16 false .lss (.t 15) (.c (.int .i64 0))) .unit])
 (.cond (.t 16) (.seq (.reg none [.p (.mv 4 (.c (.int .i64 (-1)))) .unit])
 .ret) .skip))
 (.seq (.reg none [.p (.fadr 17 (.t 2) 4) .unit,
  .p (.load 18 (.t 17) 1 false) .unit,
  .p (.mv 19 (.t 1)) .unit,
  .p (.callB 20 n_laws_szIntS [((.t 18), 0), ((.t 19), 0)]) .unit,
  .p (.mv 1 (.t 20)) .unit])
 (.seq (.seq (.reg none [.p (.mv 21 (.t 1)) .unit,
  .p (.bin 22 false .lss (.t 21) (.c (.int .i64 0))) .unit])
 (.cond (.t 22) (.seq (.reg none [.p (.mv 4 (.c (.int .i64 (-1)))) .unit])
 .ret) .skip))
 (.seq (.reg none [.p (.fadr 23 (.t 2) 5) .unit,
  .p (.load 24 (.t 23) 1 false) .unit,
  .p (.mv 25 (.t 1)) .unit,
  .p (.callB 26 n_laws_szStringS [((.t 24), 0), ((.t 25), 0)]) .unit,
  .p (.mv 1 (.t 26)) .unit])
 (.seq (.seq (.reg none [.p (.mv 27 (.t 1)) .unit,
  .p (.bin 28 false .lss (.t 27) (.c (.int .i64 0))) .unit])
 (.cond (.t 28) (.seq (.reg none [.p (.mv 4 (.c (.int .i64 (-1)))) .unit])
 .ret) .skip))
 (.seq (.reg none [.p (.fadr 29 (.t 2) 10) .unit,
  .p (.load 30 (.t 29) 6 true) .unit,
  .p (.mv 31 (.t 1)) .unit,
  .p (.callB 32 n_laws_szToken [((.t 30), 0), ((.t 31), 0)]) .unit,
  .p (.mv 1 (.t 32)) .unit])
 (.seq (.seq (.reg none [.p (.mv 33 (.t 1)) .unit,
  .p (.bin 34 false .lss (.t 33) (.c (.int .i64 0))) .unit])
 (.cond (.t 34) (.seq (.reg none [.p (.mv 4 (.c (.int .i64 (-1)))) .unit])
 .ret) .skip))
 (.seq (.reg none [.p (.mv 35 (.t 1)) .unit,
  .p (.mv 4 (.t 35)) .unit])
 .ret)))))))))))),
 36, 2, [.t 4]⟩
theorem m_laws_szMate : mH Try.prog 47 [] = some (F_laws_szMate.code.x, F_laws_szMate.N, F_laws_szMate.np, F_laws_szMate.res) := by kernel_rfl
noncomputable def T_laws_szMate : (Int × (Int × List (Int)) × List (Int × Int × Int × List UInt8) × List (Int) × List (List UInt8) × Int × Int × Int × Int × Int × Int × Int × Int × Int × List (Int)) × Int → Option (Int) := evF [fn_laws_szRing, fn_laws_szItemS, fn_laws_szIntS, fn_laws_szStringS, fn_laws_szToken] F_laws_szMate [.agg (.pair (.int .i64) (.pair (.pair (.int .i64) (.sl false (.int .i64))) (.pair (.sl false (.pair (.int .i64) (.pair (.int .i64) (.pair (.int .i64) .str)))) (.pair (.sl false (.int .i64)) (.pair (.sl false .str) (.pair (.int .i64) (.pair (.int .i64) (.pair (.int .i64) (.pair (.int .i64) (.pair (.int .i64) (.pair (.int .i64) (.pair (.int .i64) (.pair (.int .i64) (.pair (.int .i64) (.sl false (.int .i64)))))))))))))))), .cell (.int .i64)] [] [.cell (.int .i64)] []
noncomputable def fn_laws_szMate : TFn := ⟨47, [.agg (.pair (.int .i64) (.pair (.pair (.int .i64) (.sl false (.int .i64))) (.pair (.sl false (.pair (.int .i64) (.pair (.int .i64) (.pair (.int .i64) .str)))) (.pair (.sl false (.int .i64)) (.pair (.sl false .str) (.pair (.int .i64) (.pair (.int .i64) (.pair (.int .i64) (.pair (.int .i64) (.pair (.int .i64) (.pair (.int .i64) (.pair (.int .i64) (.pair (.int .i64) (.pair (.int .i64) (.sl false (.int .i64)))))))))))))))), .cell (.int .i64)], [], [.cell (.int .i64)], [], T_laws_szMate⟩
theorem ok_laws_szMate : FnOk Try.prog fn_laws_szMate := evF_ok mixed (allOk_cons ok_laws_szRing (allOk_cons ok_laws_szItemS (allOk_cons ok_laws_szIntS (allOk_cons ok_laws_szStringS (allOk_cons ok_laws_szToken allOk_nil))))) m_laws_szMate (by decide)
def F_laws_szBundle : TF := ⟨(.seq (.reg none [.p (.box 2 (.t 0)) .unit,
  .p (.mv 4 (.c (.int .i64 0))) .unit])
 (.seq (.reg none [.p (.fadr 5 (.t 2) 3) .unit,
  .p (.load 6 (.t 5) 1 false) .unit,
  .p (.mv 7 (.t 1)) .unit,
  .p (.callB 8 n_laws_szItemS [((.t 6), 0), ((.t 7), 0)]) .unit,
  .p (.mv 1 (.t 8)) .unit])
 (.seq (.seq (.reg none [.p (.mv 9 (.t 1)) .unit,
  .p (.bin 10 false .lss (.t 9) (.c (.int .i64 0))) .unit])
 (.cond (.t 10) (.seq (.reg none [.p (.mv 4 (.c (.int .i64 (-1)))) .unit])
 .ret) .skip))
 (.seq (.reg none [.p (.mv 11 (.t 1)) .unit,
  .p (.mv 4 (.t 11)) .unit])
 .ret)))),
 12, 2, [.t 4]⟩
theorem m_laws_szBundle : mH Try.prog 51 [] = some (F_laws_szBundle.code.x, F_laws_szBundle.N, F_laws_szBundle.np, F_laws_szBundle.res) := by kernel_rfl
noncomputable def T_laws_szBundle : (Int × Int × Int × List (Int × Int × Int × List UInt8)) × Int → Option (Int) := evF [fn_laws_szItemS] F_laws_szBundle [.agg (.pair (.int .i64) (.pair (.int .i64) (.pair (.int .i64) (.sl false (.pair (.int .i64) (.pair (.int .i64) (.pair (.int .i64) .str))))))), .cell (.int .i64)] [] [.cell (.int .i64)] []
noncomputable def fn_laws_szBundle : TFn := ⟨51, [.agg (.pair (.int .i64) (.pair (.int .i64) (.pair (.int .i64) (.sl false (.pair (.int .i64) (.pair (.int .i64) (.pair (.int .i64) .str))))))), .cell (.int .i64)], [], [.cell (.int .i64)], [], T_laws_szBundle⟩
theorem ok_laws_szBundle : FnOk Try.prog fn_laws_szBundle := evF_ok mixed (allOk_cons ok_laws_szItemS allOk_nil) m_laws_szBundle (by decide)
def B_laws_szBundleS_1 : TC := (.seq (.seq (.reg none [.p (.mv 12 (.t 5)) .unit,
  .p (.mv 13 (.t 0)) .unit,
  .p (.lenB 14 (.t 13)) .unit,
  .p (.bin 15 false .lss (.t 12) (.t 14)) .unit])
 (.cond (.t 15) .skip (.exit 0)))
 (.seq (.block 1 (.seq (.reg none [.p (.mv 18 (.t 0)) .unit,
  .p (.mv 19 (.t 5)) .unit,
  .p (.iadr 20 4 (.t 18) (.t 19)) .unit,
  .p (.load 21 (.t 20) 4 true) .unit,
  .p (.mv 22 (.t 1)) .unit,
  .p (.callB 23 n_laws_szBundle [((.t 21), 0), ((.t 22), 0)]) .unit,
  .p (.mv 1 (.t 23)) .unit])
 (.seq (.reg none [.p (.mv 24 (.t 1)) .unit,
  .p (.bin 25 false .lss (.t 24) (.c (.int .i64 0))) .unit])
 (.cond (.t 25) (.seq (.reg none [.p (.mv 4 (.c (.int .i64 (-1)))) .unit])
 .ret) .skip))))
 (.reg none [.p (.mv 16 (.t 5)) .unit,
  .p (.bin 17 false .add (.t 16) (.c (.int .i64 1))) .unit,
  .p (.mv 5 (.t 17)) .unit])))
noncomputable def L_laws_szBundleS_1 : Nat → (List (Int × Int × Int × List (Int × Int × Int × List UInt8))) × (Int) × Int → Option ((Int) ⊕ (Int)) := evL [fn_laws_szBundle] (finT [.t 4] [] [.cell (.int .i64)]) 0 ⟨[(0, true), (1, false), (5, false)], [.cell (.sl false (.pair (.int .i64) (.pair (.int .i64) (.pair (.int .i64) (.sl false (.pair (.int .i64) (.pair (.int .i64) (.pair (.int .i64) .str)))))))), .cell (.int .i64), .cell (.int .i64)]⟩ ⟨[(1, false)], [.cell (.int .i64)]⟩ B_laws_szBundleS_1
def F_laws_szBundleS : TF := ⟨(.seq (.reg none [.p (.mv 4 (.c (.int .i64 0))) .unit])
 (.seq (.reg none [.p (.mv 6 (.t 1)) .unit,
  .p (.mv 7 (.t 0)) .unit,
  .p (.lenB 8 (.t 7)) .unit,
  .p (.bin 9 false .sub (.t 6) (.t 8)) .unit,
  .p (.mv 1 (.t 9)) .unit])
 (.seq (.seq (.reg none [.p (.mv 10 (.t 1)) .unit,
  .p (.bin 11 false .lss (.t 10) (.c (.int .i64 0))) .unit])
 (.cond (.t 11) (.seq (.reg none [.p (.mv 4 (.c (.int .i64 (-1)))) .unit])
 .ret) .skip))
 (.seq (.seq (.reg none [.p (.mv 5 (.c (.int .i64 0))) .unit])
 (.jl 0 ⟨[(0, true), (1, false), (5, false)], [.cell (.sl false (.pair (.int .i64) (.pair (.int .i64) (.pair (.int .i64) (.sl false (.pair (.int .i64) (.pair (.int .i64) (.pair (.int .i64) .str)))))))), .cell (.int .i64), .cell (.int .i64)]⟩ ⟨[(1, false)], [.cell (.int .i64)]⟩ B_laws_szBundleS_1))
 (.seq (.reg none [.p (.mv 26 (.t 1)) .unit,
  .p (.mv 4 (.t 26)) .unit])
 .ret))))),
 27, 2, [.t 4]⟩
theorem m_laws_szBundleS : mH Try.prog 48 [] = some (F_laws_szBundleS.code.x, F_laws_szBundleS.N, F_laws_szBundleS.np, F_laws_szBundleS.res) := by kernel_rfl
noncomputable def T_laws_szBundleS : (List (Int × Int × Int × List (Int × Int × Int × List UInt8))) × Int → Option (Int) := evF [fn_laws_szBundle] F_laws_szBundleS [.cell (.sl false (.pair (.int .i64) (.pair (.int .i64) (.pair (.int .i64) (.sl false (.pair (.int .i64) (.pair (.int .i64) (.pair (.int .i64) .str)))))))), .cell (.int .i64)] [] [.cell (.int .i64)] []
noncomputable def fn_laws_szBundleS : TFn := ⟨48, [.cell (.sl false (.pair (.int .i64) (.pair (.int .i64) (.pair (.int .i64) (.sl false (.pair (.int .i64) (.pair (.int .i64) (.pair (.int .i64) .str)))))))), .cell (.int .i64)], [], [.cell (.int .i64)], [], T_laws_szBundleS⟩
theorem ok_laws_szBundleS : FnOk Try.prog fn_laws_szBundleS := evF_ok mixed (allOk_cons ok_laws_szBundle allOk_nil) m_laws_szBundleS (by decide)
def F_laws_szEvent : TF := ⟨(.seq (.reg none [.p (.box 2 (.t 0)) .unit,
  .p (.mv 4 (.c (.int .i64 0))) .unit])
 (.seq (.reg none [.p (.fadr 5 (.t 2) 1) .unit,
  .p (.load 6 (.t 5) 2 true) .unit,
  .p (.mv 7 (.t 1)) .unit,
  .p (.callB 8 n_laws_szRing [((.t 6), 0), ((.t 7), 0)]) .unit,
  .p (.mv 1 (.t 8)) .unit])
 (.seq (.seq (.reg none [.p (.mv 9 (.t 1)) .unit,
  .p (.bin 10 false .lss (.t 9) (.c (.int .i64 0))) .unit])
 (.cond (.t 10) (.seq (.reg none [.p (.mv 4 (.c (.int .i64 (-1)))) .unit])
 .ret) .skip))
 (.seq (.reg none [.p (.fadr 11 (.t 2) 3) .unit,
  .p (.load 12 (.t 11) 4 true) .unit,
  .p (.mv 13 (.t 1)) .unit,
  .p (.callB 14 n_laws_szItem [((.t 12), 0), ((.t 13), 0)]) .unit,
  .p (.mv 1 (.t 14)) .unit])
 (.seq (.seq (.reg none [.p (.mv 15 (.t 1)) .unit,
  .p (.bin 16 false .lss (.t 15) (.c (.int .i64 0))) .unit])
 (.cond (.t 16) (.seq (.reg none [.p (.mv 4 (.c (.int .i64 (-1)))) .unit])
 .ret) .skip))
 (.seq (.reg none [.p (.fadr 17 (.t 2) 7) .unit,
  .p (.load 18 (.t 17) 1 false) .unit,
  .p (.mv 19 (.t 1)) .unit,
  .p (.callB 20 n_laws_szIntS [((.t 18), 0), ((.t 19), 0)]) .unit,
  .p (.mv 1 (.t 20)) .unit])
 (.seq (.seq (.reg none [.p (.mv 21 (.t 1)) .unit,
  .p (.bin 22 false .lss (.t 21) (.c (.int .i64 0))) .unit])
 (.cond (.t 22) (.seq (.reg none [.p (.mv 4 (.c (.int .i64 (-1)))) .unit])
 .ret) .skip))
 (.seq (.reg none [.p (.mv 23 (.t 1)) .unit,
  .p (.mv 4 (.t 23)) .unit])
 .ret)))))))),
 24, 2, [.t 4]⟩
theorem m_laws_szEvent : mH Try.prog 33 [] = some (F_laws_szEvent.code.x, F_laws_szEvent.N, F_laws_szEvent.np, F_laws_szEvent.res) := by kernel_rfl
noncomputable def T_laws_szEvent : (Int × (Int × List (Int)) × (Int × Int × Int × List UInt8) × List (Int)) × Int → Option (Int) := evF [fn_laws_szRing, fn_laws_szItem, fn_laws_szIntS] F_laws_szEvent [.agg (.pair (.int .i64) (.pair (.pair (.int .i64) (.sl false (.int .i64))) (.pair (.pair (.int .i64) (.pair (.int .i64) (.pair (.int .i64) .str))) (.sl false (.int .i64))))), .cell (.int .i64)] [] [.cell (.int .i64)] []
noncomputable def fn_laws_szEvent : TFn := ⟨33, [.agg (.pair (.int .i64) (.pair (.pair (.int .i64) (.sl false (.int .i64))) (.pair (.pair (.int .i64) (.pair (.int .i64) (.pair (.int .i64) .str))) (.sl false (.int .i64))))), .cell (.int .i64)], [], [.cell (.int .i64)], [], T_laws_szEvent⟩
theorem ok_laws_szEvent : FnOk Try.prog fn_laws_szEvent := evF_ok mixed (allOk_cons ok_laws_szRing (allOk_cons ok_laws_szItem (allOk_cons ok_laws_szIntS allOk_nil))) m_laws_szEvent (by decide)
def B_laws_szEventS_1 : TC := (.seq (.seq (.reg none [.p (.mv 12 (.t 5)) .unit,
  .p (.mv 13 (.t 0)) .unit,
  .p (.lenB 14 (.t 13)) .unit,
  .p (.bin 15 false .lss (.t 12) (.t 14)) .unit])
 (.cond (.t 15) .skip (.exit 0)))
 (.seq (.block 1 (.seq (.reg none [.p (.mv 18 (.t 0)) .unit,
  .p (.mv 19 (.t 5)) .unit,
  .p (.iadr 20 8 (.t 18) (.t 19)) .unit,
  .p (.load 21 (.t 20) 8 true) .unit,
  .p (.mv 22 (.t 1)) .unit,
  .p (.callB 23 n_laws_szEvent [((.t 21), 0), ((.t 22), 0)]) .unit,
  .p (.mv 1 (.t 23)) .unit])
 (.seq (.reg none [.p (.mv 24 (.t 1)) .unit,
  .p (.bin 25 false .lss (.t 24) (.c (.int .i64 0))) .unit])
 (.cond (.t 25) (.seq (.reg none [.p (.mv 4 (.c (.int .i64 (-1)))) .unit])
 .ret) .skip))))
 (.reg none [.p (.mv 16 (.t 5)) .unit,
  .p (.bin 17 false .add (.t 16) (.c (.int .i64 1))) .unit,
  .p (.mv 5 (.t 17)) .unit])))
noncomputable def L_laws_szEventS_1 : Nat → (List (Int × (Int × List (Int)) × (Int × Int × Int × List UInt8) × List (Int))) × (Int) × Int → Option ((Int) ⊕ (Int)) := evL [fn_laws_szEvent] (finT [.t 4] [] [.cell (.int .i64)]) 0 ⟨[(0, true), (1, false), (5, false)], [.cell (.sl false (.pair (.int .i64) (.pair (.pair (.int .i64) (.sl false (.int .i64))) (.pair (.pair (.int .i64) (.pair (.int .i64) (.pair (.int .i64) .str))) (.sl false (.int .i64)))))), .cell (.int .i64), .cell (.int .i64)]⟩ ⟨[(1, false)], [.cell (.int .i64)]⟩ B_laws_szEventS_1
def F_laws_szEventS : TF := ⟨(.seq (.reg none [.p (.mv 4 (.c (.int .i64 0))) .unit])
 (.seq (.reg none [.p (.mv 6 (.t 1)) .unit,
  .p (.mv 7 (.t 0)) .unit,
  .p (.lenB 8 (.t 7)) .unit,
  .p (.bin 9 false .sub (.t 6) (.t 8)) .unit,
  .p (.mv 1 (.t 9)) .unit])
 (.seq (.seq (.reg none [.p (.mv 10 (.t 1)) .unit,
  .p (.bin 11 false .lss (.t 10) (.c (.int .i64 0))) .unit])
 (.cond (.t 11) (.seq (.reg none [.p (.mv 4 (.c (.int .i64 (-1)))) .unit])
 .ret) .skip))
 (.seq (.seq (.reg none [.p (.mv 5 (.c (.int .i64 0))) .unit])
 (.jl 0 ⟨[(0, true), (1, false), (5, false)], [.cell (.sl false (.pair (.int .i64) (.pair (.pair (.int .i64) (.sl false (.int .i64))) (.pair (.pair (.int .i64) (.pair (.int .i64) (.pair (.int .i64) .str))) (.sl false (.int .i64)))))), .cell (.int .i64), .cell (.int .i64)]⟩ ⟨[(1, false)], [.cell (.int .i64)]⟩ B_laws_szEventS_1))
 (.seq (.reg none [.p (.mv 26 (.t 1)) .unit,
  .p (.mv 4 (.t 26)) .unit])
 .ret))))),
 27, 2, [.t 4]⟩
theorem m_laws_szEventS : mH Try.prog 15 [] = some (F_laws_szEventS.code.x, F_laws_szEventS.N, F_laws_szEventS.np, F_laws_szEventS.res) := by kernel_rfl
noncomputable def T_laws_szEventS : (List (Int × (Int × List (Int)) × (Int × Int × Int × List UInt8) × List (Int))) × Int → Option (Int) := evF [fn_laws_szEvent] F_laws_szEventS [.cell (.sl false (.pair (.int .i64) (.pair (.pair (.int .i64) (.sl false (.int .i64))) (.pair (.pair (.int .i64) (.pair (.int .i64) (.pair (.int .i64) .str))) (.sl false (.int .i64)))))), .cell (.int .i64)] [] [.cell (.int .i64)] []
noncomputable def fn_laws_szEventS : TFn := ⟨15, [.cell (.sl false (.pair (.int .i64) (.pair (.pair (.int .i64) (.sl false (.int .i64))) (.pair (.pair (.int .i64) (.pair (.int .i64) (.pair (.int .i64) .str))) (.sl false (.int .i64)))))), .cell (.int .i64)], [], [.cell (.int .i64)], [], T_laws_szEventS⟩
theorem ok_laws_szEventS : FnOk Try.prog fn_laws_szEventS := evF_ok mixed (allOk_cons ok_laws_szEvent allOk_nil) m_laws_szEventS (by decide)
def F_laws_szDaemon : TF := ⟨(.seq (.reg none [.p (.box 2 (.t 0)) .unit,
  .p (.mv 4 (.c (.int .i64 0))) .unit])
 (.seq (.reg none [.p (.fadr 5 (.t 2) 2) .unit,
  .p (.load 6 (.t 5) 16 true) .unit,
  .p (.mv 7 (.t 1)) .unit,
  .p (.callB 8 n_laws_szMate [((.t 6), 0), ((.t 7), 0)]) .unit,
  .p (.mv 1 (.t 8)) .unit])
 (.seq (.seq (.reg none [.p (.mv 9 (.t 1)) .unit,
  .p (.bin 10 false .lss (.t 9) (.c (.int .i64 0))) .unit])
 (.cond (.t 10) (.seq (.reg none [.p (.mv 4 (.c (.int .i64 (-1)))) .unit])
 .ret) .skip))
 (.seq (.reg none [.p (.fadr 11 (.t 2) 20) .unit,
  .p (.load 12 (.t 11) 2 true) .unit,
  .p (.mv 13 (.t 1)) .unit,
  .p (.callB 14 n_laws_szRing [((.t 12), 0), ((.t 13), 0)]) .unit,
  .p (.mv 1 (.t 14)) .unit])
 (.seq (.seq (.reg none [.p (.mv 15 (.t 1)) .unit,
  .p (.bin 16 false .lss (.t 15) (.c (.int .i64 0))) .unit])
 (.cond (.t 16) (.seq (.reg none [.p (.mv 4 (.c (.int .i64 (-1)))) .unit])
 .ret) .skip))
 (.seq (.reg none [.p (.fadr 17 (.t 2) 22) .unit,
  .p (.load 18 (.t 17) 1 false) .unit,
  .p (.mv 19 (.t 1)) .unit,
  .p (.callB 20 n_laws_szBundleS [((.t 18), 0), ((.t 19), 0)]) .unit,
  .p (.mv 1 (.t 20)) .unit])
 (.seq (.seq (.reg none [.p (.mv 21 (.t 1)) .unit,
  .p (.bin 22 false .lss (.t 21) (.c (.int .i64 0))) .unit])
 (.cond (.t 22) (.seq (.reg none [.p (.mv 4 (.c (.int .i64 (-1)))) .unit])
 .ret) .skip))
 (.seq (.reg none [.p (.fadr 23 (.t 2) 23) .unit,
  .p (.load 24 (.t 23) 1 false) .unit,
  .p (.mv 25 (.t 1)) .unit,
  .p (.callB 26 n_laws_szEventS [((.t 24), 0), ((.t 25), 0)]) .unit,
  .p (.mv 1 (.t 26)) .unit])
 (.seq (.seq (.reg none [.p (.mv 27 (.t 1)) .unit,
  .p (.bin 28 false .lss (.t 27) (.c (.int .i64 0))) .unit])
 (.cond (.t 28) (.seq (.reg none [.p (.mv 4 (.c (.int .i64 (-1)))) .unit])
 .ret) .skip))
 (.seq (.reg none [.p (.mv 29 (.t 1)) .unit,
  .p (.mv 4 (.t 29)) .unit])
 .ret)))))))))),
 30, 2, [.t 4]⟩
theorem m_laws_szDaemon : mH Try.prog 31 [] = some (F_laws_szDaemon.code.x, F_laws_szDaemon.N, F_laws_szDaemon.np, F_laws_szDaemon.res) := by kernel_rfl
noncomputable def T_laws_szDaemon : (Int × Bool × (Int × (Int × List (Int)) × List (Int × Int × Int × List UInt8) × List (Int) × List (List UInt8) × Int × Int × Int × Int × Int × Int × Int × Int × Int × List (Int)) × Int × Int × (Int × List (Int)) × List (Int × Int × Int × List (Int × Int × Int × List UInt8)) × List (Int × (Int × List (Int)) × (Int × Int × Int × List UInt8) × List (Int))) × Int → Option (Int) := evF [fn_laws_szMate, fn_laws_szRing, fn_laws_szBundleS, fn_laws_szEventS] F_laws_szDaemon [.agg (.pair (.int .i64) (.pair .bool (.pair (.pair (.int .i64) (.pair (.pair (.int .i64) (.sl false (.int .i64))) (.pair (.sl false (.pair (.int .i64) (.pair (.int .i64) (.pair (.int .i64) .str)))) (.pair (.sl false (.int .i64)) (.pair (.sl false .str) (.pair (.int .i64) (.pair (.int .i64) (.pair (.int .i64) (.pair (.int .i64) (.pair (.int .i64) (.pair (.int .i64) (.pair (.int .i64) (.pair (.int .i64) (.pair (.int .i64) (.sl false (.int .i64)))))))))))))))) (.pair (.int .i64) (.pair (.int .i64) (.pair (.pair (.int .i64) (.sl false (.int .i64))) (.pair (.sl false (.pair (.int .i64) (.pair (.int .i64) (.pair (.int .i64) (.sl false (.pair (.int .i64) (.pair (.int .i64) (.pair (.int .i64) .str)))))))) (.sl false (.pair (.int .i64) (.pair (.pair (.int .i64) (.sl false (.int .i64))) (.pair (.pair (.int .i64) (.pair (.int .i64) (.pair (.int .i64) .str))) (.sl false (.int .i64))))))))))))), .cell (.int .i64)] [] [.cell (.int .i64)] []
noncomputable def fn_laws_szDaemon : TFn := ⟨31, [.agg (.pair (.int .i64) (.pair .bool (.pair (.pair (.int .i64) (.pair (.pair (.int .i64) (.sl false (.int .i64))) (.pair (.sl false (.pair (.int .i64) (.pair (.int .i64) (.pair (.int .i64) .str)))) (.pair (.sl false (.int .i64)) (.pair (.sl false .str) (.pair (.int .i64) (.pair (.int .i64) (.pair (.int .i64) (.pair (.int .i64) (.pair (.int .i64) (.pair (.int .i64) (.pair (.int .i64) (.pair (.int .i64) (.pair (.int .i64) (.sl false (.int .i64)))))))))))))))) (.pair (.int .i64) (.pair (.int .i64) (.pair (.pair (.int .i64) (.sl false (.int .i64))) (.pair (.sl false (.pair (.int .i64) (.pair (.int .i64) (.pair (.int .i64) (.sl false (.pair (.int .i64) (.pair (.int .i64) (.pair (.int .i64) .str)))))))) (.sl false (.pair (.int .i64) (.pair (.pair (.int .i64) (.sl false (.int .i64))) (.pair (.pair (.int .i64) (.pair (.int .i64) (.pair (.int .i64) .str))) (.sl false (.int .i64))))))))))))), .cell (.int .i64)], [], [.cell (.int .i64)], [], T_laws_szDaemon⟩
theorem ok_laws_szDaemon : FnOk Try.prog fn_laws_szDaemon := evF_ok mixed (allOk_cons ok_laws_szMate (allOk_cons ok_laws_szRing (allOk_cons ok_laws_szBundleS (allOk_cons ok_laws_szEventS allOk_nil)))) m_laws_szDaemon (by decide)
def B_laws_szDaemonS_1 : TC := (.seq (.seq (.reg none [.p (.mv 12 (.t 5)) .unit,
  .p (.mv 13 (.t 0)) .unit,
  .p (.lenB 14 (.t 13)) .unit,
  .p (.bin 15 false .lss (.t 12) (.t 14)) .unit])
 (.cond (.t 15) .skip (.exit 0)))
 (.seq (.block 1 (.seq (.reg none [.p (.mv 18 (.t 0)) .unit,
  .p (.mv 19 (.t 5)) .unit,
  .p (.iadr 20 24 (.t 18) (.t 19)) .unit,
  .p (.load 21 (.t 20) 24 true) .unit,
  .p (.mv 22 (.t 1)) .unit,
  .p (.callB 23 n_laws_szDaemon [((.t 21), 0), ((.t 22), 0)]) .unit,
  .p (.mv 1 (.t 23)) .unit])
 (.seq (.reg none [.p (.mv 24 (.t 1)) .unit,
  .p (.bin 25 false .lss (.t 24) (.c (.int .i64 0))) .unit])
 (.cond (.t 25) (.seq (.reg none [.p (.mv 4 (.c (.int .i64 (-1)))) .unit])
 .ret) .skip))))
 (.reg none [.p (.mv 16 (.t 5)) .unit,
  .p (.bin 17 false .add (.t 16) (.c (.int .i64 1))) .unit,
  .p (.mv 5 (.t 17)) .unit])))
noncomputable def L_laws_szDaemonS_1 : Nat → (List (Int × Bool × (Int × (Int × List (Int)) × List (Int × Int × Int × List UInt8) × List (Int) × List (List UInt8) × Int × Int × Int × Int × Int × Int × Int × Int × Int × List (Int)) × Int × Int × (Int × List (Int)) × List (Int × Int × Int × List (Int × Int × Int × List UInt8)) × List (Int × (Int × List (Int)) × (Int × Int × Int × List UInt8) × List (Int)))) × (Int) × Int → Option ((Int) ⊕ (Int)) := evL [fn_laws_szDaemon] (finT [.t 4] [] [.cell (.int .i64)]) 0 ⟨[(0, true), (1, false), (5, false)], [.cell (.sl false (.pair (.int .i64) (.pair .bool (.pair (.pair (.int .i64) (.pair (.pair (.int .i64) (.sl false (.int .i64))) (.pair (.sl false (.pair (.int .i64) (.pair (.int .i64) (.pair (.int .i64) .str)))) (.pair (.sl false (.int .i64)) (.pair (.sl false .str) (.pair (.int .i64) (.pair (.int .i64) (.pair (.int .i64) (.pair (.int .i64) (.pair (.int .i64) (.pair (.int .i64) (.pair (.int .i64) (.pair (.int .i64) (.pair (.int .i64) (.sl false (.int .i64)))))))))))))))) (.pair (.int .i64) (.pair (.int .i64) (.pair (.pair (.int .i64) (.sl false (.int .i64))) (.pair (.sl false (.pair (.int .i64) (.pair (.int .i64) (.pair (.int .i64) (.sl false (.pair (.int .i64) (.pair (.int .i64) (.pair (.int .i64) .str)))))))) (.sl false (.pair (.int .i64) (.pair (.pair (.int .i64) (.sl false (.int .i64))) (.pair (.pair (.int .i64) (.pair (.int .i64) (.pair (.int .i64) .str))) (.sl false (.int .i64)))))))))))))), .cell (.int .i64), .cell (.int .i64)]⟩ ⟨[(1, false)], [.cell (.int .i64)]⟩ B_laws_szDaemonS_1
def F_laws_szDaemonS : TF := ⟨(.seq (.reg none [.p (.mv 4 (.c (.int .i64 0))) .unit])
 (.seq (.reg none [.p (.mv 6 (.t 1)) .unit,
  .p (.mv 7 (.t 0)) .unit,
  .p (.lenB 8 (.t 7)) .unit,
  .p (.bin 9 false .sub (.t 6) (.t 8)) .unit,
  .p (.mv 1 (.t 9)) .unit])
 (.seq (.seq (.reg none [.p (.mv 10 (.t 1)) .unit,
  .p (.bin 11 false .lss (.t 10) (.c (.int .i64 0))) .unit])
 (.cond (.t 11) (.seq (.reg none [.p (.mv 4 (.c (.int .i64 (-1)))) .unit])
 .ret) .skip))
 (.seq (.seq (.reg none [.p (.mv 5 (.c (.int .i64 0))) .unit])
 (.jl 0 ⟨[(0, true), (1, false), (5, false)], [.cell (.sl false (.pair (.int .i64) (.pair .bool (.pair (.pair (.int .i64) (.pair (.pair (.int .i64) (.sl false (.int .i64))) (.pair (.sl false (.pair (.int .i64) (.pair (.int .i64) (.pair (.int .i64) .str)))) (.pair (.sl false (.int .i64)) (.pair (.sl false .str) (.pair (.int .i64) (.pair (.int .i64) (.pair (.int .i64) (.pair (.int .i64) (.pair (.int .i64) (.pair (.int .i64) (.pair (.int .i64) (.pair (.int .i64) (.pair (.int .i64) (.sl false (.int .i64)))))))))))))))) (.pair (.int .i64) (.pair (.int .i64) (.pair (.pair (.int .i64) (.sl false (.int .i64))) (.pair (.sl false (.pair (.int .i64) (.pair (.int .i64) (.pair (.int .i64) (.sl false (.pair (.int .i64) (.pair (.int .i64) (.pair (.int .i64) .str)))))))) (.sl false (.pair (.int .i64) (.pair (.pair (.int .i64) (.sl false (.int .i64))) (.pair (.pair (.int .i64) (.pair (.int .i64) (.pair (.int .i64) .str))) (.sl false (.int .i64)))))))))))))), .cell (.int .i64), .cell (.int .i64)]⟩ ⟨[(1, false)], [.cell (.int .i64)]⟩ B_laws_szDaemonS_1))
 (.seq (.reg none [.p (.mv 26 (.t 1)) .unit,
  .p (.mv 4 (.t 26)) .unit])
 .ret))))),
 27, 2, [.t 4]⟩
theorem m_laws_szDaemonS : mH Try.prog 13 [] = some (F_laws_szDaemonS.code.x, F_laws_szDaemonS.N, F_laws_szDaemonS.np, F_laws_szDaemonS.res) := by kernel_rfl
noncomputable def T_laws_szDaemonS : (List (Int × Bool × (Int × (Int × List (Int)) × List (Int × Int × Int × List UInt8) × List (Int) × List (List UInt8) × Int × Int × Int × Int × Int × Int × Int × Int × Int × List (Int)) × Int × Int × (Int × List (Int)) × List (Int × Int × Int × List (Int × Int × Int × List UInt8)) × List (Int × (Int × List (Int)) × (Int × Int × Int × List UInt8) × List (Int)))) × Int → Option (Int) := evF [fn_laws_szDaemon] F_laws_szDaemonS [.cell (.sl false (.pair (.int .i64) (.pair .bool (.pair (.pair (.int .i64) (.pair (.pair (.int .i64) (.sl false (.int .i64))) (.pair (.sl false (.pair (.int .i64) (.pair (.int .i64) (.pair (.int .i64) .str)))) (.pair (.sl false (.int .i64)) (.pair (.sl false .str) (.pair (.int .i64) (.pair (.int .i64) (.pair (.int .i64) (.pair (.int .i64) (.pair (.int .i64) (.pair (.int .i64) (.pair (.int .i64) (.pair (.int .i64) (.pair (.int .i64) (.sl false (.int .i64)))))))))))))))) (.pair (.int .i64) (.pair (.int .i64) (.pair (.pair (.int .i64) (.sl false (.int .i64))) (.pair (.sl false (.pair (.int .i64) (.pair (.int .i64) (.pair (.int .i64) (.sl false (.pair (.int .i64) (.pair (.int .i64) (.pair (.int .i64) .str)))))))) (.sl false (.pair (.int .i64) (.pair (.pair (.int .i64) (.sl false (.int .i64))) (.pair (.pair (.int .i64) (.pair (.int .i64) (.pair (.int .i64) .str))) (.sl false (.int .i64)))))))))))))), .cell (.int .i64)] [] [.cell (.int .i64)] []
noncomputable def fn_laws_szDaemonS : TFn := ⟨13, [.cell (.sl false (.pair (.int .i64) (.pair .bool (.pair (.pair (.int .i64) (.pair (.pair (.int .i64) (.sl false (.int .i64))) (.pair (.sl false (.pair (.int .i64) (.pair (.int .i64) (.pair (.int .i64) .str)))) (.pair (.sl false (.int .i64)) (.pair (.sl false .str) (.pair (.int .i64) (.pair (.int .i64) (.pair (.int .i64) (.pair (.int .i64) (.pair (.int .i64) (.pair (.int .i64) (.pair (.int .i64) (.pair (.int .i64) (.pair (.int .i64) (.sl false (.int .i64)))))))))))))))) (.pair (.int .i64) (.pair (.int .i64) (.pair (.pair (.int .i64) (.sl false (.int .i64))) (.pair (.sl false (.pair (.int .i64) (.pair (.int .i64) (.pair (.int .i64) (.sl false (.pair (.int .i64) (.pair (.int .i64) (.pair (.int .i64) .str)))))))) (.sl false (.pair (.int .i64) (.pair (.pair (.int .i64) (.sl false (.int .i64))) (.pair (.pair (.int .i64) (.pair (.int .i64) (.pair (.int .i64) .str))) (.sl false (.int .i64)))))))))))))), .cell (.int .i64)], [], [.cell (.int .i64)], [], T_laws_szDaemonS⟩
theorem ok_laws_szDaemonS : FnOk Try.prog fn_laws_szDaemonS := evF_ok mixed (allOk_cons ok_laws_szDaemon allOk_nil) m_laws_szDaemonS (by decide)
def F_laws_szLetter : TF := ⟨(.seq (.reg none [.p (.box 2 (.t 0)) .unit,
  .p (.mv 4 (.c (.int .i64 0))) .unit])
 (.seq (.reg none [.p (.fadr 5 (.t 2) 3) .unit,
  .p (.load 6 (.t 5) 4 true) .unit,
  .p (.mv 7 (.t 1)) .unit,
  .p (.callB 8 n_laws_szItem [((.t 6), 0), ((.t 7), 0)]) .unit,
  .p (.mv 1 (.t 8)) .unit])
 (.seq (.seq (.reg none [.p (.mv 9 (.t 1)) .unit,
  .p (.bin 10 false .lss (.t 9) (.c (.int .i64 0))) .unit])
 (.cond (.t 10) (.seq (.reg none [.p (.mv 4 (.c (.int .i64 (-1)))) .unit])
 .ret) .skip))
 (.seq (.reg none [.p (.fadr 11 (.t 2) 7) .unit,
  .p (.load 12 (.t 11) 6 true) .unit,
  .p (.mv 13 (.t 1)) .unit,
  .p (.callB 14 n_laws_szToken [((.t 12), 0), ((.t 13), 0)]) .unit,
  .p (.mv 1 (.t 14)) .unit])
 (.seq (.seq (.reg none [.p (.mv 15 (.t 1)) .unit,
  .p (.bin 16 false .lss (.t 15) (.c (.int .i64 0))) .unit])
 (.cond (.t 16) (.seq (.reg none [.p (.mv 4 (.c (.int .i64 (-1)))) .unit])
 .ret) .skip))
 (.seq (.reg none [.p (.fadr 17 (.t 2) 13) .unit,
  .p (.load 18 (.t 17) 4 true) .unit,
  .p (.mv 19 (.t 1)) .unit,
  .p (.callB 20 n_laws_szBundle [((.t 18), 0), ((.t 19), 0)]) .unit,
  .p (.mv 1 (.t 20)) .unit])
 (.seq (.seq (.reg none [.p (.mv 21 (.t 1)) .unit,
  .p (.bin 22 false .lss (.t 21) (.c (.int .i64 0))) .unit])
 (.cond (.t 22) (.seq (.reg none [.p (.mv 4 (.c (.int .i64 (-1)))) .unit])
 .ret) .skip))
 (.seq (.reg none [.p (.mv 23 (.t 1)) .unit,
  .p (.mv 4 (.t 23)) .unit])
 .ret)))))))),
 24, 2, [.t 4]⟩
theorem m_laws_szLetter : mH Try.prog 32 [] = some (F_laws_szLetter.code.x, F_laws_szLetter.N, F_laws_szLetter.np, F_laws_szLetter.res) := by kernel_rfl
noncomputable def T_laws_szLetter : (Int × Int × Int × (Int × Int × Int × List UInt8) × (Int × Int × Int × Int × Int × List (Int)) × Int × Int × Int × List (Int × Int × Int × List UInt8)) × Int → Option (Int) := evF [fn_laws_szItem, fn_laws_szToken, fn_laws_szBundle] F_laws_szLetter [.agg (.pair (.int .i64) (.pair (.int .i64) (.pair (.int .i64) (.pair (.pair (.int .i64) (.pair (.int .i64) (.pair (.int .i64) .str))) (.pair (.pair (.int .i64) (.pair (.int .i64) (.pair (.int .i64) (.pair (.int .i64) (.pair (.int .i64) (.sl false (.int .i64))))))) (.pair (.int .i64) (.pair (.int .i64) (.pair (.int .i64) (.sl false (.pair (.int .i64) (.pair (.int .i64) (.pair (.int .i64) .str)))))))))))), .cell (.int .i64)] [] [.cell (.int .i64)] []
noncomputable def fn_laws_szLetter : TFn := ⟨32, [.agg (.pair (.int .i64) (.pair (.int .i64) (.pair (.int .i64) (.pair (.pair (.int .i64) (.pair (.int .i64) (.pair (.int .i64) .str))) (.pair (.pair (.int .i64) (.pair (.int .i64) (.pair (.int .i64) (.pair (.int .i64) (.pair (.int .i64) (.sl false (.int .i64))))))) (.pair (.int .i64) (.pair (.int .i64) (.pair (.int .i64) (.sl false (.pair (.int .i64) (.pair (.int .i64) (.pair (.int .i64) .str)))))))))))), .cell (.int .i64)], [], [.cell (.int .i64)], [], T_laws_szLetter⟩
theorem ok_laws_szLetter : FnOk Try.prog fn_laws_szLetter := evF_ok mixed (allOk_cons ok_laws_szItem (allOk_cons ok_laws_szToken (allOk_cons ok_laws_szBundle allOk_nil))) m_laws_szLetter (by decide)
def B_laws_szLetterS_1 : TC := (.seq (.seq (.reg none [.p (.mv 12 (.t 5)) .unit,
  .p (.mv 13 (.t 0)) .unit,
  .p (.lenB 14 (.t 13)) .unit,
  .p (.bin 15 false .lss (.t 12) (.t 14)) .unit])
 (.cond (.t 15) .skip (.exit 0)))
 (.seq (.block 1 (.seq (.reg none [.p (.mv 18 (.t 0)) .unit,
  .p (.mv 19 (.t 5)) .unit,
  .p (.iadr 20 17 (.t 18) (.t 19)) .unit,
  .p (.load 21 (.t 20) 17 true) .unit,
  .p (.mv 22 (.t 1)) .unit,
  .p (.callB 23 n_laws_szLetter [((.t 21), 0), ((.t 22), 0)]) .unit,
  .p (.mv 1 (.t 23)) .unit])
 (.seq (.reg none [.p (.mv 24 (.t 1)) .unit,
  .p (.bin 25 false .lss (.t 24) (.c (.int .i64 0))) .unit])
 (.cond (.t 25) (.seq (.reg none [.p (.mv 4 (.c (.int .i64 (-1)))) .unit])
 .ret) .skip))))
 (.reg none [.p (.mv 16 (.t 5)) .unit,
  .p (.bin 17 false .add (.t 16) (.c (.int .i64 1))) .unit,
  .p (.mv 5 (.t 17)) .unit])))
noncomputable def L_laws_szLetterS_1 : Nat → (List (Int × Int × Int × (Int × Int × Int × List UInt8) × (Int × Int × Int × Int × Int × List (Int)) × Int × Int × Int × List (Int × Int × Int × List UInt8))) × (Int) × Int → Option ((Int) ⊕ (Int)) := evL [fn_laws_szLetter] (finT [.t 4] [] [.cell (.int .i64)]) 0 ⟨[(0, true), (1, false), (5, false)], [.cell (.sl false (.pair (.int .i64) (.pair (.int .i64) (.pair (.int .i64) (.pair (.pair (.int .i64) (.pair (.int .i64) (.pair (.int .i64) .str))) (.pair (.pair (.int .i64) (.pair (.int .i64) (.pair (.int .i64) (.pair (.int .i64) (.pair (.int .i64) (.sl false (.int .i64))))))) (.pair (.int .i64) (.pair (.int .i64) (.pair (.int .i64) (.sl false (.pair (.int .i64) (.pair (.int .i64) (.pair (.int .i64) .str))))))))))))), .cell (.int .i64), .cell (.int .i64)]⟩ ⟨[(1, false)], [.cell (.int .i64)]⟩ B_laws_szLetterS_1
def F_laws_szLetterS : TF := ⟨(.seq (.reg none [.p (.mv 4 (.c (.int .i64 0))) .unit])
 (.seq (.reg none [.p (.mv 6 (.t 1)) .unit,
  .p (.mv 7 (.t 0)) .unit,
  .p (.lenB 8 (.t 7)) .unit,
  .p (.bin 9 false .sub (.t 6) (.t 8)) .unit,
  .p (.mv 1 (.t 9)) .unit])
 (.seq (.seq (.reg none [.p (.mv 10 (.t 1)) .unit,
  .p (.bin 11 false .lss (.t 10) (.c (.int .i64 0))) .unit])
 (.cond (.t 11) (.seq (.reg none [.p (.mv 4 (.c (.int .i64 (-1)))) .unit])
 .ret) .skip))
 (.seq (.seq (.reg none [.p (.mv 5 (.c (.int .i64 0))) .unit])
 (.jl 0 ⟨[(0, true), (1, false), (5, false)], [.cell (.sl false (.pair (.int .i64) (.pair (.int .i64) (.pair (.int .i64) (.pair (.pair (.int .i64) (.pair (.int .i64) (.pair (.int .i64) .str))) (.pair (.pair (.int .i64) (.pair (.int .i64) (.pair (.int .i64) (.pair (.int .i64) (.pair (.int .i64) (.sl false (.int .i64))))))) (.pair (.int .i64) (.pair (.int .i64) (.pair (.int .i64) (.sl false (.pair (.int .i64) (.pair (.int .i64) (.pair (.int .i64) .str))))))))))))), .cell (.int .i64), .cell (.int .i64)]⟩ ⟨[(1, false)], [.cell (.int .i64)]⟩ B_laws_szLetterS_1))
 (.seq (.reg none [.p (.mv 26 (.t 1)) .unit,
  .p (.mv 4 (.t 26)) .unit])
 .ret))))),
 27, 2, [.t 4]⟩
theorem m_laws_szLetterS : mH Try.prog 14 [] = some (F_laws_szLetterS.code.x, F_laws_szLetterS.N, F_laws_szLetterS.np, F_laws_szLetterS.res) := by kernel_rfl
noncomputable def T_laws_szLetterS : (List (Int × Int × Int × (Int × Int × Int × List UInt8) × (Int × Int × Int × Int × Int × List (Int)) × Int × Int × Int × List (Int × Int × Int × List UInt8))) × Int → Option (Int) := evF [fn_laws_szLetter] F_laws_szLetterS [.cell (.sl false (.pair (.int .i64) (.pair (.int .i64) (.pair (.int .i64) (.pair (.pair (.int .i64) (.pair (.int .i64) (.pair (.int .i64) .str))) (.pair (.pair (.int .i64) (.pair (.int .i64) (.pair (.int .i64) (.pair (.int .i64) (.pair (.int .i64) (.sl false (.int .i64))))))) (.pair (.int .i64) (.pair (.int .i64) (.pair (.int .i64) (.sl false (.pair (.int .i64) (.pair (.int .i64) (.pair (.int .i64) .str))))))))))))), .cell (.int .i64)] [] [.cell (.int .i64)] []
noncomputable def fn_laws_szLetterS : TFn := ⟨14, [.cell (.sl false (.pair (.int .i64) (.pair (.int .i64) (.pair (.int .i64) (.pair (.pair (.int .i64) (.pair (.int .i64) (.pair (.int .i64) .str))) (.pair (.pair (.int .i64) (.pair (.int .i64) (.pair (.int .i64) (.pair (.int .i64) (.pair (.int .i64) (.sl false (.int .i64))))))) (.pair (.int .i64) (.pair (.int .i64) (.pair (.int .i64) (.sl false (.pair (.int .i64) (.pair (.int .i64) (.pair (.int .i64) .str))))))))))))), .cell (.int .i64)], [], [.cell (.int .i64)], [], T_laws_szLetterS⟩
theorem ok_laws_szLetterS : FnOk Try.prog fn_laws_szLetterS := evF_ok mixed (allOk_cons ok_laws_szLetter allOk_nil) m_laws_szLetterS (by decide)
def F_laws_szWorld : TF := ⟨(.seq (.reg none [.p (.box 2 (.t 0)) .unit,
  .p (.mv 4 (.c (.int .i64 0))) .unit])
 (.seq (.reg none [.p (.fadr 5 (.t 2) 0) .unit,
  .p (.load 6 (.t 5) 1 false) .unit,
  .p (.mv 7 (.t 1)) .unit,
  .p (.callB 8 n_laws_szRingS [((.t 6), 0), ((.t 7), 0)]) .unit,
  .p (.mv 1 (.t 8)) .unit])
 (.seq (.seq (.reg none [.p (.mv 9 (.t 1)) .unit,
  .p (.bin 10 false .lss (.t 9) (.c (.int .i64 0))) .unit])
 (.cond (.t 10) (.seq (.reg none [.p (.mv 4 (.c (.int .i64 (-1)))) .unit])
 .ret) .skip))
 (.seq (.reg none [.p (.fadr 11 (.t 2) 1) .unit,
  .p (.load 12 (.t 11) 1 false) .unit,
  .p (.mv 13 (.t 1)) .unit,
  .p (.callB 14 n_laws_szDaemonS [((.t 12), 0), ((.t 13), 0)]) .unit,
  .p (.mv 1 (.t 14)) .unit])
 (.seq (.seq (.reg none [.p (.mv 15 (.t 1)) .unit,
  .p (.bin 16 false .lss (.t 15) (.c (.int .i64 0))) .unit])
 (.cond (.t 16) (.seq (.reg none [.p (.mv 4 (.c (.int .i64 (-1)))) .unit])
 .ret) .skip))
 (.seq (.reg none [.p (.fadr 17 (.t 2) 2) .unit,
  .p (.load 18 (.t 17) 1 false) .unit,
  .p (.mv 19 (.t 1)) .unit,
  .p (.callB 20 n_laws_szLetterS [((.t 18), 0), ((.t 19), 0)]) .unit,
  .p (.mv 1 (.t 20)) .unit])
 (.seq (.seq (.reg none [.p (.mv 21 (.t 1)) .unit,
  .p (.bin 22 false .lss (.t 21) (.c (.int .i64 0))) .unit])
 (.cond (.t 22) (.seq (.reg none [.p (.mv 4 (.c (.int .i64 (-1)))) .unit])
 .ret) .skip))
 (.seq (.reg none [.p (.fadr 23 (.t 2) 3) .unit,
  .p (.load 24 (.t 23) 1 false) .unit,
  .p (.mv 25 (.t 1)) .unit,
  .p (.callB 26 n_laws_szEventS [((.t 24), 0), ((.t 25), 0)]) .unit,
  .p (.mv 1 (.t 26)) .unit])
 (.seq (.seq (.reg none [.p (.mv 27 (.t 1)) .unit,
  .p (.bin 28 false .lss (.t 27) (.c (.int .i64 0))) .unit])
 (.cond (.t 28) (.seq (.reg none [.p (.mv 4 (.c (.int .i64 (-1)))) .unit])
 .ret) .skip))
 (.seq (.reg none [.p (.mv 29 (.t 1)) .unit,
  .p (.mv 4 (.t 29)) .unit])
 .ret)))))))))),
 30, 2, [.t 4]⟩
theorem m_laws_szWorld : mH Try.prog 5 [] = some (F_laws_szWorld.code.x, F_laws_szWorld.N, F_laws_szWorld.np, F_laws_szWorld.res) := by kernel_rfl
noncomputable def T_laws_szWorld : (List (Int × List (Int)) × List (Int × Bool × (Int × (Int × List (Int)) × List (Int × Int × Int × List UInt8) × List (Int) × List (List UInt8) × Int × Int × Int × Int × Int × Int × Int × Int × Int × List (Int)) × Int × Int × (Int × List (Int)) × List (Int × Int × Int × List (Int × Int × Int × List UInt8)) × List (Int × (Int × List (Int)) × (Int × Int × Int × List UInt8) × List (Int))) × List (Int × Int × Int × (Int × Int × Int × List UInt8) × (Int × Int × Int × Int × Int × List (Int)) × Int × Int × Int × List (Int × Int × Int × List UInt8)) × List (Int × (Int × List (Int)) × (Int × Int × Int × List UInt8) × List (Int))) × Int → Option (Int) := evF [fn_laws_szRingS, fn_laws_szDaemonS, fn_laws_szLetterS, fn_laws_szEventS] F_laws_szWorld [.agg (.pair (.sl false (.pair (.int .i64) (.sl false (.int .i64)))) (.pair (.sl false (.pair (.int .i64) (.pair .bool (.pair (.pair (.int .i64) (.pair (.pair (.int .i64) (.sl false (.int .i64))) (.pair (.sl false (.pair (.int .i64) (.pair (.int .i64) (.pair (.int .i64) .str)))) (.pair (.sl false (.int .i64)) (.pair (.sl false .str) (.pair (.int .i64) (.pair (.int .i64) (.pair (.int .i64) (.pair (.int .i64) (.pair (.int .i64) (.pair (.int .i64) (.pair (.int .i64) (.pair (.int .i64) (.pair (.int .i64) (.sl false (.int .i64)))))))))))))))) (.pair (.int .i64) (.pair (.int .i64) (.pair (.pair (.int .i64) (.sl false (.int .i64))) (.pair (.sl false (.pair (.int .i64) (.pair (.int .i64) (.pair (.int .i64) (.sl false (.pair (.int .i64) (.pair (.int .i64) (.pair (.int .i64) .str)))))))) (.sl false (.pair (.int .i64) (.pair (.pair (.int .i64) (.sl false (.int .i64))) (.pair (.pair (.int .i64) (.pair (.int .i64) (.pair (.int .i64) .str))) (.sl false (.int .i64)))))))))))))) (.pair (.sl false (.pair (.int .i64) (.pair (.int .i64) (.pair (.int .i64) (.pair (.pair (.int .i64) (.pair (.int .i64) (.pair (.int .i64) .str))) (.pair (.pair (.int .i64) (.pair (.int .i64) (.pair (.int .i64) (.pair (.int .i64) (.pair (.int .i64) (.sl false (.int .i64))))))) (.pair (.int .i64) (.pair (.int .i64) (.pair (.int .i64) (.sl false (.pair (.int .i64) (.pair (.int .i64) (.pair (.int .i64) .str))))))))))))) (.sl false (.pair (.int .i64) (.pair (.pair (.int .i64) (.sl false (.int .i64))) (.pair (.pair (.int .i64) (.pair (.int .i64) (.pair (.int .i64) .str))) (.sl false (.int .i64))))))))), .cell (.int .i64)] [] [.cell (.int .i64)] []
noncomputable def fn_laws_szWorld : TFn := ⟨5, [.agg (.pair (.sl false (.pair (.int .i64) (.sl false (.int .i64)))) (.pair (.sl false (.pair (.int .i64) (.pair .bool (.pair (.pair (.int .i64) (.pair (.pair (.int .i64) (.sl false (.int .i64))) (.pair (.sl false (.pair (.int .i64) (.pair (.int .i64) (.pair (.int .i64) .str)))) (.pair (.sl false (.int .i64)) (.pair (.sl false .str) (.pair (.int .i64) (.pair (.int .i64) (.pair (.int .i64) (.pair (.int .i64) (.pair (.int .i64) (.pair (.int .i64) (.pair (.int .i64) (.pair (.int .i64) (.pair (.int .i64) (.sl false (.int .i64)))))))))))))))) (.pair (.int .i64) (.pair (.int .i64) (.pair (.pair (.int .i64) (.sl false (.int .i64))) (.pair (.sl false (.pair (.int .i64) (.pair (.int .i64) (.pair (.int .i64) (.sl false (.pair (.int .i64) (.pair (.int .i64) (.pair (.int .i64) .str)))))))) (.sl false (.pair (.int .i64) (.pair (.pair (.int .i64) (.sl false (.int .i64))) (.pair (.pair (.int .i64) (.pair (.int .i64) (.pair (.int .i64) .str))) (.sl false (.int .i64)))))))))))))) (.pair (.sl false (.pair (.int .i64) (.pair (.int .i64) (.pair (.int .i64) (.pair (.pair (.int .i64) (.pair (.int .i64) (.pair (.int .i64) .str))) (.pair (.pair (.int .i64) (.pair (.int .i64) (.pair (.int .i64) (.pair (.int .i64) (.pair (.int .i64) (.sl false (.int .i64))))))) (.pair (.int .i64) (.pair (.int .i64) (.pair (.int .i64) (.sl false (.pair (.int .i64) (.pair (.int .i64) (.pair (.int .i64) .str))))))))))))) (.sl false (.pair (.int .i64) (.pair (.pair (.int .i64) (.sl false (.int .i64))) (.pair (.pair (.int .i64) (.pair (.int .i64) (.pair (.int .i64) .str))) (.sl false (.int .i64))))))))), .cell (.int .i64)], [], [.cell (.int .i64)], [], T_laws_szWorld⟩
theorem ok_laws_szWorld : FnOk Try.prog fn_laws_szWorld := evF_ok mixed (allOk_cons ok_laws_szRingS (allOk_cons ok_laws_szDaemonS (allOk_cons ok_laws_szLetterS (allOk_cons ok_laws_szEventS allOk_nil)))) m_laws_szWorld (by decide)
def B_laws_toIntS_1 : TC := (.seq (.seq (.reg none [.p (.mv 8 (.t 4)) .unit,
  .p (.mv 9 (.t 0)) .unit,
  .p (.lenB 10 (.t 9)) .unit,
  .p (.bin 11 false .lss (.t 8) (.t 10)) .unit])
 (.cond (.t 11) .skip (.exit 0)))
 (.seq (.block 1 (.reg none [.p (.mvA 14 3) .unit,
  .p (.mv 15 (.t 4)) .unit,
  .p (.mv 16 (.t 0)) .unit,
  .p (.mv 17 (.t 4)) .unit,
  .p (.iadr 18 1 (.t 16) (.t 17)) .unit,
  .p (.load 19 (.t 18) 1 false) .unit,
  .p (.iadr 20 1 (.t 14) (.t 15)) .unit,
  .p (.store (.t 20) (.t 19) 1) .unit]))
 (.reg none [.p (.mv 12 (.t 4)) .unit,
  .p (.bin 13 false .add (.t 12) (.c (.int .i64 1))) .unit,
  .p (.mv 4 (.t 13)) .unit])))
noncomputable def L_laws_toIntS_1 : Nat → (List (Int)) × (List (Int)) × Int → Option ((List (Int)) ⊕ (List (Int))) := evL [] (finT [.t 2] [] [.cell (.sl true (.int .i64))]) 0 ⟨[(0, true), (3, false), (4, false)], [.cell (.sl false (.int .i64)), .cell (.sl true (.int .i64)), .cell (.int .i64)]⟩ ⟨[(3, false)], [.cell (.sl true (.int .i64))]⟩ B_laws_toIntS_1
def F_laws_toIntS : TF := ⟨(.seq (.reg none [.p (.mvN 2 1) .unit])
 (.seq (.reg none [.p (.mv 5 (.t 0)) .unit,
  .p (.lenB 6 (.t 5)) .unit,
  .p (.mkS 7 8 [(.lit (.int .i64 0))] (.t 6) (.t 6)) (.int .i64),
  .p (.mvT 3 7) .unit])
 (.seq (.seq (.reg none [.p (.mv 4 (.c (.int .i64 0))) .unit])
 (.jl 0 ⟨[(0, true), (3, false), (4, false)], [.cell (.sl false (.int .i64)), .cell (.sl true (.int .i64)), .cell (.int .i64)]⟩ ⟨[(3, false)], [.cell (.sl true (.int .i64))]⟩ B_laws_toIntS_1))
 (.seq (.reg none [.p (.mvT 21 3) .unit,
  .p (.mvT 2 21) .unit])
 .ret)))),
 22, 1, [.t 2]⟩
theorem m_laws_toIntS : mH Try.prog 52 [(1, 3, .t), (5, 0, .v), (6, 0, .t), (6, 1, .t)] = some (F_laws_toIntS.code.x, F_laws_toIntS.N, F_laws_toIntS.np, F_laws_toIntS.res) := by kernel_rfl
noncomputable def T_laws_toIntS : List (Int) → Option (List (Int)) := evF [] F_laws_toIntS [.cell (.sl false (.int .i64))] [] [.cell (.sl true (.int .i64))] []
noncomputable def fn_laws_toIntS : TFn := ⟨52, [.cell (.sl false (.int .i64))], [], [.cell (.sl true (.int .i64))], [], T_laws_toIntS⟩
theorem ok_laws_toIntS : FnOk Try.prog fn_laws_toIntS := evF_ok mixed allOk_nil m_laws_toIntS (by decide)
def F_laws_toRing : TF := ⟨(.seq (.reg none [.p (.box 1 (.t 0)) .unit,
  .p (.alloc 2 [(.lit (.int .i64 0)), (.sl true 1 [])]) .unit])
 (.seq (.reg none [.p (.alloc 3 [(.lit (.int .i64 0)), (.sl true 1 [])]) .unit])
 (.seq (.reg none [.p (.fadr 4 (.t 1) 0) .unit,
  .p (.load 5 (.t 4) 1 false) .unit,
  .p (.fadr 6 (.t 3) 0) .unit,
  .p (.store (.t 6) (.t 5) 1) .unit])
 (.seq (.reg none [.p (.fadr 7 (.t 1) 1) .unit,
  .p (.load 8 (.t 7) 1 false) .unit,
  .p (.callB 9 n_laws_toIntS [((.t 8), 0)]) .unit,
  .p (.fadr 10 (.t 3) 1) .unit,
  .p (.storeT (.t 10) 9 1) .unit])
 (.seq (.reg none [.p (.loadT 11 (.t 3) 2 true) .unit,
  .p (.storeT (.t 2) 11 2) .unit])
 .ret))))),
 12, 1, [.c 2 2 true]⟩
theorem m_laws_toRing : mH Try.prog 34 [(3, 4, .t), (4, 0, .t), (4, 1, .t)] = some (F_laws_toRing.code.x, F_laws_toRing.N, F_laws_toRing.np, F_laws_toRing.res) := by kernel_rfl
noncomputable def T_laws_toRing : Int × List (Int) → Option (Int × List (Int)) := evF [fn_laws_toIntS] F_laws_toRing [.agg (.pair (.int .i64) (.sl false (.int .i64)))] [] [.agg (.pair (.int .i64) (.sl true (.int .i64)))] []
noncomputable def fn_laws_toRing : TFn := ⟨34, [.agg (.pair (.int .i64) (.sl false (.int .i64)))], [], [.agg (.pair (.int .i64) (.sl true (.int .i64)))], [], T_laws_toRing⟩
theorem ok_laws_toRing : FnOk Try.prog fn_laws_toRing := evF_ok mixed (allOk_cons ok_laws_toIntS allOk_nil) m_laws_toRing (by decide)
def B_laws_toRingS_1 : TC := (.seq (.seq (.reg none [.p (.mv 8 (.t 4)) .unit,
  .p (.mv 9 (.t 0)) .unit,
  .p (.lenB 10 (.t 9)) .unit,
  .p (.bin 11 false .lss (.t 8) (.t 10)) .unit])
 (.cond (.t 11) .skip (.exit 0)))
 (.seq (.block 1 (.reg none [.p (.mvA 14 3) .unit,
  .p (.mv 15 (.t 4)) .unit,
  .p (.mv 16 (.t 0)) .unit,
  .p (.mv 17 (.t 4)) .unit,
  .p (.iadr 18 2 (.t 16) (.t 17)) .unit,
  .p (.load 19 (.t 18) 2 true) .unit,
  .p (.callB 20 n_laws_toRing [((.t 19), 0)]) .unit,
  .p (.iadr 21 2 (.t 14) (.t 15)) .unit,
  .p (.storeT (.t 21) 20 2) .unit]))
 (.reg none [.p (.mv 12 (.t 4)) .unit,
  .p (.bin 13 false .add (.t 12) (.c (.int .i64 1))) .unit,
  .p (.mv 4 (.t 13)) .unit])))
noncomputable def L_laws_toRingS_1 : Nat → (List (Int × List (Int))) × (List (Int × List (Int))) × Int → Option ((List (Int × List (Int))) ⊕ (List (Int × List (Int)))) := evL [fn_laws_toRing] (finT [.t 2] [] [.cell (.sl true (.pair (.int .i64) (.sl true (.int .i64))))]) 0 ⟨[(0, true), (3, false), (4, false)], [.cell (.sl false (.pair (.int .i64) (.sl false (.int .i64)))), .cell (.sl true (.pair (.int .i64) (.sl true (.int .i64)))), .cell (.int .i64)]⟩ ⟨[(3, false)], [.cell (.sl true (.pair (.int .i64) (.sl true (.int .i64))))]⟩ B_laws_toRingS_1
def F_laws_toRingS : TF := ⟨(.seq (.reg none [.p (.mvN 2 2) .unit])
 (.seq (.reg none [.p (.mv 5 (.t 0)) .unit,
  .p (.lenB 6 (.t 5)) .unit,
  .p (.mkS 7 32 [(.lit (.int .i64 0)), (.sl true 1 [])] (.t 6) (.t 6)) (.pair (.int .i64) (.sl true (.int .i64))),
  .p (.mvT 3 7) .unit])
 (.seq (.seq (.reg none [.p (.mv 4 (.c (.int .i64 0))) .unit])
 (.jl 0 ⟨[(0, true), (3, false), (4, false)], [.cell (.sl false (.pair (.int .i64) (.sl false (.int .i64)))), .cell (.sl true (.pair (.int .i64) (.sl true (.int .i64)))), .cell (.int .i64)]⟩ ⟨[(3, false)], [.cell (.sl true (.pair (.int .i64) (.sl true (.int .i64))))]⟩ B_laws_toRingS_1))
 (.seq (.reg none [.p (.mvT 22 3) .unit,
  .p (.mvT 2 22) .unit])
 .ret)))),
 23, 1, [.t 2]⟩
theorem m_laws_toRingS : mH Try.prog 17 [(1, 3, .t), (5, 0, .v), (5, 8, .t), (6, 0, .t), (6, 1, .t)] = some (F_laws_toRingS.code.x, F_laws_toRingS.N, F_laws_toRingS.np, F_laws_toRingS.res) := by kernel_rfl
noncomputable def T_laws_toRingS : List (Int × List (Int)) → Option (List (Int × List (Int))) := evF [fn_laws_toRing] F_laws_toRingS [.cell (.sl false (.pair (.int .i64) (.sl false (.int .i64))))] [] [.cell (.sl true (.pair (.int .i64) (.sl true (.int .i64))))] []
noncomputable def fn_laws_toRingS : TFn := ⟨17, [.cell (.sl false (.pair (.int .i64) (.sl false (.int .i64))))], [], [.cell (.sl true (.pair (.int .i64) (.sl true (.int .i64))))], [], T_laws_toRingS⟩
theorem ok_laws_toRingS : FnOk Try.prog fn_laws_toRingS := evF_ok mixed (allOk_cons ok_laws_toRing allOk_nil) m_laws_toRingS (by decide)
def F_laws_toItem : TF := ⟨(.seq (.reg none [.p (.box 1 (.t 0)) .unit,
  .p (.alloc 2 [(.lit (.int .i64 0)), (.lit (.int .i64 0)), (.lit (.int .i64 0)), (.lit (.string (ba [])))]) .unit])
 (.seq (.reg none [.p (.alloc 3 [(.lit (.int .i64 0)), (.lit (.int .i64 0)), (.lit (.int .i64 0)), (.lit (.string (ba [])))]) .unit])
 (.seq (.reg none [.p (.fadr 4 (.t 1) 0) .unit,
  .p (.load 5 (.t 4) 1 false) .unit,
  .p (.fadr 6 (.t 3) 0) .unit,
  .p (.store (.t 6) (.t 5) 1) .unit])
 (.seq (.reg none [.p (.fadr 7 (.t 1) 1) .unit,
  .p (.load 8 (.t 7) 1 false) .unit,
  .p (.fadr 9 (.t 3) 1) .unit,
  .p (.store (.t 9) (.t 8) 1) .unit])
 (.seq (.reg none [.p (.fadr 10 (.t 1) 2) .unit,
  .p (.load 11 (.t 10) 1 false) .unit,
  .p (.fadr 12 (.t 3) 2) .unit,
  .p (.store (.t 12) (.t 11) 1) .unit])
 (.seq (.reg none [.p (.fadr 13 (.t 1) 3) .unit,
  .p (.load 14 (.t 13) 1 false) .unit,
  .p (.fadr 15 (.t 3) 3) .unit,
  .p (.store (.t 15) (.t 14) 1) .unit])
 (.seq (.reg none [.p (.load 16 (.t 3) 4 true) .unit,
  .p (.store (.t 2) (.t 16) 4) .unit])
 .ret))))))),
 17, 1, [.c 2 4 true]⟩
theorem m_laws_toItem : mH Try.prog 55 [] = some (F_laws_toItem.code.x, F_laws_toItem.N, F_laws_toItem.np, F_laws_toItem.res) := by kernel_rfl
noncomputable def T_laws_toItem : Int × Int × Int × List UInt8 → Option (Int × Int × Int × List UInt8) := evF [] F_laws_toItem [.agg (.pair (.int .i64) (.pair (.int .i64) (.pair (.int .i64) .str)))] [] [.agg (.pair (.int .i64) (.pair (.int .i64) (.pair (.int .i64) .str)))] []
noncomputable def fn_laws_toItem : TFn := ⟨55, [.agg (.pair (.int .i64) (.pair (.int .i64) (.pair (.int .i64) .str)))], [], [.agg (.pair (.int .i64) (.pair (.int .i64) (.pair (.int .i64) .str)))], [], T_laws_toItem⟩
theorem ok_laws_toItem : FnOk Try.prog fn_laws_toItem := evF_ok mixed allOk_nil m_laws_toItem (by decide)
def B_laws_toItemS_1 : TC := (.seq (.seq (.reg none [.p (.mv 8 (.t 4)) .unit,
  .p (.mv 9 (.t 0)) .unit,
  .p (.lenB 10 (.t 9)) .unit,
  .p (.bin 11 false .lss (.t 8) (.t 10)) .unit])
 (.cond (.t 11) .skip (.exit 0)))
 (.seq (.block 1 (.reg none [.p (.mvA 14 3) .unit,
  .p (.mv 15 (.t 4)) .unit,
  .p (.mv 16 (.t 0)) .unit,
  .p (.mv 17 (.t 4)) .unit,
  .p (.iadr 18 4 (.t 16) (.t 17)) .unit,
  .p (.load 19 (.t 18) 4 true) .unit,
  .p (.callB 20 n_laws_toItem [((.t 19), 0)]) .unit,
  .p (.iadr 21 4 (.t 14) (.t 15)) .unit,
  .p (.store (.t 21) (.t 20) 4) .unit]))
 (.reg none [.p (.mv 12 (.t 4)) .unit,
  .p (.bin 13 false .add (.t 12) (.c (.int .i64 1))) .unit,
  .p (.mv 4 (.t 13)) .unit])))
noncomputable def L_laws_toItemS_1 : Nat → (List (Int × Int × Int × List UInt8)) × (List (Int × Int × Int × List UInt8)) × Int → Option ((List (Int × Int × Int × List UInt8)) ⊕ (List (Int × Int × Int × List UInt8))) := evL [fn_laws_toItem] (finT [.t 2] [] [.cell (.sl true (.pair (.int .i64) (.pair (.int .i64) (.pair (.int .i64) .str))))]) 0 ⟨[(0, true), (3, false), (4, false)], [.cell (.sl false (.pair (.int .i64) (.pair (.int .i64) (.pair (.int .i64) .str)))), .cell (.sl true (.pair (.int .i64) (.pair (.int .i64) (.pair (.int .i64) .str)))), .cell (.int .i64)]⟩ ⟨[(3, false)], [.cell (.sl true (.pair (.int .i64) (.pair (.int .i64) (.pair (.int .i64) .str))))]⟩ B_laws_toItemS_1
def F_laws_toItemS : TF := ⟨(.seq (.reg none [.p (.mvN 2 4) .unit])
 (.seq (.reg none [.p (.mv 5 (.t 0)) .unit,
  .p (.lenB 6 (.t 5)) .unit,
  .p (.mkS 7 40 [(.lit (.int .i64 0)), (.lit (.int .i64 0)), (.lit (.int .i64 0)), (.lit (.string (ba [])))] (.t 6) (.t 6)) (.pair (.int .i64) (.pair (.int .i64) (.pair (.int .i64) .str))),
  .p (.mvT 3 7) .unit])
 (.seq (.seq (.reg none [.p (.mv 4 (.c (.int .i64 0))) .unit])
 (.jl 0 ⟨[(0, true), (3, false), (4, false)], [.cell (.sl false (.pair (.int .i64) (.pair (.int .i64) (.pair (.int .i64) .str)))), .cell (.sl true (.pair (.int .i64) (.pair (.int .i64) (.pair (.int .i64) .str)))), .cell (.int .i64)]⟩ ⟨[(3, false)], [.cell (.sl true (.pair (.int .i64) (.pair (.int .i64) (.pair (.int .i64) .str))))]⟩ B_laws_toItemS_1))
 (.seq (.reg none [.p (.mvT 22 3) .unit,
  .p (.mvT 2 22) .unit])
 .ret)))),
 23, 1, [.t 2]⟩
theorem m_laws_toItemS : mH Try.prog 69 [(1, 3, .t), (5, 0, .v), (6, 0, .t), (6, 1, .t)] = some (F_laws_toItemS.code.x, F_laws_toItemS.N, F_laws_toItemS.np, F_laws_toItemS.res) := by kernel_rfl
noncomputable def T_laws_toItemS : List (Int × Int × Int × List UInt8) → Option (List (Int × Int × Int × List UInt8)) := evF [fn_laws_toItem] F_laws_toItemS [.cell (.sl false (.pair (.int .i64) (.pair (.int .i64) (.pair (.int .i64) .str))))] [] [.cell (.sl true (.pair (.int .i64) (.pair (.int .i64) (.pair (.int .i64) .str))))] []
noncomputable def fn_laws_toItemS : TFn := ⟨69, [.cell (.sl false (.pair (.int .i64) (.pair (.int .i64) (.pair (.int .i64) .str))))], [], [.cell (.sl true (.pair (.int .i64) (.pair (.int .i64) (.pair (.int .i64) .str))))], [], T_laws_toItemS⟩
theorem ok_laws_toItemS : FnOk Try.prog fn_laws_toItemS := evF_ok mixed (allOk_cons ok_laws_toItem allOk_nil) m_laws_toItemS (by decide)
def B_laws_toStringS_1 : TC := (.seq (.seq (.reg none [.p (.mv 8 (.t 4)) .unit,
  .p (.mv 9 (.t 0)) .unit,
  .p (.lenB 10 (.t 9)) .unit,
  .p (.bin 11 false .lss (.t 8) (.t 10)) .unit])
 (.cond (.t 11) .skip (.exit 0)))
 (.seq (.block 1 (.reg none [.p (.mvA 14 3) .unit,
  .p (.mv 15 (.t 4)) .unit,
  .p (.mv 16 (.t 0)) .unit,
  .p (.mv 17 (.t 4)) .unit,
  .p (.iadr 18 1 (.t 16) (.t 17)) .unit,
  .p (.load 19 (.t 18) 1 false) .unit,
  .p (.iadr 20 1 (.t 14) (.t 15)) .unit,
  .p (.store (.t 20) (.t 19) 1) .unit]))
 (.reg none [.p (.mv 12 (.t 4)) .unit,
  .p (.bin 13 false .add (.t 12) (.c (.int .i64 1))) .unit,
  .p (.mv 4 (.t 13)) .unit])))
noncomputable def L_laws_toStringS_1 : Nat → (List (List UInt8)) × (List (List UInt8)) × Int → Option ((List (List UInt8)) ⊕ (List (List UInt8))) := evL [] (finT [.t 2] [] [.cell (.sl true .str)]) 0 ⟨[(0, true), (3, false), (4, false)], [.cell (.sl false .str), .cell (.sl true .str), .cell (.int .i64)]⟩ ⟨[(3, false)], [.cell (.sl true .str)]⟩ B_laws_toStringS_1
def F_laws_toStringS : TF := ⟨(.seq (.reg none [.p (.mvN 2 1) .unit])
 (.seq (.reg none [.p (.mv 5 (.t 0)) .unit,
  .p (.lenB 6 (.t 5)) .unit,
  .p (.mkS 7 16 [(.lit (.string (ba [])))] (.t 6) (.t 6)) .str,
  .p (.mvT 3 7) .unit])
 (.seq (.seq (.reg none [.p (.mv 4 (.c (.int .i64 0))) .unit])
 (.jl 0 ⟨[(0, true), (3, false), (4, false)], [.cell (.sl false .str), .cell (.sl true .str), .cell (.int .i64)]⟩ ⟨[(3, false)], [.cell (.sl true .str)]⟩ B_laws_toStringS_1))
 (.seq (.reg none [.p (.mvT 21 3) .unit,
  .p (.mvT 2 21) .unit])
 .ret)))),
 22, 1, [.t 2]⟩
theorem m_laws_toStringS : mH Try.prog 70 [(1, 3, .t), (5, 0, .v), (6, 0, .t), (6, 1, .t)] = some (F_laws_toStringS.code.x, F_laws_toStringS.N, F_laws_toStringS.np, F_laws_toStringS.res) := by kernel_rfl
noncomputable def T_laws_toStringS : List (List UInt8) → Option (List (List UInt8)) := evF [] F_laws_toStringS [.cell (.sl false .str)] [] [.cell (.sl true .str)] []
noncomputable def fn_laws_toStringS : TFn := ⟨70, [.cell (.sl false .str)], [], [.cell (.sl true .str)], [], T_laws_toStringS⟩
theorem ok_laws_toStringS : FnOk Try.prog fn_laws_toStringS := evF_ok mixed allOk_nil m_laws_toStringS (by decide)
def F_laws_toToken : TF := ⟨(.seq (.reg none [.p (.box 1 (.t 0)) .unit,
  .p (.alloc 2 [(.lit (.int .i64 0)), (.lit (.int .i64 0)), (.lit (.int .i64 0)), (.lit (.int .i64 0)), (.lit (.int .i64 0)), (.sl true 1 [])]) .unit])
 (.seq (.reg none [.p (.alloc 3 [(.lit (.int .i64 0)), (.lit (.int .i64 0)), (.lit (.int .i64 0)), (.lit (.int .i64 0)), (.lit (.int .i64 0)), (.sl true 1 [])]) .unit])
 (.seq (.reg none [.p (.fadr 4 (.t 1) 0) .unit,
  .p (.load 5 (.t 4) 1 false) .unit,
  .p (.fadr 6 (.t 3) 0) .unit,
  .p (.store (.t 6) (.t 5) 1) .unit])
 (.seq (.reg none [.p (.fadr 7 (.t 1) 1) .unit,
  .p (.load 8 (.t 7) 1 false) .unit,
  .p (.fadr 9 (.t 3) 1) .unit,
  .p (.store (.t 9) (.t 8) 1) .unit])
 (.seq (.reg none [.p (.fadr 10 (.t 1) 2) .unit,
  .p (.load 11 (.t 10) 1 false) .unit,
  .p (.fadr 12 (.t 3) 2) .unit,
  .p (.store (.t 12) (.t 11) 1) .unit])
 (.seq (.reg none [.p (.fadr 13 (.t 1) 3) .unit,
  .p (.load 14 (.t 13) 1 false) .unit,
  .p (.fadr 15 (.t 3) 3) .unit,
  .p (.store (.t 15) (.t 14) 1) .unit])
 (.seq (.reg none [.p (.fadr 16 (.t 1) 4) .unit,
  .p (.load 17 (.t 16) 1 false) .unit,
  .p (.fadr 18 (.t 3) 4) .unit,
  .p (.store (.t 18) (.t 17) 1) .unit])
 (.seq (.reg none [.p (.fadr 19 (.t 1) 5) .unit,
  .p (.load 20 (.t 19) 1 false) .unit,
  .p (.callB 21 n_laws_toIntS [((.t 20), 0)]) .unit,
  .p (.fadr 22 (.t 3) 5) .unit,
  .p (.storeT (.t 22) 21 1) .unit])
 (.seq (.reg none [.p (.loadT 23 (.t 3) 6 true) .unit,
  .p (.storeT (.t 2) 23 6) .unit])
 .ret))))))))),
 24, 1, [.c 2 6 true]⟩
theorem m_laws_toToken : mH Try.prog 56 [(7, 4, .t), (8, 0, .t), (8, 1, .t)] = some (F_laws_toToken.code.x, F_laws_toToken.N, F_laws_toToken.np, F_laws_toToken.res) := by kernel_rfl
noncomputable def T_laws_toToken : Int × Int × Int × Int × Int × List (Int) → Option (Int × Int × Int × Int × Int × List (Int)) := evF [fn_laws_toIntS] F_laws_toToken [.agg (.pair (.int .i64) (.pair (.int .i64) (.pair (.int .i64) (.pair (.int .i64) (.pair (.int .i64) (.sl false (.int .i64)))))))] [] [.agg (.pair (.int .i64) (.pair (.int .i64) (.pair (.int .i64) (.pair (.int .i64) (.pair (.int .i64) (.sl true (.int .i64)))))))] []
noncomputable def fn_laws_toToken : TFn := ⟨56, [.agg (.pair (.int .i64) (.pair (.int .i64) (.pair (.int .i64) (.pair (.int .i64) (.pair (.int .i64) (.sl false (.int .i64)))))))], [], [.agg (.pair (.int .i64) (.pair (.int .i64) (.pair (.int .i64) (.pair (.int .i64) (.pair (.int .i64) (.sl true (.int .i64)))))))], [], T_laws_toToken⟩
theorem ok_laws_toToken : FnOk Try.prog fn_laws_toToken := evF_ok mixed (allOk_cons ok_laws_toIntS allOk_nil) m_laws_toToken (by decide)
def F_laws_toMate : TF := ⟨(.seq (.reg none [.p (.box 1 (.t 0)) .unit,
  .p (.alloc 2 [(.lit (.int .i64 0)), (.lit (.int .i64 0)), (.sl true 1 []), (.sl true 4 []), (.sl true 1 []), (.sl true 1 []), (.lit (.int .i64 0)), (.lit (.int .i64 0)), (.lit (.int .i64 0)), (.lit (.int .i64 0)), (.lit (.int .i64 0)), (.lit (.int .i64 0)), (.lit (.int .i64 0)), (.lit (.int .i64 0)), (.lit (.int .i64 0)), (.sl true 1 [])]) .unit])
 (.seq (.reg none [.p (.alloc 3 [(.lit (.int .i64 0)), (.lit (.int .i64 0)), (.sl true 1 []), (.sl true 4 []), (.sl true 1 []), (.sl true 1 []), (.lit (.int .i64 0)), (.lit (.int .i64 0)), (.lit (.int .i64 0)), (.lit (.int .i64 0)), (.lit (.int .i64 0)), (.lit (.int .i64 0)), (.lit (.int .i64 0)), (.lit (.int .i64 0)), (.lit (.int .i64 0)), (.sl true 1 [])]) .unit])
 (.seq (.reg none [.p (.fadr 4 (.t 1) 0) .unit,
  .p (.load 5 (.t 4) 1 false) .unit,
  .p (.fadr 6 (.t 3) 0) .unit,
  .p (.store (.t 6) (.t 5) 1) .unit])
 (.seq (.reg none [.p (.fadr 7 (.t 1) 1) .unit,
  .p (.load 8 (.t 7) 2 true) .unit,
  .p (.callB 9 n_laws_toRing [((.t 8), 0)]) .unit,
  .p (.fadr 10 (.t 3) 1) .unit,
  .p (.storeT (.t 10) 9 2) .unit])
 (.seq (.reg none [.p (.fadr 11 (.t 1) 3) .unit,
  .p (.load 12 (.t 11) 1 false) .unit,
  .p (.callB 13 n_laws_toItemS [((.t 12), 0)]) .unit,
  .p (.fadr 14 (.t 3) 3) .unit,
  .p (.storeT (.t 14) 13 1) .unit])
 (.seq (.reg none [.p (.fadr 15 (.t 1) 4) .unit,
  .p (.load 16 (.t 15) 1 false) .unit,
  .p (.callB 17 n_laws_toIntS [((.t 16), 0)]) .unit,
  .p (.fadr 18 (.t 3) 4) .unit,
  .p (.storeT (.t 18) 17 1) .unit])
 (.seq (.reg none [.p (.fadr 19 (.t 1) 5) .unit,
  .p (.load 20 (.t 19) 1 false) .unit,
  .p (.callB 21 n_laws_toStringS [((.t 20), 0)]) .unit,
  .p (.fadr 22 (.t 3) 5) .unit,
  .p (.storeT (.t 22) 21 1) .unit])
 (.seq (.reg none [.p (.fadr 23 (.t 1) 6) .unit,
  .p (.load 24 (.t 23) 1 false) .unit,
  .p (.fadr 25 (.t 3) 6) .unit,
  .p (.store (.t 25) (.t 24) 1) .unit])
 (.seq (.reg none [.p (.fadr 26 (.t 1) 7) .unit,
  .p (.load 27 (.t 26) 1 false) .unit,
  .p (.fadr 28 (.t 3) 7) .unit,
  .p (.store (.t 28) (.t 27) 1) .unit])
 (.seq (.reg none [.p (.fadr 29 (.t 1) 8) .unit,
  .p (.load 30 (.t 29) 1 false) .unit,
  .p (.fadr 31 (.t 3) 8) .unit,
  .p (.store (.t 31) (.t 30) 1) .unit])
 (.seq (.reg none [.p (.fadr 32 (.t 1) 9) .unit,
  .p (.load 33 (.t 32) 1 false) .unit,
  .p (.fadr 34 (.t 3) 9) .unit,
  .p (.store (.t 34) (.t 33) 1) .unit])
 (.seq (.reg none [.p (.fadr 35 (.t 1) 10) .unit,
  .p (.load 36 (.t 35) 6 true) .unit,
  .p (.callB 37 n_laws_toToken [((.t 36), 0)]) .unit,
  .p (.fadr 38 (.t 3) 10) .unit,
  .p (.storeT (.t 38) 37 6) .unit])
 (.seq (.reg none [.p (.loadT 39 (.t 3) 16 true) .unit,
  .p (.storeT (.t 2) 39 16) .unit])
 .ret))))))))))))),
 40, 1, [.c 2 16 true]⟩
theorem m_laws_toMate : mH Try.prog 53 [(3, 4, .t), (4, 4, .t), (5, 4, .t), (6, 4, .t), (11, 4, .t), (12, 0, .t), (12, 1, .t)] = some (F_laws_toMate.code.x, F_laws_toMate.N, F_laws_toMate.np, F_laws_toMate.res) := by kernel_rfl
noncomputable def T_laws_toMate : Int × (Int × List (Int)) × List (Int × Int × Int × List UInt8) × List (Int) × List (List UInt8) × Int × Int × Int × Int × Int × Int × Int × Int × Int × List (Int) → Option (Int × (Int × List (Int)) × List (Int × Int × Int × List UInt8) × List (Int) × List (List UInt8) × Int × Int × Int × Int × Int × Int × Int × Int × Int × List (Int)) := evF [fn_laws_toRing, fn_laws_toItemS, fn_laws_toIntS, fn_laws_toStringS, fn_laws_toToken] F_laws_toMate [.agg (.pair (.int .i64) (.pair (.pair (.int .i64) (.sl false (.int .i64))) (.pair (.sl false (.pair (.int .i64) (.pair (.int .i64) (.pair (.int .i64) .str)))) (.pair (.sl false (.int .i64)) (.pair (.sl false .str) (.pair (.int .i64) (.pair (.int .i64) (.pair (.int .i64) (.pair (.int .i64) (.pair (.int .i64) (.pair (.int .i64) (.pair (.int .i64) (.pair (.int .i64) (.pair (.int .i64) (.sl false (.int .i64))))))))))))))))] [] [.agg (.pair (.int .i64) (.pair (.pair (.int .i64) (.sl true (.int .i64))) (.pair (.sl true (.pair (.int .i64) (.pair (.int .i64) (.pair (.int .i64) .str)))) (.pair (.sl true (.int .i64)) (.pair (.sl true .str) (.pair (.int .i64) (.pair (.int .i64) (.pair (.int .i64) (.pair (.int .i64) (.pair (.int .i64) (.pair (.int .i64) (.pair (.int .i64) (.pair (.int .i64) (.pair (.int .i64) (.sl true (.int .i64))))))))))))))))] []
noncomputable def fn_laws_toMate : TFn := ⟨53, [.agg (.pair (.int .i64) (.pair (.pair (.int .i64) (.sl false (.int .i64))) (.pair (.sl false (.pair (.int .i64) (.pair (.int .i64) (.pair (.int .i64) .str)))) (.pair (.sl false (.int .i64)) (.pair (.sl false .str) (.pair (.int .i64) (.pair (.int .i64) (.pair (.int .i64) (.pair (.int .i64) (.pair (.int .i64) (.pair (.int .i64) (.pair (.int .i64) (.pair (.int .i64) (.pair (.int .i64) (.sl false (.int .i64))))))))))))))))], [], [.agg (.pair (.int .i64) (.pair (.pair (.int .i64) (.sl true (.int .i64))) (.pair (.sl true (.pair (.int .i64) (.pair (.int .i64) (.pair (.int .i64) .str)))) (.pair (.sl true (.int .i64)) (.pair (.sl true .str) (.pair (.int .i64) (.pair (.int .i64) (.pair (.int .i64) (.pair (.int .i64) (.pair (.int .i64) (.pair (.int .i64) (.pair (.int .i64) (.pair (.int .i64) (.pair (.int .i64) (.sl true (.int .i64))))))))))))))))], [], T_laws_toMate⟩
theorem ok_laws_toMate : FnOk Try.prog fn_laws_toMate := evF_ok mixed (allOk_cons ok_laws_toRing (allOk_cons ok_laws_toItemS (allOk_cons ok_laws_toIntS (allOk_cons ok_laws_toStringS (allOk_cons ok_laws_toToken allOk_nil))))) m_laws_toMate (by decide)
def F_laws_toBundle : TF := ⟨(.seq (.reg none [.p (.box 1 (.t 0)) .unit,
  .p (.alloc 2 [(.lit (.int .i64 0)), (.lit (.int .i64 0)), (.lit (.int .i64 0)), (.sl true 4 [])]) .unit])
 (.seq (.reg none [.p (.alloc 3 [(.lit (.int .i64 0)), (.lit (.int .i64 0)), (.lit (.int .i64 0)), (.sl true 4 [])]) .unit])
 (.seq (.reg none [.p (.fadr 4 (.t 1) 0) .unit,
  .p (.load 5 (.t 4) 1 false) .unit,
  .p (.fadr 6 (.t 3) 0) .unit,
  .p (.store (.t 6) (.t 5) 1) .unit])
 (.seq (.reg none [.p (.fadr 7 (.t 1) 1) .unit,
  .p (.load 8 (.t 7) 1 false) .unit,
  .p (.fadr 9 (.t 3) 1) .unit,
  .p (.store (.t 9) (.t 8) 1) .unit])
 (.seq (.reg none [.p (.fadr 10 (.t 1) 2) .unit,
  .p (.load 11 (.t 10) 1 false) .unit,
  .p (.fadr 12 (.t 3) 2) .unit,
  .p (.store (.t 12) (.t 11) 1) .unit])
 (.seq (.reg none [.p (.fadr 13 (.t 1) 3) .unit,
  .p (.load 14 (.t 13) 1 false) .unit,
  .p (.callB 15 n_laws_toItemS [((.t 14), 0)]) .unit,
  .p (.fadr 16 (.t 3) 3) .unit,
  .p (.storeT (.t 16) 15 1) .unit])
 (.seq (.reg none [.p (.loadT 17 (.t 3) 4 true) .unit,
  .p (.storeT (.t 2) 17 4) .unit])
 .ret))))))),
 18, 1, [.c 2 4 true]⟩
theorem m_laws_toBundle : mH Try.prog 57 [(5, 4, .t), (6, 0, .t), (6, 1, .t)] = some (F_laws_toBundle.code.x, F_laws_toBundle.N, F_laws_toBundle.np, F_laws_toBundle.res) := by kernel_rfl
noncomputable def T_laws_toBundle : Int × Int × Int × List (Int × Int × Int × List UInt8) → Option (Int × Int × Int × List (Int × Int × Int × List UInt8)) := evF [fn_laws_toItemS] F_laws_toBundle [.agg (.pair (.int .i64) (.pair (.int .i64) (.pair (.int .i64) (.sl false (.pair (.int .i64) (.pair (.int .i64) (.pair (.int .i64) .str)))))))] [] [.agg (.pair (.int .i64) (.pair (.int .i64) (.pair (.int .i64) (.sl true (.pair (.int .i64) (.pair (.int .i64) (.pair (.int .i64) .str)))))))] []
noncomputable def fn_laws_toBundle : TFn := ⟨57, [.agg (.pair (.int .i64) (.pair (.int .i64) (.pair (.int .i64) (.sl false (.pair (.int .i64) (.pair (.int .i64) (.pair (.int .i64) .str)))))))], [], [.agg (.pair (.int .i64) (.pair (.int .i64) (.pair (.int .i64) (.sl true (.pair (.int .i64) (.pair (.int .i64) (.pair (.int .i64) .str)))))))], [], T_laws_toBundle⟩
theorem ok_laws_toBundle : FnOk Try.prog fn_laws_toBundle := evF_ok mixed (allOk_cons ok_laws_toItemS allOk_nil) m_laws_toBundle (by decide)
def B_laws_toBundleS_1 : TC := (.seq (.seq (.reg none [.p (.mv 8 (.t 4)) .unit,
  .p (.mv 9 (.t 0)) .unit,
  .p (.lenB 10 (.t 9)) .unit,
  .p (.bin 11 false .lss (.t 8) (.t 10)) .unit])
 (.cond (.t 11) .skip (.exit 0)))
 (.seq (.block 1 (.reg none [.p (.mvA 14 3) .unit,
  .p (.mv 15 (.t 4)) .unit,
  .p (.mv 16 (.t 0)) .unit,
  .p (.mv 17 (.t 4)) .unit,
  .p (.iadr 18 4 (.t 16) (.t 17)) .unit,
  .p (.load 19 (.t 18) 4 true) .unit,
  .p (.callB 20 n_laws_toBundle [((.t 19), 0)]) .unit,
  .p (.iadr 21 4 (.t 14) (.t 15)) .unit,
  .p (.storeT (.t 21) 20 4) .unit]))
 (.reg none [.p (.mv 12 (.t 4)) .unit,
  .p (.bin 13 false .add (.t 12) (.c (.int .i64 1))) .unit,
  .p (.mv 4 (.t 13)) .unit])))
noncomputable def L_laws_toBundleS_1 : Nat → (List (Int × Int × Int × List (Int × Int × Int × List UInt8))) × (List (Int × Int × Int × List (Int × Int × Int × List UInt8))) × Int → Option ((List (Int × Int × Int × List (Int × Int × Int × List UInt8))) ⊕ (List (Int × Int × Int × List (Int × Int × Int × List UInt8)))) := evL [fn_laws_toBundle] (finT [.t 2] [] [.cell (.sl true (.pair (.int .i64) (.pair (.int .i64) (.pair (.int .i64) (.sl true (.pair (.int .i64) (.pair (.int .i64) (.pair (.int .i64) .str))))))))]) 0 ⟨[(0, true), (3, false), (4, false)], [.cell (.sl false (.pair (.int .i64) (.pair (.int .i64) (.pair (.int .i64) (.sl false (.pair (.int .i64) (.pair (.int .i64) (.pair (.int .i64) .str)))))))), .cell (.sl true (.pair (.int .i64) (.pair (.int .i64) (.pair (.int .i64) (.sl true (.pair (.int .i64) (.pair (.int .i64) (.pair (.int .i64) .str)))))))), .cell (.int .i64)]⟩ ⟨[(3, false)], [.cell (.sl true (.pair (.int .i64) (.pair (.int .i64) (.pair (.int .i64) (.sl true (.pair (.int .i64) (.pair (.int .i64) (.pair (.int .i64) .str))))))))]⟩ B_laws_toBundleS_1
def F_laws_toBundleS : TF := ⟨(.seq (.reg none [.p (.mvN 2 4) .unit])
 (.seq (.reg none [.p (.mv 5 (.t 0)) .unit,
  .p (.lenB 6 (.t 5)) .unit,
  .p (.mkS 7 48 [(.lit (.int .i64 0)), (.lit (.int .i64 0)), (.lit (.int .i64 0)), (.sl true 4 [])] (.t 6) (.t 6)) (.pair (.int .i64) (.pair (.int .i64) (.pair (.int .i64) (.sl true (.pair (.int .i64) (.pair (.int .i64) (.pair (.int .i64) .str))))))),
  .p (.mvT 3 7) .unit])
 (.seq (.seq (.reg none [.p (.mv 4 (.c (.int .i64 0))) .unit])
 (.jl 0 ⟨[(0, true), (3, false), (4, false)], [.cell (.sl false (.pair (.int .i64) (.pair (.int .i64) (.pair (.int .i64) (.sl false (.pair (.int .i64) (.pair (.int .i64) (.pair (.int .i64) .str)))))))), .cell (.sl true (.pair (.int .i64) (.pair (.int .i64) (.pair (.int .i64) (.sl true (.pair (.int .i64) (.pair (.int .i64) (.pair (.int .i64) .str)))))))), .cell (.int .i64)]⟩ ⟨[(3, false)], [.cell (.sl true (.pair (.int .i64) (.pair (.int .i64) (.pair (.int .i64) (.sl true (.pair (.int .i64) (.pair (.int .i64) (.pair (.int .i64) .str))))))))]⟩ B_laws_toBundleS_1))
 (.seq (.reg none [.p (.mvT 22 3) .unit,
  .p (.mvT 2 22) .unit])
 .ret)))),
 23, 1, [.t 2]⟩
theorem m_laws_toBundleS : mH Try.prog 54 [(1, 3, .t), (5, 0, .v), (5, 8, .t), (6, 0, .t), (6, 1, .t)] = some (F_laws_toBundleS.code.x, F_laws_toBundleS.N, F_laws_toBundleS.np, F_laws_toBundleS.res) := by kernel_rfl
noncomputable def T_laws_toBundleS : List (Int × Int × Int × List (Int × Int × Int × List UInt8)) → Option (List (Int × Int × Int × List (Int × Int × Int × List UInt8))) := evF [fn_laws_toBundle] F_laws_toBundleS [.cell (.sl false (.pair (.int .i64) (.pair (.int .i64) (.pair (.int .i64) (.sl false (.pair (.int .i64) (.pair (.int .i64) (.pair (.int .i64) .str))))))))] [] [.cell (.sl true (.pair (.int .i64) (.pair (.int .i64) (.pair (.int .i64) (.sl true (.pair (.int .i64) (.pair (.int .i64) (.pair (.int .i64) .str))))))))] []
noncomputable def fn_laws_toBundleS : TFn := ⟨54, [.cell (.sl false (.pair (.int .i64) (.pair (.int .i64) (.pair (.int .i64) (.sl false (.pair (.int .i64) (.pair (.int .i64) (.pair (.int .i64) .str))))))))], [], [.cell (.sl true (.pair (.int .i64) (.pair (.int .i64) (.pair (.int .i64) (.sl true (.pair (.int .i64) (.pair (.int .i64) (.pair (.int .i64) .str))))))))], [], T_laws_toBundleS⟩
theorem ok_laws_toBundleS : FnOk Try.prog fn_laws_toBundleS := evF_ok mixed (allOk_cons ok_laws_toBundle allOk_nil) m_laws_toBundleS (by decide)
def F_laws_toEvent : TF := ⟨(.seq (.reg none [.p (.box 1 (.t 0)) .unit,
  .p (.alloc 2 [(.lit (.int .i64 0)), (.lit (.int .i64 0)), (.sl true 1 []), (.lit (.int .i64 0)), (.lit (.int .i64 0)), (.lit (.int .i64 0)), (.lit (.string (ba []))), (.sl true 1 [])]) .unit])
 (.seq (.reg none [.p (.alloc 3 [(.lit (.int .i64 0)), (.lit (.int .i64 0)), (.sl true 1 []), (.lit (.int .i64 0)), (.lit (.int .i64 0)), (.lit (.int .i64 0)), (.lit (.string (ba []))), (.sl true 1 [])]) .unit])
 (.seq (.reg none [.p (.fadr 4 (.t 1) 0) .unit,
  .p (.load 5 (.t 4) 1 false) .unit,
  .p (.fadr 6 (.t 3) 0) .unit,
  .p (.store (.t 6) (.t 5) 1) .unit])
 (.seq (.reg none [.p (.fadr 7 (.t 1) 1) .unit,
  .p (.load 8 (.t 7) 2 true) .unit,
  .p (.callB 9 n_laws_toRing [((.t 8), 0)]) .unit,
  .p (.fadr 10 (.t 3) 1) .unit,
  .p (.storeT (.t 10) 9 2) .unit])
 (.seq (.reg none [.p (.fadr 11 (.t 1) 3) .unit,
  .p (.load 12 (.t 11) 4 true) .unit,
  .p (.callB 13 n_laws_toItem [((.t 12), 0)]) .unit,
  .p (.fadr 14 (.t 3) 3) .unit,
  .p (.store (.t 14) (.t 13) 4) .unit])
 (.seq (.reg none [.p (.fadr 15 (.t 1) 7) .unit,
  .p (.load 16 (.t 15) 1 false) .unit,
  .p (.callB 17 n_laws_toIntS [((.t 16), 0)]) .unit,
  .p (.fadr 18 (.t 3) 7) .unit,
  .p (.storeT (.t 18) 17 1) .unit])
 (.seq (.reg none [.p (.loadT 19 (.t 3) 8 true) .unit,
  .p (.storeT (.t 2) 19 8) .unit])
 .ret))))))),
 20, 1, [.c 2 8 true]⟩
theorem m_laws_toEvent : mH Try.prog 37 [(3, 4, .t), (5, 4, .t), (6, 0, .t), (6, 1, .t)] = some (F_laws_toEvent.code.x, F_laws_toEvent.N, F_laws_toEvent.np, F_laws_toEvent.res) := by kernel_rfl
noncomputable def T_laws_toEvent : Int × (Int × List (Int)) × (Int × Int × Int × List UInt8) × List (Int) → Option (Int × (Int × List (Int)) × (Int × Int × Int × List UInt8) × List (Int)) := evF [fn_laws_toRing, fn_laws_toItem, fn_laws_toIntS] F_laws_toEvent [.agg (.pair (.int .i64) (.pair (.pair (.int .i64) (.sl false (.int .i64))) (.pair (.pair (.int .i64) (.pair (.int .i64) (.pair (.int .i64) .str))) (.sl false (.int .i64)))))] [] [.agg (.pair (.int .i64) (.pair (.pair (.int .i64) (.sl true (.int .i64))) (.pair (.pair (.int .i64) (.pair (.int .i64) (.pair (.int .i64) .str))) (.sl true (.int .i64)))))] []
noncomputable def fn_laws_toEvent : TFn := ⟨37, [.agg (.pair (.int .i64) (.pair (.pair (.int .i64) (.sl false (.int .i64))) (.pair (.pair (.int .i64) (.pair (.int .i64) (.pair (.int .i64) .str))) (.sl false (.int .i64)))))], [], [.agg (.pair (.int .i64) (.pair (.pair (.int .i64) (.sl true (.int .i64))) (.pair (.pair (.int .i64) (.pair (.int .i64) (.pair (.int .i64) .str))) (.sl true (.int .i64)))))], [], T_laws_toEvent⟩
theorem ok_laws_toEvent : FnOk Try.prog fn_laws_toEvent := evF_ok mixed (allOk_cons ok_laws_toRing (allOk_cons ok_laws_toItem (allOk_cons ok_laws_toIntS allOk_nil))) m_laws_toEvent (by decide)
def B_laws_toEventS_1 : TC := (.seq (.seq (.reg none [.p (.mv 8 (.t 4)) .unit,
  .p (.mv 9 (.t 0)) .unit,
  .p (.lenB 10 (.t 9)) .unit,
  .p (.bin 11 false .lss (.t 8) (.t 10)) .unit])
 (.cond (.t 11) .skip (.exit 0)))
 (.seq (.block 1 (.reg none [.p (.mvA 14 3) .unit,
  .p (.mv 15 (.t 4)) .unit,
  .p (.mv 16 (.t 0)) .unit,
  .p (.mv 17 (.t 4)) .unit,
  .p (.iadr 18 8 (.t 16) (.t 17)) .unit,
  .p (.load 19 (.t 18) 8 true) .unit,
  .p (.callB 20 n_laws_toEvent [((.t 19), 0)]) .unit,
  .p (.iadr 21 8 (.t 14) (.t 15)) .unit,
  .p (.storeT (.t 21) 20 8) .unit]))
 (.reg none [.p (.mv 12 (.t 4)) .unit,
  .p (.bin 13 false .add (.t 12) (.c (.int .i64 1))) .unit,
  .p (.mv 4 (.t 13)) .unit])))
noncomputable def L_laws_toEventS_1 : Nat → (List (Int × (Int × List (Int)) × (Int × Int × Int × List UInt8) × List (Int))) × (List (Int × (Int × List (Int)) × (Int × Int × Int × List UInt8) × List (Int))) × Int → Option ((List (Int × (Int × List (Int)) × (Int × Int × Int × List UInt8) × List (Int))) ⊕ (List (Int × (Int × List (Int)) × (Int × Int × Int × List UInt8) × List (Int)))) := evL [fn_laws_toEvent] (finT [.t 2] [] [.cell (.sl true (.pair (.int .i64) (.pair (.pair (.int .i64) (.sl true (.int .i64))) (.pair (.pair (.int .i64) (.pair (.int .i64) (.pair (.int .i64) .str))) (.sl true (.int .i64))))))]) 0 ⟨[(0, true), (3, false), (4, false)], [.cell (.sl false (.pair (.int .i64) (.pair (.pair (.int .i64) (.sl false (.int .i64))) (.pair (.pair (.int .i64) (.pair (.int .i64) (.pair (.int .i64) .str))) (.sl false (.int .i64)))))), .cell (.sl true (.pair (.int .i64) (.pair (.pair (.int .i64) (.sl true (.int .i64))) (.pair (.pair (.int .i64) (.pair (.int .i64) (.pair (.int .i64) .str))) (.sl true (.int .i64)))))), .cell (.int .i64)]⟩ ⟨[(3, false)], [.cell (.sl true (.pair (.int .i64) (.pair (.pair (.int .i64) (.sl true (.int .i64))) (.pair (.pair (.int .i64) (.pair (.int .i64) (.pair (.int .i64) .str))) (.sl true (.int .i64))))))]⟩ B_laws_toEventS_1
def F_laws_toEventS : TF := ⟨(.seq (.reg none [.p (.mvN 2 8) .unit])
 (.seq (.reg none [.p (.mv 5 (.t 0)) .unit,
  .p (.lenB 6 (.t 5)) .unit,
  .p (.mkS 7 104 [(.lit (.int .i64 0)), (.lit (.int .i64 0)), (.sl true 1 []), (.lit (.int .i64 0)), (.lit (.int .i64 0)), (.lit (.int .i64 0)), (.lit (.string (ba []))), (.sl true 1 [])] (.t 6) (.t 6)) (.pair (.int .i64) (.pair (.pair (.int .i64) (.sl true (.int .i64))) (.pair (.pair (.int .i64) (.pair (.int .i64) (.pair (.int .i64) .str))) (.sl true (.int .i64))))),
  .p (.mvT 3 7) .unit])
 (.seq (.seq (.reg none [.p (.mv 4 (.c (.int .i64 0))) .unit])
 (.jl 0 ⟨[(0, true), (3, false), (4, false)], [.cell (.sl false (.pair (.int .i64) (.pair (.pair (.int .i64) (.sl false (.int .i64))) (.pair (.pair (.int .i64) (.pair (.int .i64) (.pair (.int .i64) .str))) (.sl false (.int .i64)))))), .cell (.sl true (.pair (.int .i64) (.pair (.pair (.int .i64) (.sl true (.int .i64))) (.pair (.pair (.int .i64) (.pair (.int .i64) (.pair (.int .i64) .str))) (.sl true (.int .i64)))))), .cell (.int .i64)]⟩ ⟨[(3, false)], [.cell (.sl true (.pair (.int .i64) (.pair (.pair (.int .i64) (.sl true (.int .i64))) (.pair (.pair (.int .i64) (.pair (.int .i64) (.pair (.int .i64) .str))) (.sl true (.int .i64))))))]⟩ B_laws_toEventS_1))
 (.seq (.reg none [.p (.mvT 22 3) .unit,
  .p (.mvT 2 22) .unit])
 .ret)))),
 23, 1, [.t 2]⟩
theorem m_laws_toEventS : mH Try.prog 20 [(1, 3, .t), (5, 0, .v), (5, 8, .t), (6, 0, .t), (6, 1, .t)] = some (F_laws_toEventS.code.x, F_laws_toEventS.N, F_laws_toEventS.np, F_laws_toEventS.res) := by kernel_rfl
noncomputable def T_laws_toEventS : List (Int × (Int × List (Int)) × (Int × Int × Int × List UInt8) × List (Int)) → Option (List (Int × (Int × List (Int)) × (Int × Int × Int × List UInt8) × List (Int))) := evF [fn_laws_toEvent] F_laws_toEventS [.cell (.sl false (.pair (.int .i64) (.pair (.pair (.int .i64) (.sl false (.int .i64))) (.pair (.pair (.int .i64) (.pair (.int .i64) (.pair (.int .i64) .str))) (.sl false (.int .i64))))))] [] [.cell (.sl true (.pair (.int .i64) (.pair (.pair (.int .i64) (.sl true (.int .i64))) (.pair (.pair (.int .i64) (.pair (.int .i64) (.pair (.int .i64) .str))) (.sl true (.int .i64))))))] []
noncomputable def fn_laws_toEventS : TFn := ⟨20, [.cell (.sl false (.pair (.int .i64) (.pair (.pair (.int .i64) (.sl false (.int .i64))) (.pair (.pair (.int .i64) (.pair (.int .i64) (.pair (.int .i64) .str))) (.sl false (.int .i64))))))], [], [.cell (.sl true (.pair (.int .i64) (.pair (.pair (.int .i64) (.sl true (.int .i64))) (.pair (.pair (.int .i64) (.pair (.int .i64) (.pair (.int .i64) .str))) (.sl true (.int .i64))))))], [], T_laws_toEventS⟩
theorem ok_laws_toEventS : FnOk Try.prog fn_laws_toEventS := evF_ok mixed (allOk_cons ok_laws_toEvent allOk_nil) m_laws_toEventS (by decide)
def F_laws_toDaemon : TF := ⟨(.seq (.reg none [.p (.box 1 (.t 0)) .unit,
  .p (.alloc 2 [(.lit (.int .i64 0)), (.lit (.bool false)), (.lit (.int .i64 0)), (.lit (.int .i64 0)), (.sl true 1 []), (.sl true 4 []), (.sl true 1 []), (.sl true 1 []), (.lit (.int .i64 0)), (.lit (.int .i64 0)), (.lit (.int .i64 0)), (.lit (.int .i64 0)), (.lit (.int .i64 0)), (.lit (.int .i64 0)), (.lit (.int .i64 0)), (.lit (.int .i64 0)), (.lit (.int .i64 0)), (.sl true 1 []), (.lit (.int .i64 0)), (.lit (.int .i64 0)), (.lit (.int .i64 0)), (.sl true 1 []), (.sl true 4 []), (.sl true 8 [])]) .unit])
 (.seq (.reg none [.p (.alloc 3 [(.lit (.int .i64 0)), (.lit (.bool false)), (.lit (.int .i64 0)), (.lit (.int .i64 0)), (.sl true 1 []), (.sl true 4 []), (.sl true 1 []), (.sl true 1 []), (.lit (.int .i64 0)), (.lit (.int .i64 0)), (.lit (.int .i64 0)), (.lit (.int .i64 0)), (.lit (.int .i64 0)), (.lit (.int .i64 0)), (.lit (.int .i64 0)), (.lit (.int .i64 0)), (.lit (.int .i64 0)), (.sl true 1 []), (.lit (.int .i64 0)), (.lit (.int .i64 0)), (.lit (.int .i64 0)), (.sl true 1 []), (.sl true 4 []), (.sl true 8 [])]) .unit])
 (.seq (.reg none [.p (.fadr 4 (.t 1) 0) .unit,
  .p (.load 5 (.t 4) 1 false) .unit,
  .p (.fadr 6 (.t 3) 0) .unit,
  .p (.store (.t 6) (.t 5) 1) .unit])
 (.seq (.reg none [.p (.fadr 7 (.t 1) 1) .unit,
  .p (.load 8 (.t 7) 1 false) .unit,
  .p (.fadr 9 (.t 3) 1) .unit,
  .p (.store (.t 9) (.t 8) 1) .unit])
 (.seq (.reg none [.p (.fadr 10 (.t 1) 2) .unit,
  .p (.load 11 (.t 10) 16 true) .unit,
  .p (.callB 12 n_laws_toMate [((.t 11), 0)]) .unit,
  .p (.fadr 13 (.t 3) 2) .unit,
  .p (.storeT (.t 13) 12 16) .unit])
 (.seq (.reg none [.p (.fadr 14 (.t 1) 18) .unit,
  .p (.load 15 (.t 14) 1 false) .unit,
  .p (.fadr 16 (.t 3) 18) .unit,
  .p (.store (.t 16) (.t 15) 1) .unit])
 (.seq (.reg none [.p (.fadr 17 (.t 1) 19) .unit,
  .p (.load 18 (.t 17) 1 false) .unit,
  .p (.fadr 19 (.t 3) 19) .unit,
  .p (.store (.t 19) (.t 18) 1) .unit])
 (.seq (.reg none [.p (.fadr 20 (.t 1) 20) .unit,
  .p (.load 21 (.t 20) 2 true) .unit,
  .p (.callB 22 n_laws_toRing [((.t 21), 0)]) .unit,
  .p (.fadr 23 (.t 3) 20) .unit,
  .p (.storeT (.t 23) 22 2) .unit])
 (.seq (.reg none [.p (.fadr 24 (.t 1) 22) .unit,
  .p (.load 25 (.t 24) 1 false) .unit,
  .p (.callB 26 n_laws_toBundleS [((.t 25), 0)]) .unit,
  .p (.fadr 27 (.t 3) 22) .unit,
  .p (.storeT (.t 27) 26 1) .unit])
 (.seq (.reg none [.p (.fadr 28 (.t 1) 23) .unit,
  .p (.load 29 (.t 28) 1 false) .unit,
  .p (.callB 30 n_laws_toEventS [((.t 29), 0)]) .unit,
  .p (.fadr 31 (.t 3) 23) .unit,
  .p (.storeT (.t 31) 30 1) .unit])
 (.seq (.reg none [.p (.loadT 32 (.t 3) 24 true) .unit,
  .p (.storeT (.t 2) 32 24) .unit])
 .ret))))))))))),
 33, 1, [.c 2 24 true]⟩
theorem m_laws_toDaemon : mH Try.prog 35 [(4, 4, .t), (7, 4, .t), (8, 4, .t), (9, 4, .t), (10, 0, .t), (10, 1, .t)] = some (F_laws_toDaemon.code.x, F_laws_toDaemon.N, F_laws_toDaemon.np, F_laws_toDaemon.res) := by kernel_rfl
noncomputable def T_laws_toDaemon : Int × Bool × (Int × (Int × List (Int)) × List (Int × Int × Int × List UInt8) × List (Int) × List (List UInt8) × Int × Int × Int × Int × Int × Int × Int × Int × Int × List (Int)) × Int × Int × (Int × List (Int)) × List (Int × Int × Int × List (Int × Int × Int × List UInt8)) × List (Int × (Int × List (Int)) × (Int × Int × Int × List UInt8) × List (Int)) → Option (Int × Bool × (Int × (Int × List (Int)) × List (Int × Int × Int × List UInt8) × List (Int) × List (List UInt8) × Int × Int × Int × Int × Int × Int × Int × Int × Int × List (Int)) × Int × Int × (Int × List (Int)) × List (Int × Int × Int × List (Int × Int × Int × List UInt8)) × List (Int × (Int × List (Int)) × (Int × Int × Int × List UInt8) × List (Int))) := evF [fn_laws_toMate, fn_laws_toRing, fn_laws_toBundleS, fn_laws_toEventS] F_laws_toDaemon [.agg (.pair (.int .i64) (.pair .bool (.pair (.pair (.int .i64) (.pair (.pair (.int .i64) (.sl false (.int .i64))) (.pair (.sl false (.pair (.int .i64) (.pair (.int .i64) (.pair (.int .i64) .str)))) (.pair (.sl false (.int .i64)) (.pair (.sl false .str) (.pair (.int .i64) (.pair (.int .i64) (.pair (.int .i64) (.pair (.int .i64) (.pair (.int .i64) (.pair (.int .i64) (.pair (.int .i64) (.pair (.int .i64) (.pair (.int .i64) (.sl false (.int .i64)))))))))))))))) (.pair (.int .i64) (.pair (.int .i64) (.pair (.pair (.int .i64) (.sl false (.int .i64))) (.pair (.sl false (.pair (.int .i64) (.pair (.int .i64) (.pair (.int .i64) (.sl false (.pair (.int .i64) (.pair (.int .i64) (.pair (.int .i64) .str)))))))) (.sl false (.pair (.int .i64) (.pair (.pair (.int .i64) (.sl false (.int .i64))) (.pair (.pair (.int .i64) (.pair (.int .i64) (.pair (.int .i64) .str))) (.sl false (.int .i64)))))))))))))] [] [.agg (.pair (.int .i64) (.pair .bool (.pair (.pair (.int .i64) (.pair (.pair (.int .i64) (.sl true (.int .i64))) (.pair (.sl true (.pair (.int .i64) (.pair (.int .i64) (.pair (.int .i64) .str)))) (.pair (.sl true (.int .i64)) (.pair (.sl true .str) (.pair (.int .i64) (.pair (.int .i64) (.pair (.int .i64) (.pair (.int .i64) (.pair (.int .i64) (.pair (.int .i64) (.pair (.int .i64) (.pair (.int .i64) (.pair (.int .i64) (.sl true (.int .i64)))))))))))))))) (.pair (.int .i64) (.pair (.int .i64) (.pair (.pair (.int .i64) (.sl true (.int .i64))) (.pair (.sl true (.pair (.int .i64) (.pair (.int .i64) (.pair (.int .i64) (.sl true (.pair (.int .i64) (.pair (.int .i64) (.pair (.int .i64) .str)))))))) (.sl true (.pair (.int .i64) (.pair (.pair (.int .i64) (.sl true (.int .i64))) (.pair (.pair (.int .i64) (.pair (.int .i64) (.pair (.int .i64) .str))) (.sl true (.int .i64)))))))))))))] []
noncomputable def fn_laws_toDaemon : TFn := ⟨35, [.agg (.pair (.int .i64) (.pair .bool (.pair (.pair (.int .i64) (.pair (.pair (.int .i64) (.sl false (.int .i64))) (.pair (.sl false (.pair (.int .i64) (.pair (.int .i64) (.pair (.int .i64) .str)))) (.pair (.sl false (.int .i64)) (.pair (.sl false .str) (.pair (.int .i64) (.pair (.int .i64) (.pair (.int .i64) (.pair (.int .i64) (.pair (.int .i64) (.pair (.int .i64) (.pair (.int .i64) (.pair (.int .i64) (.pair (.int .i64) (.sl false (.int .i64)))))))))))))))) (.pair (.int .i64) (.pair (.int .i64) (.pair (.pair (.int .i64) (.sl false (.int .i64))) (.pair (.sl false (.pair (.int .i64) (.pair (.int .i64) (.pair (.int .i64) (.sl false (.pair (.int .i64) (.pair (.int .i64) (.pair (.int .i64) .str)))))))) (.sl false (.pair (.int .i64) (.pair (.pair (.int .i64) (.sl false (.int .i64))) (.pair (.pair (.int .i64) (.pair (.int .i64) (.pair (.int .i64) .str))) (.sl false (.int .i64)))))))))))))], [], [.agg (.pair (.int .i64) (.pair .bool (.pair (.pair (.int .i64) (.pair (.pair (.int .i64) (.sl true (.int .i64))) (.pair (.sl true (.pair (.int .i64) (.pair (.int .i64) (.pair (.int .i64) .str)))) (.pair (.sl true (.int .i64)) (.pair (.sl true .str) (.pair (.int .i64) (.pair (.int .i64) (.pair (.int .i64) (.pair (.int .i64) (.pair (.int .i64) (.pair (.int .i64) (.pair (.int .i64) (.pair (.int .i64) (.pair (.int .i64) (.sl true (.int .i64)))))))))))))))) (.pair (.int .i64) (.pair (.int .i64) (.pair (.pair (.int .i64) (.sl true (.int .i64))) (.pair (.sl true (.pair (.int .i64) (.pair (.int .i64) (.pair (.int .i64) (.sl true (.pair (.int .i64) (.pair (.int .i64) (.pair (.int .i64) .str)))))))) (.sl true (.pair (.int .i64) (.pair (.pair (.int .i64) (.sl true (.int .i64))) (.pair (.pair (.int .i64) (.pair (.int .i64) (.pair (.int .i64) .str))) (.sl true (.int .i64)))))))))))))], [], T_laws_toDaemon⟩
theorem ok_laws_toDaemon : FnOk Try.prog fn_laws_toDaemon := evF_ok mixed (allOk_cons ok_laws_toMate (allOk_cons ok_laws_toRing (allOk_cons ok_laws_toBundleS (allOk_cons ok_laws_toEventS allOk_nil)))) m_laws_toDaemon (by decide)
def B_laws_toDaemonS_1 : TC := (.seq (.seq (.reg none [.p (.mv 8 (.t 4)) .unit,
  .p (.mv 9 (.t 0)) .unit,
  .p (.lenB 10 (.t 9)) .unit,
  .p (.bin 11 false .lss (.t 8) (.t 10)) .unit])
 (.cond (.t 11) .skip (.exit 0)))
 (.seq (.block 1 (.reg none [.p (.mvA 14 3) .unit,
  .p (.mv 15 (.t 4)) .unit,
  .p (.mv 16 (.t 0)) .unit,
  .p (.mv 17 (.t 4)) .unit,
  .p (.iadr 18 24 (.t 16) (.t 17)) .unit,
  .p (.load 19 (.t 18) 24 true) .unit,
  .p (.callB 20 n_laws_toDaemon [((.t 19), 0)]) .unit,
  .p (.iadr 21 24 (.t 14) (.t 15)) .unit,
  .p (.storeT (.t 21) 20 24) .unit]))
 (.reg none [.p (.mv 12 (.t 4)) .unit,
  .p (.bin 13 false .add (.t 12) (.c (.int .i64 1))) .unit,
  .p (.mv 4 (.t 13)) .unit])))
noncomputable def L_laws_toDaemonS_1 : Nat → (List (Int × Bool × (Int × (Int × List (Int)) × List (Int × Int × Int × List UInt8) × List (Int) × List (List UInt8) × Int × Int × Int × Int × Int × Int × Int × Int × Int × List (Int)) × Int × Int × (Int × List (Int)) × List (Int × Int × Int × List (Int × Int × Int × List UInt8)) × List (Int × (Int × List (Int)) × (Int × Int × Int × List UInt8) × List (Int)))) × (List (Int × Bool × (Int × (Int × List (Int)) × List (Int × Int × Int × List UInt8) × List (Int) × List (List UInt8) × Int × Int × Int × Int × Int × Int × Int × Int × Int × List (Int)) × Int × Int × (Int × List (Int)) × List (Int × Int × Int × List (Int × Int × Int × List UInt8)) × List (Int × (Int × List (Int)) × (Int × Int × Int × List UInt8) × List (Int)))) × Int → Option ((List (Int × Bool × (Int × (Int × List (Int)) × List (Int × Int × Int × List UInt8) × List (Int) × List (List UInt8) × Int × Int × Int × Int × Int × Int × Int × Int × Int × List (Int)) × Int × Int × (Int × List (Int)) × List (Int × Int × Int × List (Int × Int × Int × List UInt8)) × List (Int × (Int × List (Int)) × (Int × Int × Int × List UInt8) × List (Int)))) ⊕ (List (Int × Bool × (Int × (Int × List (Int)) × List (Int × Int × Int × List UInt8) × List (Int) × List (List UInt8) × Int × Int × Int × Int × Int × Int × Int × Int × Int × List (Int)) × Int × Int × (Int × List (Int)) × List (Int × Int × Int × List (Int × Int × Int × List UInt8)) × List (Int × (Int × List (Int)) × (Int × Int × Int × List UInt8) × List (Int))))) := evL [fn_laws_toDaemon] (finT [.t 2] [] [.cell (.sl true (.pair (.int .i64) (.pair .bool (.pair (.pair (.int .i64) (.pair (.pair (.int .i64) (.sl true (.int .i64))) (.pair (.sl true (.pair (.int .i64) (.pair (.int .i64) (.pair (.int .i64) .str)))) (.pair (.sl true (.int .i64)) (.pair (.sl true .str) (.pair (.int .i64) (.pair (.int .i64) (.pair (.int .i64) (.pair (.int .i64) (.pair (.int .i64) (.pair (.int .i64) (.pair (.int .i64) (.pair (.int .i64) (.pair (.int .i64) (.sl true (.int .i64)))))))))))))))) (.pair (.int .i64) (.pair (.int .i64) (.pair (.pair (.int .i64) (.sl true (.int .i64))) (.pair (.sl true (.pair (.int .i64) (.pair (.int .i64) (.pair (.int .i64) (.sl true (.pair (.int .i64) (.pair (.int .i64) (.pair (.int .i64) .str)))))))) (.sl true (.pair (.int .i64) (.pair (.pair (.int .i64) (.sl true (.int .i64))) (.pair (.pair (.int .i64) (.pair (.int .i64) (.pair (.int .i64) .str))) (.sl true (.int .i64))))))))))))))]) 0 ⟨[(0, true), (3, false), (4, false)], [.cell (.sl false (.pair (.int .i64) (.pair .bool (.pair (.pair (.int .i64) (.pair (.pair (.int .i64) (.sl false (.int .i64))) (.pair (.sl false (.pair (.int .i64) (.pair (.int .i64) (.pair (.int .i64) .str)))) (.pair (.sl false (.int .i64)) (.pair (.sl false .str) (.pair (.int .i64) (.pair (.int .i64) (.pair (.int .i64) (.pair (.int .i64) (.pair (.int .i64) (.pair (.int .i64) (.pair (.int .i64) (.pair (.int .i64) (.pair (.int .i64) (.sl false (.int .i64)))))))))))))))) (.pair (.int .i64) (.pair (.int .i64) (.pair (.pair (.int .i64) (.sl false (.int .i64))) (.pair (.sl false (.pair (.int .i64) (.pair (.int .i64) (.pair (.int .i64) (.sl false (.pair (.int .i64) (.pair (.int .i64) (.pair (.int .i64) .str)))))))) (.sl false (.pair (.int .i64) (.pair (.pair (.int .i64) (.sl false (.int .i64))) (.pair (.pair (.int .i64) (.pair (.int .i64) (.pair (.int .i64) .str))) (.sl false (.int .i64)))))))))))))), .cell (.sl true (.pair (.int .i64) (.pair .bool (.pair (.pair (.int .i64) (.pair (.pair (.int .i64) (.sl true (.int .i64))) (.pair (.sl true (.pair (.int .i64) (.pair (.int .i64) (.pair (.int .i64) .str)))) (.pair (.sl true (.int .i64)) (.pair (.sl true .str) (.pair (.int .i64) (.pair (.int .i64) (.pair (.int .i64) (.pair (.int .i64) (.pair (.int .i64) (.pair (.int .i64) (.pair (.int .i64) (.pair (.int .i64) (.pair (.int .i64) (.sl true (.int .i64)))))))))))))))) (.pair (.int .i64) (.pair (.int .i64) (.pair (.pair (.int .i64) (.sl true (.int .i64))) (.pair (.sl true (.pair (.int .i64) (.pair (.int .i64) (.pair (.int .i64) (.sl true (.pair (.int .i64) (.pair (.int .i64) (.pair (.int .i64) .str)))))))) (.sl true (.pair (.int .i64) (.pair (.pair (.int .i64) (.sl true (.int .i64))) (.pair (.pair (.int .i64) (.pair (.int .i64) (.pair (.int .i64) .str))) (.sl true (.int .i64)))))))))))))), .cell (.int .i64)]⟩ ⟨[(3, false)], [.cell (.sl true (.pair (.int .i64) (.pair .bool (.pair (.pair (.int .i64) (.pair (.pair (.int .i64) (.sl true (.int .i64))) (.pair (.sl true (.pair (.int .i64) (.pair (.int .i64) (.pair (.int .i64) .str)))) (.pair (.sl true (.int .i64)) (.pair (.sl true .str) (.pair (.int .i64) (.pair (.int .i64) (.pair (.int .i64) (.pair (.int .i64) (.pair (.int .i64) (.pair (.int .i64) (.pair (.int .i64) (.pair (.int .i64) (.pair (.int .i64) (.sl true (.int .i64)))))))))))))))) (.pair (.int .i64) (.pair (.int .i64) (.pair (.pair (.int .i64) (.sl true (.int .i64))) (.pair (.sl true (.pair (.int .i64) (.pair (.int .i64) (.pair (.int .i64) (.sl true (.pair (.int .i64) (.pair (.int .i64) (.pair (.int .i64) .str)))))))) (.sl true (.pair (.int .i64) (.pair (.pair (.int .i64) (.sl true (.int .i64))) (.pair (.pair (.int .i64) (.pair (.int .i64) (.pair (.int .i64) .str))) (.sl true (.int .i64))))))))))))))]⟩ B_laws_toDaemonS_1
def F_laws_toDaemonS : TF := ⟨(.seq (.reg none [.p (.mvN 2 24) .unit])
 (.seq (.reg none [.p (.mv 5 (.t 0)) .unit,
  .p (.lenB 6 (.t 5)) .unit,
  .p (.mkS 7 320 [(.lit (.int .i64 0)), (.lit (.bool false)), (.lit (.int .i64 0)), (.lit (.int .i64 0)), (.sl true 1 []), (.sl true 4 []), (.sl true 1 []), (.sl true 1 []), (.lit (.int .i64 0)), (.lit (.int .i64 0)), (.lit (.int .i64 0)), (.lit (.int .i64 0)), (.lit (.int .i64 0)), (.lit (.int .i64 0)), (.lit (.int .i64 0)), (.lit (.int .i64 0)), (.lit (.int .i64 0)), (.sl true 1 []), (.lit (.int .i64 0)), (.lit (.int .i64 0)), (.lit (.int .i64 0)), (.sl true 1 []), (.sl true 4 []), (.sl true 8 [])] (.t 6) (.t 6)) (.pair (.int .i64) (.pair .bool (.pair (.pair (.int .i64) (.pair (.pair (.int .i64) (.sl true (.int .i64))) (.pair (.sl true (.pair (.int .i64) (.pair (.int .i64) (.pair (.int .i64) .str)))) (.pair (.sl true (.int .i64)) (.pair (.sl true .str) (.pair (.int .i64) (.pair (.int .i64) (.pair (.int .i64) (.pair (.int .i64) (.pair (.int .i64) (.pair (.int .i64) (.pair (.int .i64) (.pair (.int .i64) (.pair (.int .i64) (.sl true (.int .i64)))))))))))))))) (.pair (.int .i64) (.pair (.int .i64) (.pair (.pair (.int .i64) (.sl true (.int .i64))) (.pair (.sl true (.pair (.int .i64) (.pair (.int .i64) (.pair (.int .i64) (.sl true (.pair (.int .i64) (.pair (.int .i64) (.pair (.int .i64) .str)))))))) (.sl true (.pair (.int .i64) (.pair (.pair (.int .i64) (.sl true (.int .i64))) (.pair (.pair (.int .i64) (.pair (.int .i64) (.pair (.int .i64) .str))) (.sl true (.int .i64))))))))))))),
  .p (.mvT 3 7) .unit])
 (.seq (.seq (.reg none [.p (.mv 4 (.c (.int .i64 0))) .unit])
 (.jl 0 ⟨[(0, true), (3, false), (4, false)], [.cell (.sl false (.pair (.int .i64) (.pair .bool (.pair (.pair (.int .i64) (.pair (.pair (.int .i64) (.sl false (.int .i64))) (.pair (.sl false (.pair (.int .i64) (.pair (.int .i64) (.pair (.int .i64) .str)))) (.pair (.sl false (.int .i64)) (.pair (.sl false .str) (.pair (.int .i64) (.pair (.int .i64) (.pair (.int .i64) (.pair (.int .i64) (.pair (.int .i64) (.pair (.int .i64) (.pair (.int .i64) (.pair (.int .i64) (.pair (.int .i64) (.sl false (.int .i64)))))))))))))))) (.pair (.int .i64) (.pair (.int .i64) (.pair (.pair (.int .i64) (.sl false (.int .i64))) (.pair (.sl false (.pair (.int .i64) (.pair (.int .i64) (.pair (.int .i64) (.sl false (.pair (.int .i64) (.pair (.int .i64) (.pair (.int .i64) .str)))))))) (.sl false (.pair (.int .i64) (.pair (.pair (.int .i64) (.sl false (.int .i64))) (.pair (.pair (.int .i64) (.pair (.int .i64) (.pair (.int .i64) .str))) (.sl false (.int .i64)))))))))))))), .cell (.sl true (.pair (.int .i64) (.pair .bool (.pair (.pair (.int .i64) (.pair (.pair (.int .i64) (.sl true (.int .i64))) (.pair (.sl true (.pair (.int .i64) (.pair (.int .i64) (.pair (.int .i64) .str)))) (.pair (.sl true (.int .i64)) (.pair (.sl true .str) (.pair (.int .i64) (.pair (.int .i64) (.pair (.int .i64) (.pair (.int .i64) (.pair (.int .i64) (.pair (.int .i64) (.pair (.int .i64) (.pair (.int .i64) (.pair (.int .i64) (.sl true (.int .i64)))))))))))))))) (.pair (.int .i64) (.pair (.int .i64) (.pair (.pair (.int .i64) (.sl true (.int .i64))) (.pair (.sl true (.pair (.int .i64) (.pair (.int .i64) (.pair (.int .i64) (.sl true (.pair (.int .i64) (.pair (.int .i64) (.pair (.int .i64) .str)))))))) (.sl true (.pair (.int .i64) (.pair (.pair (.int .i64) (.sl true (.int .i64))) (.pair (.pair (.int .i64) (.pair (.int .i64) (.pair (.int .i64) .str))) (.sl true (.int .i64)))))))))))))), .cell (.int .i64)]⟩ ⟨[(3, false)], [.cell (.sl true (.pair (.int .i64) (.pair .bool (.pair (.pair (.int .i64) (.pair (.pair (.int .i64) (.sl true (.int .i64))) (.pair (.sl true (.pair (.int .i64) (.pair (.int .i64) (.pair (.int .i64) .str)))) (.pair (.sl true (.int .i64)) (.pair (.sl true .str) (.pair (.int .i64) (.pair (.int .i64) (.pair (.int .i64) (.pair (.int .i64) (.pair (.int .i64) (.pair (.int .i64) (.pair (.int .i64) (.pair (.int .i64) (.pair (.int .i64) (.sl true (.int .i64)))))))))))))))) (.pair (.int .i64) (.pair (.int .i64) (.pair (.pair (.int .i64) (.sl true (.int .i64))) (.pair (.sl true (.pair (.int .i64) (.pair (.int .i64) (.pair (.int .i64) (.sl true (.pair (.int .i64) (.pair (.int .i64) (.pair (.int .i64) .str)))))))) (.sl true (.pair (.int .i64) (.pair (.pair (.int .i64) (.sl true (.int .i64))) (.pair (.pair (.int .i64) (.pair (.int .i64) (.pair (.int .i64) .str))) (.sl true (.int .i64))))))))))))))]⟩ B_laws_toDaemonS_1))
 (.seq (.reg none [.p (.mvT 22 3) .unit,
  .p (.mvT 2 22) .unit])
 .ret)))),
 23, 1, [.t 2]⟩
theorem m_laws_toDaemonS : mH Try.prog 18 [(1, 3, .t), (5, 0, .v), (5, 8, .t), (6, 0, .t), (6, 1, .t)] = some (F_laws_toDaemonS.code.x, F_laws_toDaemonS.N, F_laws_toDaemonS.np, F_laws_toDaemonS.res) := by kernel_rfl
noncomputable def T_laws_toDaemonS : List (Int × Bool × (Int × (Int × List (Int)) × List (Int × Int × Int × List UInt8) × List (Int) × List (List UInt8) × Int × Int × Int × Int × Int × Int × Int × Int × Int × List (Int)) × Int × Int × (Int × List (Int)) × List (Int × Int × Int × List (Int × Int × Int × List UInt8)) × List (Int × (Int × List (Int)) × (Int × Int × Int × List UInt8) × List (Int))) → Option (List (Int × Bool × (Int × (Int × List (Int)) × List (Int × Int × Int × List UInt8) × List (Int) × List (List UInt8) × Int × Int × Int × Int × Int × Int × Int × Int × Int × List (Int)) × Int × Int × (Int × List (Int)) × List (Int × Int × Int × List (Int × Int × Int × List UInt8)) × List (Int × (Int × List (Int)) × (Int × Int × Int × List UInt8) × List (Int)))) := evF [fn_laws_toDaemon] F_laws_toDaemonS [.cell (.sl false (.pair (.int .i64) (.pair .bool (.pair (.pair (.int .i64) (.pair (.pair (.int .i64) (.sl false (.int .i64))) (.pair (.sl false (.pair (.int .i64) (.pair (.int .i64) (.pair (.int .i64) .str)))) (.pair (.sl false (.int .i64)) (.pair (.sl false .str) (.pair (.int .i64) (.pair (.int .i64) (.pair (.int .i64) (.pair (.int .i64) (.pair (.int .i64) (.pair (.int .i64) (.pair (.int .i64) (.pair (.int .i64) (.pair (.int .i64) (.sl false (.int .i64)))))))))))))))) (.pair (.int .i64) (.pair (.int .i64) (.pair (.pair (.int .i64) (.sl false (.int .i64))) (.pair (.sl false (.pair (.int .i64) (.pair (.int .i64) (.pair (.int .i64) (.sl false (.pair (.int .i64) (.pair (.int .i64) (.pair (.int .i64) .str)))))))) (.sl false (.pair (.int .i64) (.pair (.pair (.int .i64) (.sl false (.int .i64))) (.pair (.pair (.int .i64) (.pair (.int .i64) (.pair (.int .i64) .str))) (.sl false (.int .i64))))))))))))))] [] [.cell (.sl true (.pair (.int .i64) (.pair .bool (.pair (.pair (.int .i64) (.pair (.pair (.int .i64) (.sl true (.int .i64))) (.pair (.sl true (.pair (.int .i64) (.pair (.int .i64) (.pair (.int .i64) .str)))) (.pair (.sl true (.int .i64)) (.pair (.sl true .str) (.pair (.int .i64) (.pair (.int .i64) (.pair (.int .i64) (.pair (.int .i64) (.pair (.int .i64) (.pair (.int .i64) (.pair (.int .i64) (.pair (.int .i64) (.pair (.int .i64) (.sl true (.int .i64)))))))))))))))) (.pair (.int .i64) (.pair (.int .i64) (.pair (.pair (.int .i64) (.sl true (.int .i64))) (.pair (.sl true (.pair (.int .i64) (.pair (.int .i64) (.pair (.int .i64) (.sl true (.pair (.int .i64) (.pair (.int .i64) (.pair (.int .i64) .str)))))))) (.sl true (.pair (.int .i64) (.pair (.pair (.int .i64) (.sl true (.int .i64))) (.pair (.pair (.int .i64) (.pair (.int .i64) (.pair (.int .i64) .str))) (.sl true (.int .i64))))))))))))))] []
noncomputable def fn_laws_toDaemonS : TFn := ⟨18, [.cell (.sl false (.pair (.int .i64) (.pair .bool (.pair (.pair (.int .i64) (.pair (.pair (.int .i64) (.sl false (.int .i64))) (.pair (.sl false (.pair (.int .i64) (.pair (.int .i64) (.pair (.int .i64) .str)))) (.pair (.sl false (.int .i64)) (.pair (.sl false .str) (.pair (.int .i64) (.pair (.int .i64) (.pair (.int .i64) (.pair (.int .i64) (.pair (.int .i64) (.pair (.int .i64) (.pair (.int .i64) (.pair (.int .i64) (.pair (.int .i64) (.sl false (.int .i64)))))))))))))))) (.pair (.int .i64) (.pair (.int .i64) (.pair (.pair (.int .i64) (.sl false (.int .i64))) (.pair (.sl false (.pair (.int .i64) (.pair (.int .i64) (.pair (.int .i64) (.sl false (.pair (.int .i64) (.pair (.int .i64) (.pair (.int .i64) .str)))))))) (.sl false (.pair (.int .i64) (.pair (.pair (.int .i64) (.sl false (.int .i64))) (.pair (.pair (.int .i64) (.pair (.int .i64) (.pair (.int .i64) .str))) (.sl false (.int .i64))))))))))))))], [], [.cell (.sl true (.pair (.int .i64) (.pair .bool (.pair (.pair (.int .i64) (.pair (.pair (.int .i64) (.sl true (.int .i64))) (.pair (.sl true (.pair (.int .i64) (.pair (.int .i64) (.pair (.int .i64) .str)))) (.pair (.sl true (.int .i64)) (.pair (.sl true .str) (.pair (.int .i64) (.pair (.int .i64) (.pair (.int .i64) (.pair (.int .i64) (.pair (.int .i64) (.pair (.int .i64) (.pair (.int .i64) (.pair (.int .i64) (.pair (.int .i64) (.sl true (.int .i64)))))))))))))))) (.pair (.int .i64) (.pair (.int .i64) (.pair (.pair (.int .i64) (.sl true (.int .i64))) (.pair (.sl true (.pair (.int .i64) (.pair (.int .i64) (.pair (.int .i64) (.sl true (.pair (.int .i64) (.pair (.int .i64) (.pair (.int .i64) .str)))))))) (.sl true (.pair (.int .i64) (.pair (.pair (.int .i64) (.sl true (.int .i64))) (.pair (.pair (.int .i64) (.pair (.int .i64) (.pair (.int .i64) .str))) (.sl true (.int .i64))))))))))))))], [], T_laws_toDaemonS⟩
theorem ok_laws_toDaemonS : FnOk Try.prog fn_laws_toDaemonS := evF_ok mixed (allOk_cons ok_laws_toDaemon allOk_nil) m_laws_toDaemonS (by decide)
def F_laws_toLetter : TF := ⟨(.seq (.reg none [.p (.box 1 (.t 0)) .unit,
  .p (.alloc 2 [(.lit (.int .i64 0)), (.lit (.int .i64 0)), (.lit (.int .i64 0)), (.lit (.int .i64 0)), (.lit (.int .i64 0)), (.lit (.int .i64 0)), (.lit (.string (ba []))), (.lit (.int .i64 0)), (.lit (.int .i64 0)), (.lit (.int .i64 0)), (.lit (.int .i64 0)), (.lit (.int .i64 0)), (.sl true 1 []), (.lit (.int .i64 0)), (.lit (.int .i64 0)), (.lit (.int .i64 0)), (.sl true 4 [])]) .unit])
 (.seq (.reg none [.p (.alloc 3 [(.lit (.int .i64 0)), (.lit (.int .i64 0)), (.lit (.int .i64 0)), (.lit (.int .i64 0)), (.lit (.int .i64 0)), (.lit (.int .i64 0)), (.lit (.string (ba []))), (.lit (.int .i64 0)), (.lit (.int .i64 0)), (.lit (.int .i64 0)), (.lit (.int .i64 0)), (.lit (.int .i64 0)), (.sl true 1 []), (.lit (.int .i64 0)), (.lit (.int .i64 0)), (.lit (.int .i64 0)), (.sl true 4 [])]) .unit])
 (.seq (.reg none [.p (.fadr 4 (.t 1) 0) .unit,
  .p (.load 5 (.t 4) 1 false) .unit,
  .p (.fadr 6 (.t 3) 0) .unit,
  .p (.store (.t 6) (.t 5) 1) .unit])
 (.seq (.reg none [.p (.fadr 7 (.t 1) 1) .unit,
  .p (.load 8 (.t 7) 1 false) .unit,
  .p (.fadr 9 (.t 3) 1) .unit,
  .p (.store (.t 9) (.t 8) 1) .unit])
 (.seq (.reg none [.p (.fadr 10 (.t 1) 2) .unit,
  .p (.load 11 (.t 10) 1 false) .unit,
  .p (.fadr 12 (.t 3) 2) .unit,
  .p (.store (.t 12) (.t 11) 1) .unit])
 (.seq (.reg none [.p (.fadr 13 (.t 1) 3) .unit,
  .p (.load 14 (.t 13) 4 true) .unit,
  .p (.callB 15 n_laws_toItem [((.t 14), 0)]) .unit,
  .p (.fadr 16 (.t 3) 3) .unit,
  .p (.store (.t 16) (.t 15) 4) .unit])
 (.seq (.reg none [.p (.fadr 17 (.t 1) 7) .unit,
  .p (.load 18 (.t 17) 6 true) .unit,
  .p (.callB 19 n_laws_toToken [((.t 18), 0)]) .unit,
  .p (.fadr 20 (.t 3) 7) .unit,
  .p (.storeT (.t 20) 19 6) .unit])
 (.seq (.reg none [.p (.fadr 21 (.t 1) 13) .unit,
  .p (.load 22 (.t 21) 4 true) .unit,
  .p (.callB 23 n_laws_toBundle [((.t 22), 0)]) .unit,
  .p (.fadr 24 (.t 3) 13) .unit,
  .p (.storeT (.t 24) 23 4) .unit])
 (.seq (.reg none [.p (.loadT 25 (.t 3) 17 true) .unit,
  .p (.storeT (.t 2) 25 17) .unit])
 .ret))))))))),
 26, 1, [.c 2 17 true]⟩
theorem m_laws_toLetter : mH Try.prog 36 [(6, 4, .t), (7, 4, .t), (8, 0, .t), (8, 1, .t)] = some (F_laws_toLetter.code.x, F_laws_toLetter.N, F_laws_toLetter.np, F_laws_toLetter.res) := by kernel_rfl
noncomputable def T_laws_toLetter : Int × Int × Int × (Int × Int × Int × List UInt8) × (Int × Int × Int × Int × Int × List (Int)) × Int × Int × Int × List (Int × Int × Int × List UInt8) → Option (Int × Int × Int × (Int × Int × Int × List UInt8) × (Int × Int × Int × Int × Int × List (Int)) × Int × Int × Int × List (Int × Int × Int × List UInt8)) := evF [fn_laws_toItem, fn_laws_toToken, fn_laws_toBundle] F_laws_toLetter [.agg (.pair (.int .i64) (.pair (.int .i64) (.pair (.int .i64) (.pair (.pair (.int .i64) (.pair (.int .i64) (.pair (.int .i64) .str))) (.pair (.pair (.int .i64) (.pair (.int .i64) (.pair (.int .i64) (.pair (.int .i64) (.pair (.int .i64) (.sl false (.int .i64))))))) (.pair (.int .i64) (.pair (.int .i64) (.pair (.int .i64) (.sl false (.pair (.int .i64) (.pair (.int .i64) (.pair (.int .i64) .str))))))))))))] [] [.agg (.pair (.int .i64) (.pair (.int .i64) (.pair (.int .i64) (.pair (.pair (.int .i64) (.pair (.int .i64) (.pair (.int .i64) .str))) (.pair (.pair (.int .i64) (.pair (.int .i64) (.pair (.int .i64) (.pair (.int .i64) (.pair (.int .i64) (.sl true (.int .i64))))))) (.pair (.int .i64) (.pair (.int .i64) (.pair (.int .i64) (.sl true (.pair (.int .i64) (.pair (.int .i64) (.pair (.int .i64) .str))))))))))))] []
noncomputable def fn_laws_toLetter : TFn := ⟨36, [.agg (.pair (.int .i64) (.pair (.int .i64) (.pair (.int .i64) (.pair (.pair (.int .i64) (.pair (.int .i64) (.pair (.int .i64) .str))) (.pair (.pair (.int .i64) (.pair (.int .i64) (.pair (.int .i64) (.pair (.int .i64) (.pair (.int .i64) (.sl false (.int .i64))))))) (.pair (.int .i64) (.pair (.int .i64) (.pair (.int .i64) (.sl false (.pair (.int .i64) (.pair (.int .i64) (.pair (.int .i64) .str))))))))))))], [], [.agg (.pair (.int .i64) (.pair (.int .i64) (.pair (.int .i64) (.pair (.pair (.int .i64) (.pair (.int .i64) (.pair (.int .i64) .str))) (.pair (.pair (.int .i64) (.pair (.int .i64) (.pair (.int .i64) (.pair (.int .i64) (.pair (.int .i64) (.sl true (.int .i64))))))) (.pair (.int .i64) (.pair (.int .i64) (.pair (.int .i64) (.sl true (.pair (.int .i64) (.pair (.int .i64) (.pair (.int .i64) .str))))))))))))], [], T_laws_toLetter⟩
theorem ok_laws_toLetter : FnOk Try.prog fn_laws_toLetter := evF_ok mixed (allOk_cons ok_laws_toItem (allOk_cons ok_laws_toToken (allOk_cons ok_laws_toBundle allOk_nil))) m_laws_toLetter (by decide)
def B_laws_toLetterS_1 : TC := (.seq (.seq (.reg none [.p (.mv 8 (.t 4)) .unit,
  .p (.mv 9 (.t 0)) .unit,
  .p (.lenB 10 (.t 9)) .unit,
  .p (.bin 11 false .lss (.t 8) (.t 10)) .unit])
 (.cond (.t 11) .skip (.exit 0)))
 (.seq (.block 1 (.reg none [.p (.mvA 14 3) .unit,
  .p (.mv 15 (.t 4)) .unit,
  .p (.mv 16 (.t 0)) .unit,
  .p (.mv 17 (.t 4)) .unit,
  .p (.iadr 18 17 (.t 16) (.t 17)) .unit,
  .p (.load 19 (.t 18) 17 true) .unit,
  .p (.callB 20 n_laws_toLetter [((.t 19), 0)]) .unit,
  .p (.iadr 21 17 (.t 14) (.t 15)) .unit,
  .p (.storeT (.t 21) 20 17) .unit]))
 (.reg none [.p (.mv 12 (.t 4)) .unit,
  .p (.bin 13 false .add (.t 12) (.c (.int .i64 1))) .unit,
  .p (.mv 4 (.t 13)) .unit])))
noncomputable def L_laws_toLetterS_1 : Nat → (List (Int × Int × Int × (Int × Int × Int × List UInt8) × (Int × Int × Int × Int × Int × List (Int)) × Int × Int × Int × List (Int × Int × Int × List UInt8))) × (List (Int × Int × Int × (Int × Int × Int × List UInt8) × (Int × Int × Int × Int × Int × List (Int)) × Int × Int × Int × List (Int × Int × Int × List UInt8))) × Int → Option ((List (Int × Int × Int × (Int × Int × Int × List UInt8) × (Int × Int × Int × Int × Int × List (Int)) × Int × Int × Int × List (Int × Int × Int × List UInt8))) ⊕ (List (Int × Int × Int × (Int × Int × Int × List UInt8) × (Int × Int × Int × Int × Int × List (Int)) × Int × Int × Int × List (Int × Int × Int × List UInt8)))) := evL [fn_laws_toLetter] (finT [.t 2] [] [.cell (.sl true (.pair (.int .i64) (.pair (.int .i64) (.pair (.int .i64) (.pair (.pair (.int .i64) (.pair (.int .i64) (.pair (.int .i64) .str))) (.pair (.pair (.int .i64) (.pair (.int .i64) (.pair (.int .i64) (.pair (.int .i64) (.pair (.int .i64) (.sl true (.int .i64))))))) (.pair (.int .i64) (.pair (.int .i64) (.pair (.int .i64) (.sl true (.pair (.int .i64) (.pair (.int .i64) (.pair (.int .i64) .str)))))))))))))]) 0 ⟨[(0, true), (3, false), (4, false)], [.cell (.sl false (.pair (.int .i64) (.pair (.int .i64) (.pair (.int .i64) (.pair (.pair (.int .i64) (.pair (.int .i64) (.pair (.int .i64) .str))) (.pair (.pair (.int .i64) (.pair (.int .i64) (.pair (.int .i64) (.pair (.int .i64) (.pair (.int .i64) (.sl false (.int .i64))))))) (.pair (.int .i64) (.pair (.int .i64) (.pair (.int .i64) (.sl false (.pair (.int .i64) (.pair (.int .i64) (.pair (.int .i64) .str))))))))))))), .cell (.sl true (.pair (.int .i64) (.pair (.int .i64) (.pair (.int .i64) (.pair (.pair (.int .i64) (.pair (.int .i64) (.pair (.int .i64) .str))) (.pair (.pair (.int .i64) (.pair (.int .i64) (.pair (.int .i64) (.pair (.int .i64) (.pair (.int .i64) (.sl true (.int .i64))))))) (.pair (.int .i64) (.pair (.int .i64) (.pair (.int .i64) (.sl true (.pair (.int .i64) (.pair (.int .i64) (.pair (.int .i64) .str))))))))))))), .cell (.int .i64)]⟩ ⟨[(3, false)], [.cell (.sl true (.pair (.int .i64) (.pair (.int .i64) (.pair (.int .i64) (.pair (.pair (.int .i64) (.pair (.int .i64) (.pair (.int .i64) .str))) (.pair (.pair (.int .i64) (.pair (.int .i64) (.pair (.int .i64) (.pair (.int .i64) (.pair (.int .i64) (.sl true (.int .i64))))))) (.pair (.int .i64) (.pair (.int .i64) (.pair (.int .i64) (.sl true (.pair (.int .i64) (.pair (.int .i64) (.pair (.int .i64) .str)))))))))))))]⟩ B_laws_toLetterS_1
def F_laws_toLetterS : TF := ⟨(.seq (.reg none [.p (.mvN 2 17) .unit])
 (.seq (.reg none [.p (.mv 5 (.t 0)) .unit,
  .p (.lenB 6 (.t 5)) .unit,
  .p (.mkS 7 176 [(.lit (.int .i64 0)), (.lit (.int .i64 0)), (.lit (.int .i64 0)), (.lit (.int .i64 0)), (.lit (.int .i64 0)), (.lit (.int .i64 0)), (.lit (.string (ba []))), (.lit (.int .i64 0)), (.lit (.int .i64 0)), (.lit (.int .i64 0)), (.lit (.int .i64 0)), (.lit (.int .i64 0)), (.sl true 1 []), (.lit (.int .i64 0)), (.lit (.int .i64 0)), (.lit (.int .i64 0)), (.sl true 4 [])] (.t 6) (.t 6)) (.pair (.int .i64) (.pair (.int .i64) (.pair (.int .i64) (.pair (.pair (.int .i64) (.pair (.int .i64) (.pair (.int .i64) .str))) (.pair (.pair (.int .i64) (.pair (.int .i64) (.pair (.int .i64) (.pair (.int .i64) (.pair (.int .i64) (.sl true (.int .i64))))))) (.pair (.int .i64) (.pair (.int .i64) (.pair (.int .i64) (.sl true (.pair (.int .i64) (.pair (.int .i64) (.pair (.int .i64) .str)))))))))))),
  .p (.mvT 3 7) .unit])
 (.seq (.seq (.reg none [.p (.mv 4 (.c (.int .i64 0))) .unit])
 (.jl 0 ⟨[(0, true), (3, false), (4, false)], [.cell (.sl false (.pair (.int .i64) (.pair (.int .i64) (.pair (.int .i64) (.pair (.pair (.int .i64) (.pair (.int .i64) (.pair (.int .i64) .str))) (.pair (.pair (.int .i64) (.pair (.int .i64) (.pair (.int .i64) (.pair (.int .i64) (.pair (.int .i64) (.sl false (.int .i64))))))) (.pair (.int .i64) (.pair (.int .i64) (.pair (.int .i64) (.sl false (.pair (.int .i64) (.pair (.int .i64) (.pair (.int .i64) .str))))))))))))), .cell (.sl true (.pair (.int .i64) (.pair (.int .i64) (.pair (.int .i64) (.pair (.pair (.int .i64) (.pair (.int .i64) (.pair (.int .i64) .str))) (.pair (.pair (.int .i64) (.pair (.int .i64) (.pair (.int .i64) (.pair (.int .i64) (.pair (.int .i64) (.sl true (.int .i64))))))) (.pair (.int .i64) (.pair (.int .i64) (.pair (.int .i64) (.sl true (.pair (.int .i64) (.pair (.int .i64) (.pair (.int .i64) .str))))))))))))), .cell (.int .i64)]⟩ ⟨[(3, false)], [.cell (.sl true (.pair (.int .i64) (.pair (.int .i64) (.pair (.int .i64) (.pair (.pair (.int .i64) (.pair (.int .i64) (.pair (.int .i64) .str))) (.pair (.pair (.int .i64) (.pair (.int .i64) (.pair (.int .i64) (.pair (.int .i64) (.pair (.int .i64) (.sl true (.int .i64))))))) (.pair (.int .i64) (.pair (.int .i64) (.pair (.int .i64) (.sl true (.pair (.int .i64) (.pair (.int .i64) (.pair (.int .i64) .str)))))))))))))]⟩ B_laws_toLetterS_1))
 (.seq (.reg none [.p (.mvT 22 3) .unit,
  .p (.mvT 2 22) .unit])
 .ret)))),
 23, 1, [.t 2]⟩
theorem m_laws_toLetterS : mH Try.prog 19 [(1, 3, .t), (5, 0, .v), (5, 8, .t), (6, 0, .t), (6, 1, .t)] = some (F_laws_toLetterS.code.x, F_laws_toLetterS.N, F_laws_toLetterS.np, F_laws_toLetterS.res) := by kernel_rfl
noncomputable def T_laws_toLetterS : List (Int × Int × Int × (Int × Int × Int × List UInt8) × (Int × Int × Int × Int × Int × List (Int)) × Int × Int × Int × List (Int × Int × Int × List UInt8)) → Option (List (Int × Int × Int × (Int × Int × Int × List UInt8) × (Int × Int × Int × Int × Int × List (Int)) × Int × Int × Int × List (Int × Int × Int × List UInt8))) := evF [fn_laws_toLetter] F_laws_toLetterS [.cell (.sl false (.pair (.int .i64) (.pair (.int .i64) (.pair (.int .i64) (.pair (.pair (.int .i64) (.pair (.int .i64) (.pair (.int .i64) .str))) (.pair (.pair (.int .i64) (.pair (.int .i64) (.pair (.int .i64) (.pair (.int .i64) (.pair (.int .i64) (.sl false (.int .i64))))))) (.pair (.int .i64) (.pair (.int .i64) (.pair (.int .i64) (.sl false (.pair (.int .i64) (.pair (.int .i64) (.pair (.int .i64) .str)))))))))))))] [] [.cell (.sl true (.pair (.int .i64) (.pair (.int .i64) (.pair (.int .i64) (.pair (.pair (.int .i64) (.pair (.int .i64) (.pair (.int .i64) .str))) (.pair (.pair (.int .i64) (.pair (.int .i64) (.pair (.int .i64) (.pair (.int .i64) (.pair (.int .i64) (.sl true (.int .i64))))))) (.pair (.int .i64) (.pair (.int .i64) (.pair (.int .i64) (.sl true (.pair (.int .i64) (.pair (.int .i64) (.pair (.int .i64) .str)))))))))))))] []
noncomputable def fn_laws_toLetterS : TFn := ⟨19, [.cell (.sl false (.pair (.int .i64) (.pair (.int .i64) (.pair (.int .i64) (.pair (.pair (.int .i64) (.pair (.int .i64) (.pair (.int .i64) .str))) (.pair (.pair (.int .i64) (.pair (.int .i64) (.pair (.int .i64) (.pair (.int .i64) (.pair (.int .i64) (.sl false (.int .i64))))))) (.pair (.int .i64) (.pair (.int .i64) (.pair (.int .i64) (.sl false (.pair (.int .i64) (.pair (.int .i64) (.pair (.int .i64) .str)))))))))))))], [], [.cell (.sl true (.pair (.int .i64) (.pair (.int .i64) (.pair (.int .i64) (.pair (.pair (.int .i64) (.pair (.int .i64) (.pair (.int .i64) .str))) (.pair (.pair (.int .i64) (.pair (.int .i64) (.pair (.int .i64) (.pair (.int .i64) (.pair (.int .i64) (.sl true (.int .i64))))))) (.pair (.int .i64) (.pair (.int .i64) (.pair (.int .i64) (.sl true (.pair (.int .i64) (.pair (.int .i64) (.pair (.int .i64) .str)))))))))))))], [], T_laws_toLetterS⟩
theorem ok_laws_toLetterS : FnOk Try.prog fn_laws_toLetterS := evF_ok mixed (allOk_cons ok_laws_toLetter allOk_nil) m_laws_toLetterS (by decide)
def F_laws_toWorld : TF := ⟨(.seq (.reg none [.p (.box 1 (.t 0)) .unit,
  .p (.alloc 2 [(.sl true 2 []), (.sl true 24 []), (.sl true 17 []), (.sl true 8 [])]) .unit])
 (.seq (.reg none [.p (.alloc 3 [(.sl true 2 []), (.sl true 24 []), (.sl true 17 []), (.sl true 8 [])]) .unit])
 (.seq (.reg none [.p (.fadr 4 (.t 1) 0) .unit,
  .p (.load 5 (.t 4) 1 false) .unit,
  .p (.callB 6 n_laws_toRingS [((.t 5), 0)]) .unit,
  .p (.fadr 7 (.t 3) 0) .unit,
  .p (.storeT (.t 7) 6 1) .unit])
 (.seq (.reg none [.p (.fadr 8 (.t 1) 1) .unit,
  .p (.load 9 (.t 8) 1 false) .unit,
  .p (.callB 10 n_laws_toDaemonS [((.t 9), 0)]) .unit,
  .p (.fadr 11 (.t 3) 1) .unit,
  .p (.storeT (.t 11) 10 1) .unit])
 (.seq (.reg none [.p (.fadr 12 (.t 1) 2) .unit,
  .p (.load 13 (.t 12) 1 false) .unit,
  .p (.callB 14 n_laws_toLetterS [((.t 13), 0)]) .unit,
  .p (.fadr 15 (.t 3) 2) .unit,
  .p (.storeT (.t 15) 14 1) .unit])
 (.seq (.reg none [.p (.fadr 16 (.t 1) 3) .unit,
  .p (.load 17 (.t 16) 1 false) .unit,
  .p (.callB 18 n_laws_toEventS [((.t 17), 0)]) .unit,
  .p (.fadr 19 (.t 3) 3) .unit,
  .p (.storeT (.t 19) 18 1) .unit])
 (.seq (.reg none [.p (.loadT 20 (.t 3) 4 true) .unit,
  .p (.storeT (.t 2) 20 4) .unit])
 .ret))))))),
 21, 1, [.c 2 4 true]⟩
theorem m_laws_toWorld : mH Try.prog 7 [(2, 4, .t), (3, 4, .t), (4, 4, .t), (5, 4, .t), (6, 0, .t), (6, 1, .t)] = some (F_laws_toWorld.code.x, F_laws_toWorld.N, F_laws_toWorld.np, F_laws_toWorld.res) := by kernel_rfl
noncomputable def T_laws_toWorld : List (Int × List (Int)) × List (Int × Bool × (Int × (Int × List (Int)) × List (Int × Int × Int × List UInt8) × List (Int) × List (List UInt8) × Int × Int × Int × Int × Int × Int × Int × Int × Int × List (Int)) × Int × Int × (Int × List (Int)) × List (Int × Int × Int × List (Int × Int × Int × List UInt8)) × List (Int × (Int × List (Int)) × (Int × Int × Int × List UInt8) × List (Int))) × List (Int × Int × Int × (Int × Int × Int × List UInt8) × (Int × Int × Int × Int × Int × List (Int)) × Int × Int × Int × List (Int × Int × Int × List UInt8)) × List (Int × (Int × List (Int)) × (Int × Int × Int × List UInt8) × List (Int)) → Option (List (Int × List (Int)) × List (Int × Bool × (Int × (Int × List (Int)) × List (Int × Int × Int × List UInt8) × List (Int) × List (List UInt8) × Int × Int × Int × Int × Int × Int × Int × Int × Int × List (Int)) × Int × Int × (Int × List (Int)) × List (Int × Int × Int × List (Int × Int × Int × List UInt8)) × List (Int × (Int × List (Int)) × (Int × Int × Int × List UInt8) × List (Int))) × List (Int × Int × Int × (Int × Int × Int × List UInt8) × (Int × Int × Int × Int × Int × List (Int)) × Int × Int × Int × List (Int × Int × Int × List UInt8)) × List (Int × (Int × List (Int)) × (Int × Int × Int × List UInt8) × List (Int))) := evF [fn_laws_toRingS, fn_laws_toDaemonS, fn_laws_toLetterS, fn_laws_toEventS] F_laws_toWorld [.agg (.pair (.sl false (.pair (.int .i64) (.sl false (.int .i64)))) (.pair (.sl false (.pair (.int .i64) (.pair .bool (.pair (.pair (.int .i64) (.pair (.pair (.int .i64) (.sl false (.int .i64))) (.pair (.sl false (.pair (.int .i64) (.pair (.int .i64) (.pair (.int .i64) .str)))) (.pair (.sl false (.int .i64)) (.pair (.sl false .str) (.pair (.int .i64) (.pair (.int .i64) (.pair (.int .i64) (.pair (.int .i64) (.pair (.int .i64) (.pair (.int .i64) (.pair (.int .i64) (.pair (.int .i64) (.pair (.int .i64) (.sl false (.int .i64)))))))))))))))) (.pair (.int .i64) (.pair (.int .i64) (.pair (.pair (.int .i64) (.sl false (.int .i64))) (.pair (.sl false (.pair (.int .i64) (.pair (.int .i64) (.pair (.int .i64) (.sl false (.pair (.int .i64) (.pair (.int .i64) (.pair (.int .i64) .str)))))))) (.sl false (.pair (.int .i64) (.pair (.pair (.int .i64) (.sl false (.int .i64))) (.pair (.pair (.int .i64) (.pair (.int .i64) (.pair (.int .i64) .str))) (.sl false (.int .i64)))))))))))))) (.pair (.sl false (.pair (.int .i64) (.pair (.int .i64) (.pair (.int .i64) (.pair (.pair (.int .i64) (.pair (.int .i64) (.pair (.int .i64) .str))) (.pair (.pair (.int .i64) (.pair (.int .i64) (.pair (.int .i64) (.pair (.int .i64) (.pair (.int .i64) (.sl false (.int .i64))))))) (.pair (.int .i64) (.pair (.int .i64) (.pair (.int .i64) (.sl false (.pair (.int .i64) (.pair (.int .i64) (.pair (.int .i64) .str))))))))))))) (.sl false (.pair (.int .i64) (.pair (.pair (.int .i64) (.sl false (.int .i64))) (.pair (.pair (.int .i64) (.pair (.int .i64) (.pair (.int .i64) .str))) (.sl false (.int .i64)))))))))] [] [.agg (.pair (.sl true (.pair (.int .i64) (.sl true (.int .i64)))) (.pair (.sl true (.pair (.int .i64) (.pair .bool (.pair (.pair (.int .i64) (.pair (.pair (.int .i64) (.sl true (.int .i64))) (.pair (.sl true (.pair (.int .i64) (.pair (.int .i64) (.pair (.int .i64) .str)))) (.pair (.sl true (.int .i64)) (.pair (.sl true .str) (.pair (.int .i64) (.pair (.int .i64) (.pair (.int .i64) (.pair (.int .i64) (.pair (.int .i64) (.pair (.int .i64) (.pair (.int .i64) (.pair (.int .i64) (.pair (.int .i64) (.sl true (.int .i64)))))))))))))))) (.pair (.int .i64) (.pair (.int .i64) (.pair (.pair (.int .i64) (.sl true (.int .i64))) (.pair (.sl true (.pair (.int .i64) (.pair (.int .i64) (.pair (.int .i64) (.sl true (.pair (.int .i64) (.pair (.int .i64) (.pair (.int .i64) .str)))))))) (.sl true (.pair (.int .i64) (.pair (.pair (.int .i64) (.sl true (.int .i64))) (.pair (.pair (.int .i64) (.pair (.int .i64) (.pair (.int .i64) .str))) (.sl true (.int .i64)))))))))))))) (.pair (.sl true (.pair (.int .i64) (.pair (.int .i64) (.pair (.int .i64) (.pair (.pair (.int .i64) (.pair (.int .i64) (.pair (.int .i64) .str))) (.pair (.pair (.int .i64) (.pair (.int .i64) (.pair (.int .i64) (.pair (.int .i64) (.pair (.int .i64) (.sl true (.int .i64))))))) (.pair (.int .i64) (.pair (.int .i64) (.pair (.int .i64) (.sl true (.pair (.int .i64) (.pair (.int .i64) (.pair (.int .i64) .str))))))))))))) (.sl true (.pair (.int .i64) (.pair (.pair (.int .i64) (.sl true (.int .i64))) (.pair (.pair (.int .i64) (.pair (.int .i64) (.pair (.int .i64) .str))) (.sl true (.int .i64)))))))))] []
noncomputable def fn_laws_toWorld : TFn := ⟨7, [.agg (.pair (.sl false (.pair (.int .i64) (.sl false (.int .i64)))) (.pair (.sl false (.pair (.int .i64) (.pair .bool (.pair (.pair (.int .i64) (.pair (.pair (.int .i64) (.sl false (.int .i64))) (.pair (.sl false (.pair (.int .i64) (.pair (.int .i64) (.pair (.int .i64) .str)))) (.pair (.sl false (.int .i64)) (.pair (.sl false .str) (.pair (.int .i64) (.pair (.int .i64) (.pair (.int .i64) (.pair (.int .i64) (.pair (.int .i64) (.pair (.int .i64) (.pair (.int .i64) (.pair (.int .i64) (.pair (.int .i64) (.sl false (.int .i64)))))))))))))))) (.pair (.int .i64) (.pair (.int .i64) (.pair (.pair (.int .i64) (.sl false (.int .i64))) (.pair (.sl false (.pair (.int .i64) (.pair (.int .i64) (.pair (.int .i64) (.sl false (.pair (.int .i64) (.pair (.int .i64) (.pair (.int .i64) .str)))))))) (.sl false (.pair (.int .i64) (.pair (.pair (.int .i64) (.sl false (.int .i64))) (.pair (.pair (.int .i64) (.pair (.int .i64) (.pair (.int .i64) .str))) (.sl false (.int .i64)))))))))))))) (.pair (.sl false (.pair (.int .i64) (.pair (.int .i64) (.pair (.int .i64) (.pair (.pair (.int .i64) (.pair (.int .i64) (.pair (.int .i64) .str))) (.pair (.pair (.int .i64) (.pair (.int .i64) (.pair (.int .i64) (.pair (.int .i64) (.pair (.int .i64) (.sl false (.int .i64))))))) (.pair (.int .i64) (.pair (.int .i64) (.pair (.int .i64) (.sl false (.pair (.int .i64) (.pair (.int .i64) (.pair (.int .i64) .str))))))))))))) (.sl false (.pair (.int .i64) (.pair (.pair (.int .i64) (.sl false (.int .i64))) (.pair (.pair (.int .i64) (.pair (.int .i64) (.pair (.int .i64) .str))) (.sl false (.int .i64)))))))))], [], [.agg (.pair (.sl true (.pair (.int .i64) (.sl true (.int .i64)))) (.pair (.sl true (.pair (.int .i64) (.pair .bool (.pair (.pair (.int .i64) (.pair (.pair (.int .i64) (.sl true (.int .i64))) (.pair (.sl true (.pair (.int .i64) (.pair (.int .i64) (.pair (.int .i64) .str)))) (.pair (.sl true (.int .i64)) (.pair (.sl true .str) (.pair (.int .i64) (.pair (.int .i64) (.pair (.int .i64) (.pair (.int .i64) (.pair (.int .i64) (.pair (.int .i64) (.pair (.int .i64) (.pair (.int .i64) (.pair (.int .i64) (.sl true (.int .i64)))))))))))))))) (.pair (.int .i64) (.pair (.int .i64) (.pair (.pair (.int .i64) (.sl true (.int .i64))) (.pair (.sl true (.pair (.int .i64) (.pair (.int .i64) (.pair (.int .i64) (.sl true (.pair (.int .i64) (.pair (.int .i64) (.pair (.int .i64) .str)))))))) (.sl true (.pair (.int .i64) (.pair (.pair (.int .i64) (.sl true (.int .i64))) (.pair (.pair (.int .i64) (.pair (.int .i64) (.pair (.int .i64) .str))) (.sl true (.int .i64)))))))))))))) (.pair (.sl true (.pair (.int .i64) (.pair (.int .i64) (.pair (.int .i64) (.pair (.pair (.int .i64) (.pair (.int .i64) (.pair (.int .i64) .str))) (.pair (.pair (.int .i64) (.pair (.int .i64) (.pair (.int .i64) (.pair (.int .i64) (.pair (.int .i64) (.sl true (.int .i64))))))) (.pair (.int .i64) (.pair (.int .i64) (.pair (.int .i64) (.sl true (.pair (.int .i64) (.pair (.int .i64) (.pair (.int .i64) .str))))))))))))) (.sl true (.pair (.int .i64) (.pair (.pair (.int .i64) (.sl true (.int .i64))) (.pair (.pair (.int .i64) (.pair (.int .i64) (.pair (.int .i64) .str))) (.sl true (.int .i64)))))))))], [], T_laws_toWorld⟩
theorem ok_laws_toWorld : FnOk Try.prog fn_laws_toWorld := evF_ok mixed (allOk_cons ok_laws_toRingS (allOk_cons ok_laws_toDaemonS (allOk_cons ok_laws_toLetterS (allOk_cons ok_laws_toEventS allOk_nil)))) m_laws_toWorld (by decide)
def B_spec_l16PartAt_1 : TC := (.seq (.seq (.reg none [.p (.mv 6 (.t 5)) .unit,
  .p (.mv 7 (.t 0)) .unit,
  .p (.lenB 8 (.t 7)) .unit,
  .p (.bin 9 false .lss (.t 6) (.t 8)) .unit])
 (.cond (.t 9) .skip (.exit 0)))
 (.seq (.block 1 (.seq (.join ⟨[(0, true), (1, true), (5, false), (27, false)], [.cell (.sl false (.pair (.int .i64) (.pair (.pair (.int .i64) (.sl false (.int .i64))) (.pair (.pair (.int .i64) (.pair (.int .i64) (.pair (.int .i64) .str))) (.sl false (.int .i64)))))), .cell (.int .i64), .cell (.int .i64), .cell .bool]⟩ (.reg none [.p (.mv 12 (.t 0)) .unit,
  .p (.mv 13 (.t 5)) .unit,
  .p (.iadr 14 8 (.t 12) (.t 13)) .unit,
  .p (.fadr 15 (.t 14) 0) .unit,
  .p (.load 16 (.t 15) 1 false) .unit,
  .p (.bin 17 false .eql (.t 16) (.c (.int .i64 2))) .unit,
  .p (.mv 18 (.t 17)) .unit,
  .g 18 true (some 19) (.mv 19 (.t 0)) .unit,
  .g 18 true (some 20) (.mv 20 (.t 5)) .unit,
  .g 18 true (some 21) (.iadr 21 8 (.t 19) (.t 20)) .unit,
  .g 18 true (some 22) (.fadr 22 (.t 21) 1) .unit,
  .g 18 true (some 23) (.fadr 23 (.t 22) 0) .unit,
  .g 18 true (some 24) (.load 24 (.t 23) 1 false) .unit,
  .g 18 true (some 25) (.mv 25 (.t 1)) .unit,
  .g 18 true (some 26) (.bin 26 false .eql (.t 24) (.t 25)) .unit,
  .p (.pick 27 (.t 18) (.t 26) (.c (.bool false))) .unit]))
 (.cond (.t 27) (.seq (.reg none [.p (.mv 28 (.t 5)) .unit,
  .p (.mv 4 (.t 28)) .unit])
 .ret) .skip)))
 (.reg none [.p (.mv 10 (.t 5)) .unit,
  .p (.bin 11 false .add (.t 10) (.c (.int .i64 1))) .unit,
  .p (.mv 5 (.t 11)) .unit])))
noncomputable def L_spec_l16PartAt_1 : Nat → (List (Int × (Int × List (Int)) × (Int × Int × Int × List UInt8) × List (Int))) × (Int) × Int → Option ((Unit) ⊕ (Int)) := evL [] (finT [.t 4] [] [.cell (.int .i64)]) 0 ⟨[(0, true), (1, true), (5, false)], [.cell (.sl false (.pair (.int .i64) (.pair (.pair (.int .i64) (.sl false (.int .i64))) (.pair (.pair (.int .i64) (.pair (.int .i64) (.pair (.int .i64) .str))) (.sl false (.int .i64)))))), .cell (.int .i64), .cell (.int .i64)]⟩ ⟨[], []⟩ B_spec_l16PartAt_1
def F_spec_l16PartAt : TF := ⟨(.seq (.reg none [.p (.mv 4 (.c (.int .i64 0))) .unit])
 (.seq (.seq (.reg none [.p (.mv 5 (.c (.int .i64 0))) .unit])
 (.jl 0 ⟨[(0, true), (1, true), (5, false)], [.cell (.sl false (.pair (.int .i64) (.pair (.pair (.int .i64) (.sl false (.int .i64))) (.pair (.pair (.int .i64) (.pair (.int .i64) (.pair (.int .i64) .str))) (.sl false (.int .i64)))))), .cell (.int .i64), .cell (.int .i64)]⟩ ⟨[], []⟩ B_spec_l16PartAt_1))
 (.seq (.reg none [.p (.mv 4 (.c (.int .i64 (-1)))) .unit])
 .ret))),
 29, 2, [.t 4]⟩
theorem m_spec_l16PartAt : mH Try.prog 26 [] = some (F_spec_l16PartAt.code.x, F_spec_l16PartAt.N, F_spec_l16PartAt.np, F_spec_l16PartAt.res) := by kernel_rfl
noncomputable def T_spec_l16PartAt : (List (Int × (Int × List (Int)) × (Int × Int × Int × List UInt8) × List (Int))) × Int → Option (Int) := evF [] F_spec_l16PartAt [.cell (.sl false (.pair (.int .i64) (.pair (.pair (.int .i64) (.sl false (.int .i64))) (.pair (.pair (.int .i64) (.pair (.int .i64) (.pair (.int .i64) .str))) (.sl false (.int .i64)))))), .cell (.int .i64)] [] [.cell (.int .i64)] []
noncomputable def fn_spec_l16PartAt : TFn := ⟨26, [.cell (.sl false (.pair (.int .i64) (.pair (.pair (.int .i64) (.sl false (.int .i64))) (.pair (.pair (.int .i64) (.pair (.int .i64) (.pair (.int .i64) .str))) (.sl false (.int .i64)))))), .cell (.int .i64)], [], [.cell (.int .i64)], [], T_spec_l16PartAt⟩
theorem ok_spec_l16PartAt : FnOk Try.prog fn_spec_l16PartAt := evF_ok mixed allOk_nil m_spec_l16PartAt (by decide)
def B_spec_l16Has_1 : TC := (.seq (.seq (.reg none [.p (.mv 10 (.t 9)) .unit,
  .p (.mv 11 (.t 0)) .unit,
  .p (.lenB 12 (.t 11)) .unit,
  .p (.bin 13 false .lss (.t 10) (.t 12)) .unit])
 (.cond (.t 13) .skip (.exit 0)))
 (.seq (.block 1 (.seq (.seq (.join ⟨[(0, true), (1, true), (2, true), (7, false), (9, false), (26, false)], [.cell (.sl false (.pair (.int .i64) (.pair (.pair (.int .i64) (.sl false (.int .i64))) (.pair (.pair (.int .i64) (.pair (.int .i64) (.pair (.int .i64) .str))) (.sl false (.int .i64)))))), .cell (.int .i64), .cell (.int .i64), .box (.pair (.int .i64) (.pair (.int .i64) (.pair (.int .i64) .str))), .cell (.int .i64), .cell .bool]⟩ (.reg none [.p (.mv 16 (.t 9)) .unit,
  .p (.mv 17 (.t 1)) .unit,
  .p (.bin 18 false .gtr (.t 16) (.t 17)) .unit,
  .p (.mv 19 (.t 18)) .unit,
  .g 19 true (some 20) (.mv 20 (.t 0)) .unit,
  .g 19 true (some 21) (.mv 21 (.t 9)) .unit,
  .g 19 true (some 22) (.iadr 22 8 (.t 20) (.t 21)) .unit,
  .g 19 true (some 23) (.fadr 23 (.t 22) 0) .unit,
  .g 19 true (some 24) (.load 24 (.t 23) 1 false) .unit,
  .g 19 true (some 25) (.bin 25 false .eql (.t 24) (.c (.int .i64 3))) .unit,
  .p (.pick 26 (.t 19) (.t 25) (.c (.bool false))) .unit]))
 (.cond (.t 26) (.seq (.reg none [.p (.mv 8 (.c (.bool false))) .unit])
 .ret) .skip))
 (.seq (.join ⟨[(0, true), (1, true), (2, true), (7, false), (9, false), (51, false)], [.cell (.sl false (.pair (.int .i64) (.pair (.pair (.int .i64) (.sl false (.int .i64))) (.pair (.pair (.int .i64) (.pair (.int .i64) (.pair (.int .i64) .str))) (.sl false (.int .i64)))))), .cell (.int .i64), .cell (.int .i64), .box (.pair (.int .i64) (.pair (.int .i64) (.pair (.int .i64) .str))), .cell (.int .i64), .cell .bool]⟩ (.reg (some [[], [], [0, 1], [2], [3], [4], [5], [6], [6], [7, 8, 6], [9, 6], [10, 6], [11, 6], [6], [12, 13, 6], [6, 14], [15, 6], [16], [16], [17, 18, 16], [19, 16], [20, 16], [16], [21, 22, 16], [16, 23]]) [.p (.mv 27 (.t 0)) .unit,
  .p (.mv 28 (.t 9)) .unit,
  .p (.iadr 29 8 (.t 27) (.t 28)) .unit,
  .p (.fadr 30 (.t 29) 0) .unit,
  .p (.load 31 (.t 30) 1 false) .unit,
  .p (.bin 32 false .eql (.t 31) (.c (.int .i64 1))) .unit,
  .p (.mv 33 (.t 32)) .unit,
  .g 33 true (some 34) (.mv 34 (.t 0)) .unit,
  .g 33 true (some 35) (.mv 35 (.t 9)) .unit,
  .g 33 true (some 36) (.iadr 36 8 (.t 34) (.t 35)) .unit,
  .g 33 true (some 37) (.fadr 37 (.t 36) 1) .unit,
  .g 33 true (some 38) (.fadr 38 (.t 37) 0) .unit,
  .g 33 true (some 39) (.load 39 (.t 38) 1 false) .unit,
  .g 33 true (some 40) (.mv 40 (.t 2)) .unit,
  .g 33 true (some 41) (.bin 41 false .eql (.t 39) (.t 40)) .unit,
  .p (.pick 42 (.t 33) (.t 41) (.c (.bool false))) .unit,
  .p (.mv 43 (.t 42)) .unit,
  .g 43 true (some 44) (.mv 44 (.t 0)) .unit,
  .g 43 true (some 45) (.mv 45 (.t 9)) .unit,
  .g 43 true (some 46) (.iadr 46 8 (.t 44) (.t 45)) .unit,
  .g 43 true (some 47) (.fadr 47 (.t 46) 3) .unit,
  .g 43 true (some 48) (.load 48 (.t 47) 4 true) .unit,
  .g 43 true (some 49) (.load 49 (.t 7) 4 true) .unit,
  .g 43 true (some 50) (.eqA 50 false [0, 0, 0, 1] (.t 48) (.t 49)) .unit,
  .p (.pick 51 (.t 43) (.t 50) (.c (.bool false))) .unit]))
 (.cond (.t 51) (.seq (.reg none [.p (.mv 8 (.c (.bool true))) .unit])
 .ret) .skip))))
 (.reg none [.p (.mv 14 (.t 9)) .unit,
  .p (.bin 15 false .add (.t 14) (.c (.int .i64 1))) .unit,
  .p (.mv 9 (.t 15)) .unit])))
noncomputable def L_spec_l16Has_1 : Nat → (List (Int × (Int × List (Int)) × (Int × Int × Int × List UInt8) × List (Int))) × (Int) × (Int) × (Int × Int × Int × List UInt8) × Int → Option ((Unit) ⊕ (Bool)) := evL [] (finT [.t 8] [] [.cell .bool]) 0 ⟨[(0, true), (1, true), (2, true), (7, false), (9, false)], [.cell (.sl false (.pair (.int .i64) (.pair (.pair (.int .i64) (.sl false (.int .i64))) (.pair (.pair (.int .i64) (.pair (.int .i64) (.pair (.int .i64) .str))) (.sl false (.int .i64)))))), .cell (.int .i64), .cell (.int .i64), .box (.pair (.int .i64) (.pair (.int .i64) (.pair (.int .i64) .str))), .cell (.int .i64)]⟩ ⟨[], []⟩ B_spec_l16Has_1
def F_spec_l16Has : TF := ⟨(.seq (.reg none [.p (.box 7 (.t 3)) .unit,
  .p (.mv 8 (.c (.bool false))) .unit])
 (.seq (.seq (.reg none [.p (.mv 9 (.c (.int .i64 0))) .unit])
 (.jl 0 ⟨[(0, true), (1, true), (2, true), (7, false), (9, false)], [.cell (.sl false (.pair (.int .i64) (.pair (.pair (.int .i64) (.sl false (.int .i64))) (.pair (.pair (.int .i64) (.pair (.int .i64) (.pair (.int .i64) .str))) (.sl false (.int .i64)))))), .cell (.int .i64), .cell (.int .i64), .box (.pair (.int .i64) (.pair (.int .i64) (.pair (.int .i64) .str))), .cell (.int .i64)]⟩ ⟨[], []⟩ B_spec_l16Has_1))
 (.seq (.reg none [.p (.mv 8 (.c (.bool false))) .unit])
 .ret))),
 52, 4, [.t 8]⟩
theorem m_spec_l16Has : mH Try.prog 27 [] = some (F_spec_l16Has.code.x, F_spec_l16Has.N, F_spec_l16Has.np, F_spec_l16Has.res) := by kernel_rfl
noncomputable def T_spec_l16Has : (List (Int × (Int × List (Int)) × (Int × Int × Int × List UInt8) × List (Int))) × (Int) × (Int) × Int × Int × Int × List UInt8 → Option (Bool) := evF [] F_spec_l16Has [.cell (.sl false (.pair (.int .i64) (.pair (.pair (.int .i64) (.sl false (.int .i64))) (.pair (.pair (.int .i64) (.pair (.int .i64) (.pair (.int .i64) .str))) (.sl false (.int .i64)))))), .cell (.int .i64), .cell (.int .i64), .agg (.pair (.int .i64) (.pair (.int .i64) (.pair (.int .i64) .str)))] [] [.cell .bool] []
noncomputable def fn_spec_l16Has : TFn := ⟨27, [.cell (.sl false (.pair (.int .i64) (.pair (.pair (.int .i64) (.sl false (.int .i64))) (.pair (.pair (.int .i64) (.pair (.int .i64) (.pair (.int .i64) .str))) (.sl false (.int .i64)))))), .cell (.int .i64), .cell (.int .i64), .agg (.pair (.int .i64) (.pair (.int .i64) (.pair (.int .i64) .str)))], [], [.cell .bool], [], T_spec_l16Has⟩
theorem ok_spec_l16Has : FnOk Try.prog fn_spec_l16Has := evF_ok mixed allOk_nil m_spec_l16Has (by decide)
def B_spec_SafeKept_1 : TC := (.seq (.seq (.reg none [.p (.mv 63 (.t 8)) .unit,
  .p (.fadr 64 (.t 1) 1) .unit,
  .p (.load 65 (.t 64) 1 false) .unit,
  .p (.lenB 66 (.t 65)) .unit,
  .p (.bin 67 false .lss (.t 63) (.t 66)) .unit])
 (.cond (.t 67) .skip (.exit 4)))
 (.seq (.block 5 (.seq (.reg none [.p (.fadr 70 (.t 1) 1) .unit,
  .p (.load 71 (.t 70) 1 false) .unit,
  .p (.mv 72 (.t 8)) .unit,
  .p (.iadr 73 24 (.t 71) (.t 72)) .unit,
  .p (.fadr 74 (.t 73) 23) .unit,
  .p (.load 75 (.t 74) 1 false) .unit,
  .p (.mv 9 (.t 75)) .unit])
 (.seq (.reg none [.p (.mv 76 (.t 9)) .unit,
  .p (.mv 77 (.t 6)) .unit,
  .p (.callB 78 n_spec_l16PartAt [((.t 76), 0), ((.t 77), 0)]) .unit,
  .p (.mv 10 (.t 78)) .unit])
 (.seq (.join ⟨[(1, false), (3, false), (4, false), (5, false), (6, false), (8, false), (92, false)], [.box (.pair (.sl false (.pair (.int .i64) (.sl false (.int .i64)))) (.pair (.sl false (.pair (.int .i64) (.pair .bool (.pair (.pair (.int .i64) (.pair (.pair (.int .i64) (.sl false (.int .i64))) (.pair (.sl false (.pair (.int .i64) (.pair (.int .i64) (.pair (.int .i64) .str)))) (.pair (.sl false (.int .i64)) (.pair (.sl false .str) (.pair (.int .i64) (.pair (.int .i64) (.pair (.int .i64) (.pair (.int .i64) (.pair (.int .i64) (.pair (.int .i64) (.pair (.int .i64) (.pair (.int .i64) (.pair (.int .i64) (.sl false (.int .i64)))))))))))))))) (.pair (.int .i64) (.pair (.int .i64) (.pair (.pair (.int .i64) (.sl false (.int .i64))) (.pair (.sl false (.pair (.int .i64) (.pair (.int .i64) (.pair (.int .i64) (.sl false (.pair (.int .i64) (.pair (.int .i64) (.pair (.int .i64) .str)))))))) (.sl false (.pair (.int .i64) (.pair (.pair (.int .i64) (.sl false (.int .i64))) (.pair (.pair (.int .i64) (.pair (.int .i64) (.pair (.int .i64) .str))) (.sl false (.int .i64)))))))))))))) (.pair (.sl false (.pair (.int .i64) (.pair (.int .i64) (.pair (.int .i64) (.pair (.pair (.int .i64) (.pair (.int .i64) (.pair (.int .i64) .str))) (.pair (.pair (.int .i64) (.pair (.int .i64) (.pair (.int .i64) (.pair (.int .i64) (.pair (.int .i64) (.sl false (.int .i64))))))) (.pair (.int .i64) (.pair (.int .i64) (.pair (.int .i64) (.sl false (.pair (.int .i64) (.pair (.int .i64) (.pair (.int .i64) .str))))))))))))) (.sl false (.pair (.int .i64) (.pair (.pair (.int .i64) (.sl false (.int .i64))) (.pair (.pair (.int .i64) (.pair (.int .i64) (.pair (.int .i64) .str))) (.sl false (.int .i64))))))))), .cell (.int .i64), .cell (.sl false (.pair (.int .i64) (.pair (.pair (.int .i64) (.sl false (.int .i64))) (.pair (.pair (.int .i64) (.pair (.int .i64) (.pair (.int .i64) .str))) (.sl false (.int .i64)))))), .cell (.int .i64), .cell (.int .i64), .cell (.int .i64), .cell .bool]⟩ (.reg none [.p (.mv 79 (.t 10)) .unit,
  .p (.bin 80 false .geq (.t 79) (.c (.int .i64 0))) .unit,
  .p (.mv 81 (.t 80)) .unit,
  .g 81 true (some 82) (.mv 82 (.t 9)) .unit,
  .g 81 true (some 83) (.mv 83 (.t 10)) .unit,
  .g 81 true (some 84) (.mv 84 (.t 6)) .unit,
  .g 81 true (some 85) (.mv 85 (.t 4)) .unit,
  .g 81 true (some 86) (.mv 86 (.t 5)) .unit,
  .g 81 true (some 87) (.iadr 87 8 (.t 85) (.t 86)) .unit,
  .g 81 true (some 88) (.fadr 88 (.t 87) 3) .unit,
  .g 81 true (some 89) (.load 89 (.t 88) 4 true) .unit,
  .g 81 true (some 90) (.callB 90 n_spec_l16Has [((.t 82), 0), ((.t 83), 0), ((.t 84), 0), ((.t 89), 0)]) .unit,
  .g 81 true (some 91) (.un 91 .not (.t 90)) .unit,
  .p (.pick 92 (.t 81) (.t 91) (.c (.bool false))) .unit]))
 (.cond (.t 92) (.seq (.reg none [.p (.mv 2 (.c (.bool false))) .unit])
 .ret) .skip)))))
 (.reg none [.p (.mv 68 (.t 8)) .unit,
  .p (.bin 69 false .add (.t 68) (.c (.int .i64 1))) .unit,
  .p (.mv 8 (.t 69)) .unit])))
noncomputable def L_spec_SafeKept_1 : Nat → (List (Int × List (Int)) × List (Int × Bool × (Int × (Int × List (Int)) × List (Int × Int × Int × List UInt8) × List (Int) × List (List UInt8) × Int × Int × Int × Int × Int × Int × Int × Int × Int × List (Int)) × Int × Int × (Int × List (Int)) × List (Int × Int × Int × List (Int × Int × Int × List UInt8)) × List (Int × (Int × List (Int)) × (Int × Int × Int × List UInt8) × List (Int))) × List (Int × Int × Int × (Int × Int × Int × List UInt8) × (Int × Int × Int × Int × Int × List (Int)) × Int × Int × Int × List (Int × Int × Int × List UInt8)) × List (Int × (Int × List (Int)) × (Int × Int × Int × List UInt8) × List (Int))) × (Int) × (List (Int × (Int × List (Int)) × (Int × Int × Int × List UInt8) × List (Int))) × (Int) × (Int) × Int → Option (((List (Int × List (Int)) × List (Int × Bool × (Int × (Int × List (Int)) × List (Int × Int × Int × List UInt8) × List (Int) × List (List UInt8) × Int × Int × Int × Int × Int × Int × Int × Int × Int × List (Int)) × Int × Int × (Int × List (Int)) × List (Int × Int × Int × List (Int × Int × Int × List UInt8)) × List (Int × (Int × List (Int)) × (Int × Int × Int × List UInt8) × List (Int))) × List (Int × Int × Int × (Int × Int × Int × List UInt8) × (Int × Int × Int × Int × Int × List (Int)) × Int × Int × Int × List (Int × Int × Int × List UInt8)) × List (Int × (Int × List (Int)) × (Int × Int × Int × List UInt8) × List (Int))) × (Int) × (List (Int × (Int × List (Int)) × (Int × Int × Int × List UInt8) × List (Int))) × Int) ⊕ (Bool)) := evL [fn_spec_l16PartAt, fn_spec_l16Has] (finT [.t 2] [] [.cell .bool]) 4 ⟨[(1, false), (3, false), (4, false), (5, false), (6, false), (8, false)], [.box (.pair (.sl false (.pair (.int .i64) (.sl false (.int .i64)))) (.pair (.sl false (.pair (.int .i64) (.pair .bool (.pair (.pair (.int .i64) (.pair (.pair (.int .i64) (.sl false (.int .i64))) (.pair (.sl false (.pair (.int .i64) (.pair (.int .i64) (.pair (.int .i64) .str)))) (.pair (.sl false (.int .i64)) (.pair (.sl false .str) (.pair (.int .i64) (.pair (.int .i64) (.pair (.int .i64) (.pair (.int .i64) (.pair (.int .i64) (.pair (.int .i64) (.pair (.int .i64) (.pair (.int .i64) (.pair (.int .i64) (.sl false (.int .i64)))))))))))))))) (.pair (.int .i64) (.pair (.int .i64) (.pair (.pair (.int .i64) (.sl false (.int .i64))) (.pair (.sl false (.pair (.int .i64) (.pair (.int .i64) (.pair (.int .i64) (.sl false (.pair (.int .i64) (.pair (.int .i64) (.pair (.int .i64) .str)))))))) (.sl false (.pair (.int .i64) (.pair (.pair (.int .i64) (.sl false (.int .i64))) (.pair (.pair (.int .i64) (.pair (.int .i64) (.pair (.int .i64) .str))) (.sl false (.int .i64)))))))))))))) (.pair (.sl false (.pair (.int .i64) (.pair (.int .i64) (.pair (.int .i64) (.pair (.pair (.int .i64) (.pair (.int .i64) (.pair (.int .i64) .str))) (.pair (.pair (.int .i64) (.pair (.int .i64) (.pair (.int .i64) (.pair (.int .i64) (.pair (.int .i64) (.sl false (.int .i64))))))) (.pair (.int .i64) (.pair (.int .i64) (.pair (.int .i64) (.sl false (.pair (.int .i64) (.pair (.int .i64) (.pair (.int .i64) .str))))))))))))) (.sl false (.pair (.int .i64) (.pair (.pair (.int .i64) (.sl false (.int .i64))) (.pair (.pair (.int .i64) (.pair (.int .i64) (.pair (.int .i64) .str))) (.sl false (.int .i64))))))))), .cell (.int .i64), .cell (.sl false (.pair (.int .i64) (.pair (.pair (.int .i64) (.sl false (.int .i64))) (.pair (.pair (.int .i64) (.pair (.int .i64) (.pair (.int .i64) .str))) (.sl false (.int .i64)))))), .cell (.int .i64), .cell (.int .i64), .cell (.int .i64)]⟩ ⟨[(1, false), (3, false), (4, false), (5, false)], [.box (.pair (.sl false (.pair (.int .i64) (.sl false (.int .i64)))) (.pair (.sl false (.pair (.int .i64) (.pair .bool (.pair (.pair (.int .i64) (.pair (.pair (.int .i64) (.sl false (.int .i64))) (.pair (.sl false (.pair (.int .i64) (.pair (.int .i64) (.pair (.int .i64) .str)))) (.pair (.sl false (.int .i64)) (.pair (.sl false .str) (.pair (.int .i64) (.pair (.int .i64) (.pair (.int .i64) (.pair (.int .i64) (.pair (.int .i64) (.pair (.int .i64) (.pair (.int .i64) (.pair (.int .i64) (.pair (.int .i64) (.sl false (.int .i64)))))))))))))))) (.pair (.int .i64) (.pair (.int .i64) (.pair (.pair (.int .i64) (.sl false (.int .i64))) (.pair (.sl false (.pair (.int .i64) (.pair (.int .i64) (.pair (.int .i64) (.sl false (.pair (.int .i64) (.pair (.int .i64) (.pair (.int .i64) .str)))))))) (.sl false (.pair (.int .i64) (.pair (.pair (.int .i64) (.sl false (.int .i64))) (.pair (.pair (.int .i64) (.pair (.int .i64) (.pair (.int .i64) .str))) (.sl false (.int .i64)))))))))))))) (.pair (.sl false (.pair (.int .i64) (.pair (.int .i64) (.pair (.int .i64) (.pair (.pair (.int .i64) (.pair (.int .i64) (.pair (.int .i64) .str))) (.pair (.pair (.int .i64) (.pair (.int .i64) (.pair (.int .i64) (.pair (.int .i64) (.pair (.int .i64) (.sl false (.int .i64))))))) (.pair (.int .i64) (.pair (.int .i64) (.pair (.int .i64) (.sl false (.pair (.int .i64) (.pair (.int .i64) (.pair (.int .i64) .str))))))))))))) (.sl false (.pair (.int .i64) (.pair (.pair (.int .i64) (.sl false (.int .i64))) (.pair (.pair (.int .i64) (.pair (.int .i64) (.pair (.int .i64) .str))) (.sl false (.int .i64))))))))), .cell (.int .i64), .cell (.sl false (.pair (.int .i64) (.pair (.pair (.int .i64) (.sl false (.int .i64))) (.pair (.pair (.int .i64) (.pair (.int .i64) (.pair (.int .i64) .str))) (.sl false (.int .i64)))))), .cell (.int .i64)]⟩ B_spec_SafeKept_1
def B_spec_SafeKept_2 : TC := (.seq (.seq (.reg none [.p (.mv 24 (.t 5)) .unit,
  .p (.mv 25 (.t 4)) .unit,
  .p (.lenB 26 (.t 25)) .unit,
  .p (.bin 27 false .lss (.t 24) (.t 26)) .unit])
 (.cond (.t 27) .skip (.exit 2)))
 (.seq (.join ⟨[(1, false), (3, false), (4, false), (5, false)], [.box (.pair (.sl false (.pair (.int .i64) (.sl false (.int .i64)))) (.pair (.sl false (.pair (.int .i64) (.pair .bool (.pair (.pair (.int .i64) (.pair (.pair (.int .i64) (.sl false (.int .i64))) (.pair (.sl false (.pair (.int .i64) (.pair (.int .i64) (.pair (.int .i64) .str)))) (.pair (.sl false (.int .i64)) (.pair (.sl false .str) (.pair (.int .i64) (.pair (.int .i64) (.pair (.int .i64) (.pair (.int .i64) (.pair (.int .i64) (.pair (.int .i64) (.pair (.int .i64) (.pair (.int .i64) (.pair (.int .i64) (.sl false (.int .i64)))))))))))))))) (.pair (.int .i64) (.pair (.int .i64) (.pair (.pair (.int .i64) (.sl false (.int .i64))) (.pair (.sl false (.pair (.int .i64) (.pair (.int .i64) (.pair (.int .i64) (.sl false (.pair (.int .i64) (.pair (.int .i64) (.pair (.int .i64) .str)))))))) (.sl false (.pair (.int .i64) (.pair (.pair (.int .i64) (.sl false (.int .i64))) (.pair (.pair (.int .i64) (.pair (.int .i64) (.pair (.int .i64) .str))) (.sl false (.int .i64)))))))))))))) (.pair (.sl false (.pair (.int .i64) (.pair (.int .i64) (.pair (.int .i64) (.pair (.pair (.int .i64) (.pair (.int .i64) (.pair (.int .i64) .str))) (.pair (.pair (.int .i64) (.pair (.int .i64) (.pair (.int .i64) (.pair (.int .i64) (.pair (.int .i64) (.sl false (.int .i64))))))) (.pair (.int .i64) (.pair (.int .i64) (.pair (.int .i64) (.sl false (.pair (.int .i64) (.pair (.int .i64) (.pair (.int .i64) .str))))))))))))) (.sl false (.pair (.int .i64) (.pair (.pair (.int .i64) (.sl false (.int .i64))) (.pair (.pair (.int .i64) (.pair (.int .i64) (.pair (.int .i64) .str))) (.sl false (.int .i64))))))))), .cell (.int .i64), .cell (.sl false (.pair (.int .i64) (.pair (.pair (.int .i64) (.sl false (.int .i64))) (.pair (.pair (.int .i64) (.pair (.int .i64) (.pair (.int .i64) .str))) (.sl false (.int .i64)))))), .cell (.int .i64)]⟩ (.block 3 (.seq (.reg none [.p (.mv 30 (.t 4)) .unit,
  .p (.mv 31 (.t 5)) .unit,
  .p (.iadr 32 8 (.t 30) (.t 31)) .unit,
  .p (.fadr 33 (.t 32) 1) .unit,
  .p (.fadr 34 (.t 33) 0) .unit,
  .p (.load 35 (.t 34) 1 false) .unit,
  .p (.mv 6 (.t 35)) .unit])
 (.seq (.reg none [.p (.mv 36 (.t 4)) .unit,
  .p (.mv 37 (.t 6)) .unit,
  .p (.callB 38 n_spec_l16PartAt [((.t 36), 0), ((.t 37), 0)]) .unit,
  .p (.mv 7 (.t 38)) .unit])
 (.seq (.seq (.join ⟨[(1, false), (3, false), (4, false), (5, false), (6, false), (62, false)], [.box (.pair (.sl false (.pair (.int .i64) (.sl false (.int .i64)))) (.pair (.sl false (.pair (.int .i64) (.pair .bool (.pair (.pair (.int .i64) (.pair (.pair (.int .i64) (.sl false (.int .i64))) (.pair (.sl false (.pair (.int .i64) (.pair (.int .i64) (.pair (.int .i64) .str)))) (.pair (.sl false (.int .i64)) (.pair (.sl false .str) (.pair (.int .i64) (.pair (.int .i64) (.pair (.int .i64) (.pair (.int .i64) (.pair (.int .i64) (.pair (.int .i64) (.pair (.int .i64) (.pair (.int .i64) (.pair (.int .i64) (.sl false (.int .i64)))))))))))))))) (.pair (.int .i64) (.pair (.int .i64) (.pair (.pair (.int .i64) (.sl false (.int .i64))) (.pair (.sl false (.pair (.int .i64) (.pair (.int .i64) (.pair (.int .i64) (.sl false (.pair (.int .i64) (.pair (.int .i64) (.pair (.int .i64) .str)))))))) (.sl false (.pair (.int .i64) (.pair (.pair (.int .i64) (.sl false (.int .i64))) (.pair (.pair (.int .i64) (.pair (.int .i64) (.pair (.int .i64) .str))) (.sl false (.int .i64)))))))))))))) (.pair (.sl false (.pair (.int .i64) (.pair (.int .i64) (.pair (.int .i64) (.pair (.pair (.int .i64) (.pair (.int .i64) (.pair (.int .i64) .str))) (.pair (.pair (.int .i64) (.pair (.int .i64) (.pair (.int .i64) (.pair (.int .i64) (.pair (.int .i64) (.sl false (.int .i64))))))) (.pair (.int .i64) (.pair (.int .i64) (.pair (.int .i64) (.sl false (.pair (.int .i64) (.pair (.int .i64) (.pair (.int .i64) .str))))))))))))) (.sl false (.pair (.int .i64) (.pair (.pair (.int .i64) (.sl false (.int .i64))) (.pair (.pair (.int .i64) (.pair (.int .i64) (.pair (.int .i64) .str))) (.sl false (.int .i64))))))))), .cell (.int .i64), .cell (.sl false (.pair (.int .i64) (.pair (.pair (.int .i64) (.sl false (.int .i64))) (.pair (.pair (.int .i64) (.pair (.int .i64) (.pair (.int .i64) .str))) (.sl false (.int .i64)))))), .cell (.int .i64), .cell (.int .i64), .cell .bool]⟩ (.reg none [.p (.mv 39 (.t 4)) .unit,
  .p (.mv 40 (.t 5)) .unit,
  .p (.iadr 41 8 (.t 39) (.t 40)) .unit,
  .p (.fadr 42 (.t 41) 0) .unit,
  .p (.load 43 (.t 42) 1 false) .unit,
  .p (.bin 44 false .neq (.t 43) (.c (.int .i64 1))) .unit,
  .p (.mv 45 (.t 44)) .unit,
  .g 45 false (some 46) (.mv 46 (.t 4)) .unit,
  .g 45 false (some 47) (.mv 47 (.t 5)) .unit,
  .g 45 false (some 48) (.iadr 48 8 (.t 46) (.t 47)) .unit,
  .g 45 false (some 49) (.fadr 49 (.t 48) 3) .unit,
  .g 45 false (some 50) (.fadr 50 (.t 49) 2) .unit,
  .g 45 false (some 51) (.load 51 (.t 50) 1 false) .unit,
  .g 45 false (some 52) (.bin 52 false .neq (.t 51) (.c (.int .i64 2))) .unit,
  .p (.pick 53 (.t 45) (.c (.bool true)) (.t 52)) .unit,
  .p (.mv 54 (.t 53)) .unit,
  .g 54 false (some 55) (.mv 55 (.t 7)) .unit,
  .g 54 false (some 56) (.bin 56 false .geq (.t 55) (.c (.int .i64 0))) .unit,
  .g 54 false (some 57) (.mv 57 (.t 56)) .unit,
  .g 57 true (some 58) (.mv 58 (.t 5)) .unit,
  .g 57 true (some 59) (.mv 59 (.t 7)) .unit,
  .g 57 true (some 60) (.bin 60 false .gtr (.t 58) (.t 59)) .unit,
  .g 54 false (some 61) (.pick 61 (.t 57) (.t 60) (.c (.bool false))) .unit,
  .p (.pick 62 (.t 54) (.c (.bool true)) (.t 61)) .unit]))
 (.cond (.t 62) (.exit 3) .skip))
 (.seq (.reg none [.p (.mv 8 (.c (.int .i64 0))) .unit])
 (.jl 4 ⟨[(1, false), (3, false), (4, false), (5, false), (6, false), (8, false)], [.box (.pair (.sl false (.pair (.int .i64) (.sl false (.int .i64)))) (.pair (.sl false (.pair (.int .i64) (.pair .bool (.pair (.pair (.int .i64) (.pair (.pair (.int .i64) (.sl false (.int .i64))) (.pair (.sl false (.pair (.int .i64) (.pair (.int .i64) (.pair (.int .i64) .str)))) (.pair (.sl false (.int .i64)) (.pair (.sl false .str) (.pair (.int .i64) (.pair (.int .i64) (.pair (.int .i64) (.pair (.int .i64) (.pair (.int .i64) (.pair (.int .i64) (.pair (.int .i64) (.pair (.int .i64) (.pair (.int .i64) (.sl false (.int .i64)))))))))))))))) (.pair (.int .i64) (.pair (.int .i64) (.pair (.pair (.int .i64) (.sl false (.int .i64))) (.pair (.sl false (.pair (.int .i64) (.pair (.int .i64) (.pair (.int .i64) (.sl false (.pair (.int .i64) (.pair (.int .i64) (.pair (.int .i64) .str)))))))) (.sl false (.pair (.int .i64) (.pair (.pair (.int .i64) (.sl false (.int .i64))) (.pair (.pair (.int .i64) (.pair (.int .i64) (.pair (.int .i64) .str))) (.sl false (.int .i64)))))))))))))) (.pair (.sl false (.pair (.int .i64) (.pair (.int .i64) (.pair (.int .i64) (.pair (.pair (.int .i64) (.pair (.int .i64) (.pair (.int .i64) .str))) (.pair (.pair (.int .i64) (.pair (.int .i64) (.pair (.int .i64) (.pair (.int .i64) (.pair (.int .i64) (.sl false (.int .i64))))))) (.pair (.int .i64) (.pair (.int .i64) (.pair (.int .i64) (.sl false (.pair (.int .i64) (.pair (.int .i64) (.pair (.int .i64) .str))))))))))))) (.sl false (.pair (.int .i64) (.pair (.pair (.int .i64) (.sl false (.int .i64))) (.pair (.pair (.int .i64) (.pair (.int .i64) (.pair (.int .i64) .str))) (.sl false (.int .i64))))))))), .cell (.int .i64), .cell (.sl false (.pair (.int .i64) (.pair (.pair (.int .i64) (.sl false (.int .i64))) (.pair (.pair (.int .i64) (.pair (.int .i64) (.pair (.int .i64) .str))) (.sl false (.int .i64)))))), .cell (.int .i64), .cell (.int .i64), .cell (.int .i64)]⟩ ⟨[(1, false), (3, false), (4, false), (5, false)], [.box (.pair (.sl false (.pair (.int .i64) (.sl false (.int .i64)))) (.pair (.sl false (.pair (.int .i64) (.pair .bool (.pair (.pair (.int .i64) (.pair (.pair (.int .i64) (.sl false (.int .i64))) (.pair (.sl false (.pair (.int .i64) (.pair (.int .i64) (.pair (.int .i64) .str)))) (.pair (.sl false (.int .i64)) (.pair (.sl false .str) (.pair (.int .i64) (.pair (.int .i64) (.pair (.int .i64) (.pair (.int .i64) (.pair (.int .i64) (.pair (.int .i64) (.pair (.int .i64) (.pair (.int .i64) (.pair (.int .i64) (.sl false (.int .i64)))))))))))))))) (.pair (.int .i64) (.pair (.int .i64) (.pair (.pair (.int .i64) (.sl false (.int .i64))) (.pair (.sl false (.pair (.int .i64) (.pair (.int .i64) (.pair (.int .i64) (.sl false (.pair (.int .i64) (.pair (.int .i64) (.pair (.int .i64) .str)))))))) (.sl false (.pair (.int .i64) (.pair (.pair (.int .i64) (.sl false (.int .i64))) (.pair (.pair (.int .i64) (.pair (.int .i64) (.pair (.int .i64) .str))) (.sl false (.int .i64)))))))))))))) (.pair (.sl false (.pair (.int .i64) (.pair (.int .i64) (.pair (.int .i64) (.pair (.pair (.int .i64) (.pair (.int .i64) (.pair (.int .i64) .str))) (.pair (.pair (.int .i64) (.pair (.int .i64) (.pair (.int .i64) (.pair (.int .i64) (.pair (.int .i64) (.sl false (.int .i64))))))) (.pair (.int .i64) (.pair (.int .i64) (.pair (.int .i64) (.sl false (.pair (.int .i64) (.pair (.int .i64) (.pair (.int .i64) .str))))))))))))) (.sl false (.pair (.int .i64) (.pair (.pair (.int .i64) (.sl false (.int .i64))) (.pair (.pair (.int .i64) (.pair (.int .i64) (.pair (.int .i64) .str))) (.sl false (.int .i64))))))))), .cell (.int .i64), .cell (.sl false (.pair (.int .i64) (.pair (.pair (.int .i64) (.sl false (.int .i64))) (.pair (.pair (.int .i64) (.pair (.int .i64) (.pair (.int .i64) .str))) (.sl false (.int .i64)))))), .cell (.int .i64)]⟩ B_spec_SafeKept_1)))))))
 (.reg none [.p (.mv 28 (.t 5)) .unit,
  .p (.bin 29 false .add (.t 28) (.c (.int .i64 1))) .unit,
  .p (.mv 5 (.t 29)) .unit])))
noncomputable def L_spec_SafeKept_2 : Nat → (List (Int × List (Int)) × List (Int × Bool × (Int × (Int × List (Int)) × List (Int × Int × Int × List UInt8) × List (Int) × List (List UInt8) × Int × Int × Int × Int × Int × Int × Int × Int × Int × List (Int)) × Int × Int × (Int × List (Int)) × List (Int × Int × Int × List (Int × Int × Int × List UInt8)) × List (Int × (Int × List (Int)) × (Int × Int × Int × List UInt8) × List (Int))) × List (Int × Int × Int × (Int × Int × Int × List UInt8) × (Int × Int × Int × Int × Int × List (Int)) × Int × Int × Int × List (Int × Int × Int × List UInt8)) × List (Int × (Int × List (Int)) × (Int × Int × Int × List UInt8) × List (Int))) × (Int) × (List (Int × (Int × List (Int)) × (Int × Int × Int × List UInt8) × List (Int))) × Int → Option (((List (Int × List (Int)) × List (Int × Bool × (Int × (Int × List (Int)) × List (Int × Int × Int × List UInt8) × List (Int) × List (List UInt8) × Int × Int × Int × Int × Int × Int × Int × Int × Int × List (Int)) × Int × Int × (Int × List (Int)) × List (Int × Int × Int × List (Int × Int × Int × List UInt8)) × List (Int × (Int × List (Int)) × (Int × Int × Int × List UInt8) × List (Int))) × List (Int × Int × Int × (Int × Int × Int × List UInt8) × (Int × Int × Int × Int × Int × List (Int)) × Int × Int × Int × List (Int × Int × Int × List UInt8)) × List (Int × (Int × List (Int)) × (Int × Int × Int × List UInt8) × List (Int))) × Int) ⊕ (Bool)) := evL [fn_spec_l16PartAt, fn_spec_l16Has] (finT [.t 2] [] [.cell .bool]) 2 ⟨[(1, false), (3, false), (4, false), (5, false)], [.box (.pair (.sl false (.pair (.int .i64) (.sl false (.int .i64)))) (.pair (.sl false (.pair (.int .i64) (.pair .bool (.pair (.pair (.int .i64) (.pair (.pair (.int .i64) (.sl false (.int .i64))) (.pair (.sl false (.pair (.int .i64) (.pair (.int .i64) (.pair (.int .i64) .str)))) (.pair (.sl false (.int .i64)) (.pair (.sl false .str) (.pair (.int .i64) (.pair (.int .i64) (.pair (.int .i64) (.pair (.int .i64) (.pair (.int .i64) (.pair (.int .i64) (.pair (.int .i64) (.pair (.int .i64) (.pair (.int .i64) (.sl false (.int .i64)))))))))))))))) (.pair (.int .i64) (.pair (.int .i64) (.pair (.pair (.int .i64) (.sl false (.int .i64))) (.pair (.sl false (.pair (.int .i64) (.pair (.int .i64) (.pair (.int .i64) (.sl false (.pair (.int .i64) (.pair (.int .i64) (.pair (.int .i64) .str)))))))) (.sl false (.pair (.int .i64) (.pair (.pair (.int .i64) (.sl false (.int .i64))) (.pair (.pair (.int .i64) (.pair (.int .i64) (.pair (.int .i64) .str))) (.sl false (.int .i64)))))))))))))) (.pair (.sl false (.pair (.int .i64) (.pair (.int .i64) (.pair (.int .i64) (.pair (.pair (.int .i64) (.pair (.int .i64) (.pair (.int .i64) .str))) (.pair (.pair (.int .i64) (.pair (.int .i64) (.pair (.int .i64) (.pair (.int .i64) (.pair (.int .i64) (.sl false (.int .i64))))))) (.pair (.int .i64) (.pair (.int .i64) (.pair (.int .i64) (.sl false (.pair (.int .i64) (.pair (.int .i64) (.pair (.int .i64) .str))))))))))))) (.sl false (.pair (.int .i64) (.pair (.pair (.int .i64) (.sl false (.int .i64))) (.pair (.pair (.int .i64) (.pair (.int .i64) (.pair (.int .i64) .str))) (.sl false (.int .i64))))))))), .cell (.int .i64), .cell (.sl false (.pair (.int .i64) (.pair (.pair (.int .i64) (.sl false (.int .i64))) (.pair (.pair (.int .i64) (.pair (.int .i64) (.pair (.int .i64) .str))) (.sl false (.int .i64)))))), .cell (.int .i64)]⟩ ⟨[(1, false), (3, false)], [.box (.pair (.sl false (.pair (.int .i64) (.sl false (.int .i64)))) (.pair (.sl false (.pair (.int .i64) (.pair .bool (.pair (.pair (.int .i64) (.pair (.pair (.int .i64) (.sl false (.int .i64))) (.pair (.sl false (.pair (.int .i64) (.pair (.int .i64) (.pair (.int .i64) .str)))) (.pair (.sl false (.int .i64)) (.pair (.sl false .str) (.pair (.int .i64) (.pair (.int .i64) (.pair (.int .i64) (.pair (.int .i64) (.pair (.int .i64) (.pair (.int .i64) (.pair (.int .i64) (.pair (.int .i64) (.pair (.int .i64) (.sl false (.int .i64)))))))))))))))) (.pair (.int .i64) (.pair (.int .i64) (.pair (.pair (.int .i64) (.sl false (.int .i64))) (.pair (.sl false (.pair (.int .i64) (.pair (.int .i64) (.pair (.int .i64) (.sl false (.pair (.int .i64) (.pair (.int .i64) (.pair (.int .i64) .str)))))))) (.sl false (.pair (.int .i64) (.pair (.pair (.int .i64) (.sl false (.int .i64))) (.pair (.pair (.int .i64) (.pair (.int .i64) (.pair (.int .i64) .str))) (.sl false (.int .i64)))))))))))))) (.pair (.sl false (.pair (.int .i64) (.pair (.int .i64) (.pair (.int .i64) (.pair (.pair (.int .i64) (.pair (.int .i64) (.pair (.int .i64) .str))) (.pair (.pair (.int .i64) (.pair (.int .i64) (.pair (.int .i64) (.pair (.int .i64) (.pair (.int .i64) (.sl false (.int .i64))))))) (.pair (.int .i64) (.pair (.int .i64) (.pair (.int .i64) (.sl false (.pair (.int .i64) (.pair (.int .i64) (.pair (.int .i64) .str))))))))))))) (.sl false (.pair (.int .i64) (.pair (.pair (.int .i64) (.sl false (.int .i64))) (.pair (.pair (.int .i64) (.pair (.int .i64) (.pair (.int .i64) .str))) (.sl false (.int .i64))))))))), .cell (.int .i64)]⟩ B_spec_SafeKept_2
def B_spec_SafeKept_3 : TC := (.seq (.seq (.reg none [.p (.mv 11 (.t 3)) .unit,
  .p (.fadr 12 (.t 1) 1) .unit,
  .p (.load 13 (.t 12) 1 false) .unit,
  .p (.lenB 14 (.t 13)) .unit,
  .p (.bin 15 false .lss (.t 11) (.t 14)) .unit])
 (.cond (.t 15) .skip (.exit 0)))
 (.seq (.block 1 (.seq (.reg none [.p (.fadr 18 (.t 1) 1) .unit,
  .p (.load 19 (.t 18) 1 false) .unit,
  .p (.mv 20 (.t 3)) .unit,
  .p (.iadr 21 24 (.t 19) (.t 20)) .unit,
  .p (.fadr 22 (.t 21) 23) .unit,
  .p (.load 23 (.t 22) 1 false) .unit,
  .p (.mv 4 (.t 23)) .unit])
 (.seq (.reg none [.p (.mv 5 (.c (.int .i64 0))) .unit])
 (.jl 2 ⟨[(1, false), (3, false), (4, false), (5, false)], [.box (.pair (.sl false (.pair (.int .i64) (.sl false (.int .i64)))) (.pair (.sl false (.pair (.int .i64) (.pair .bool (.pair (.pair (.int .i64) (.pair (.pair (.int .i64) (.sl false (.int .i64))) (.pair (.sl false (.pair (.int .i64) (.pair (.int .i64) (.pair (.int .i64) .str)))) (.pair (.sl false (.int .i64)) (.pair (.sl false .str) (.pair (.int .i64) (.pair (.int .i64) (.pair (.int .i64) (.pair (.int .i64) (.pair (.int .i64) (.pair (.int .i64) (.pair (.int .i64) (.pair (.int .i64) (.pair (.int .i64) (.sl false (.int .i64)))))))))))))))) (.pair (.int .i64) (.pair (.int .i64) (.pair (.pair (.int .i64) (.sl false (.int .i64))) (.pair (.sl false (.pair (.int .i64) (.pair (.int .i64) (.pair (.int .i64) (.sl false (.pair (.int .i64) (.pair (.int .i64) (.pair (.int .i64) .str)))))))) (.sl false (.pair (.int .i64) (.pair (.pair (.int .i64) (.sl false (.int .i64))) (.pair (.pair (.int .i64) (.pair (.int .i64) (.pair (.int .i64) .str))) (.sl false (.int .i64)))))))))))))) (.pair (.sl false (.pair (.int .i64) (.pair (.int .i64) (.pair (.int .i64) (.pair (.pair (.int .i64) (.pair (.int .i64) (.pair (.int .i64) .str))) (.pair (.pair (.int .i64) (.pair (.int .i64) (.pair (.int .i64) (.pair (.int .i64) (.pair (.int .i64) (.sl false (.int .i64))))))) (.pair (.int .i64) (.pair (.int .i64) (.pair (.int .i64) (.sl false (.pair (.int .i64) (.pair (.int .i64) (.pair (.int .i64) .str))))))))))))) (.sl false (.pair (.int .i64) (.pair (.pair (.int .i64) (.sl false (.int .i64))) (.pair (.pair (.int .i64) (.pair (.int .i64) (.pair (.int .i64) .str))) (.sl false (.int .i64))))))))), .cell (.int .i64), .cell (.sl false (.pair (.int .i64) (.pair (.pair (.int .i64) (.sl false (.int .i64))) (.pair (.pair (.int .i64) (.pair (.int .i64) (.pair (.int .i64) .str))) (.sl false (.int .i64)))))), .cell (.int .i64)]⟩ ⟨[(1, false), (3, false)], [.box (.pair (.sl false (.pair (.int .i64) (.sl false (.int .i64)))) (.pair (.sl false (.pair (.int .i64) (.pair .bool (.pair (.pair (.int .i64) (.pair (.pair (.int .i64) (.sl false (.int .i64))) (.pair (.sl false (.pair (.int .i64) (.pair (.int .i64) (.pair (.int .i64) .str)))) (.pair (.sl false (.int .i64)) (.pair (.sl false .str) (.pair (.int .i64) (.pair (.int .i64) (.pair (.int .i64) (.pair (.int .i64) (.pair (.int .i64) (.pair (.int .i64) (.pair (.int .i64) (.pair (.int .i64) (.pair (.int .i64) (.sl false (.int .i64)))))))))))))))) (.pair (.int .i64) (.pair (.int .i64) (.pair (.pair (.int .i64) (.sl false (.int .i64))) (.pair (.sl false (.pair (.int .i64) (.pair (.int .i64) (.pair (.int .i64) (.sl false (.pair (.int .i64) (.pair (.int .i64) (.pair (.int .i64) .str)))))))) (.sl false (.pair (.int .i64) (.pair (.pair (.int .i64) (.sl false (.int .i64))) (.pair (.pair (.int .i64) (.pair (.int .i64) (.pair (.int .i64) .str))) (.sl false (.int .i64)))))))))))))) (.pair (.sl false (.pair (.int .i64) (.pair (.int .i64) (.pair (.int .i64) (.pair (.pair (.int .i64) (.pair (.int .i64) (.pair (.int .i64) .str))) (.pair (.pair (.int .i64) (.pair (.int .i64) (.pair (.int .i64) (.pair (.int .i64) (.pair (.int .i64) (.sl false (.int .i64))))))) (.pair (.int .i64) (.pair (.int .i64) (.pair (.int .i64) (.sl false (.pair (.int .i64) (.pair (.int .i64) (.pair (.int .i64) .str))))))))))))) (.sl false (.pair (.int .i64) (.pair (.pair (.int .i64) (.sl false (.int .i64))) (.pair (.pair (.int .i64) (.pair (.int .i64) (.pair (.int .i64) .str))) (.sl false (.int .i64))))))))), .cell (.int .i64)]⟩ B_spec_SafeKept_2))))
 (.reg none [.p (.mv 16 (.t 3)) .unit,
  .p (.bin 17 false .add (.t 16) (.c (.int .i64 1))) .unit,
  .p (.mv 3 (.t 17)) .unit])))
noncomputable def L_spec_SafeKept_3 : Nat → (List (Int × List (Int)) × List (Int × Bool × (Int × (Int × List (Int)) × List (Int × Int × Int × List UInt8) × List (Int) × List (List UInt8) × Int × Int × Int × Int × Int × Int × Int × Int × Int × List (Int)) × Int × Int × (Int × List (Int)) × List (Int × Int × Int × List (Int × Int × Int × List UInt8)) × List (Int × (Int × List (Int)) × (Int × Int × Int × List UInt8) × List (Int))) × List (Int × Int × Int × (Int × Int × Int × List UInt8) × (Int × Int × Int × Int × Int × List (Int)) × Int × Int × Int × List (Int × Int × Int × List UInt8)) × List (Int × (Int × List (Int)) × (Int × Int × Int × List UInt8) × List (Int))) × Int → Option ((Unit) ⊕ (Bool)) := evL [fn_spec_l16PartAt, fn_spec_l16Has] (finT [.t 2] [] [.cell .bool]) 0 ⟨[(1, false), (3, false)], [.box (.pair (.sl false (.pair (.int .i64) (.sl false (.int .i64)))) (.pair (.sl false (.pair (.int .i64) (.pair .bool (.pair (.pair (.int .i64) (.pair (.pair (.int .i64) (.sl false (.int .i64))) (.pair (.sl false (.pair (.int .i64) (.pair (.int .i64) (.pair (.int .i64) .str)))) (.pair (.sl false (.int .i64)) (.pair (.sl false .str) (.pair (.int .i64) (.pair (.int .i64) (.pair (.int .i64) (.pair (.int .i64) (.pair (.int .i64) (.pair (.int .i64) (.pair (.int .i64) (.pair (.int .i64) (.pair (.int .i64) (.sl false (.int .i64)))))))))))))))) (.pair (.int .i64) (.pair (.int .i64) (.pair (.pair (.int .i64) (.sl false (.int .i64))) (.pair (.sl false (.pair (.int .i64) (.pair (.int .i64) (.pair (.int .i64) (.sl false (.pair (.int .i64) (.pair (.int .i64) (.pair (.int .i64) .str)))))))) (.sl false (.pair (.int .i64) (.pair (.pair (.int .i64) (.sl false (.int .i64))) (.pair (.pair (.int .i64) (.pair (.int .i64) (.pair (.int .i64) .str))) (.sl false (.int .i64)))))))))))))) (.pair (.sl false (.pair (.int .i64) (.pair (.int .i64) (.pair (.int .i64) (.pair (.pair (.int .i64) (.pair (.int .i64) (.pair (.int .i64) .str))) (.pair (.pair (.int .i64) (.pair (.int .i64) (.pair (.int .i64) (.pair (.int .i64) (.pair (.int .i64) (.sl false (.int .i64))))))) (.pair (.int .i64) (.pair (.int .i64) (.pair (.int .i64) (.sl false (.pair (.int .i64) (.pair (.int .i64) (.pair (.int .i64) .str))))))))))))) (.sl false (.pair (.int .i64) (.pair (.pair (.int .i64) (.sl false (.int .i64))) (.pair (.pair (.int .i64) (.pair (.int .i64) (.pair (.int .i64) .str))) (.sl false (.int .i64))))))))), .cell (.int .i64)]⟩ ⟨[], []⟩ B_spec_SafeKept_3
def F_spec_SafeKept : TF := ⟨(.seq (.reg none [.p (.box 1 (.t 0)) .unit,
  .p (.mv 2 (.c (.bool false))) .unit])
 (.seq (.seq (.reg none [.p (.mv 3 (.c (.int .i64 0))) .unit])
 (.jl 0 ⟨[(1, false), (3, false)], [.box (.pair (.sl false (.pair (.int .i64) (.sl false (.int .i64)))) (.pair (.sl false (.pair (.int .i64) (.pair .bool (.pair (.pair (.int .i64) (.pair (.pair (.int .i64) (.sl false (.int .i64))) (.pair (.sl false (.pair (.int .i64) (.pair (.int .i64) (.pair (.int .i64) .str)))) (.pair (.sl false (.int .i64)) (.pair (.sl false .str) (.pair (.int .i64) (.pair (.int .i64) (.pair (.int .i64) (.pair (.int .i64) (.pair (.int .i64) (.pair (.int .i64) (.pair (.int .i64) (.pair (.int .i64) (.pair (.int .i64) (.sl false (.int .i64)))))))))))))))) (.pair (.int .i64) (.pair (.int .i64) (.pair (.pair (.int .i64) (.sl false (.int .i64))) (.pair (.sl false (.pair (.int .i64) (.pair (.int .i64) (.pair (.int .i64) (.sl false (.pair (.int .i64) (.pair (.int .i64) (.pair (.int .i64) .str)))))))) (.sl false (.pair (.int .i64) (.pair (.pair (.int .i64) (.sl false (.int .i64))) (.pair (.pair (.int .i64) (.pair (.int .i64) (.pair (.int .i64) .str))) (.sl false (.int .i64)))))))))))))) (.pair (.sl false (.pair (.int .i64) (.pair (.int .i64) (.pair (.int .i64) (.pair (.pair (.int .i64) (.pair (.int .i64) (.pair (.int .i64) .str))) (.pair (.pair (.int .i64) (.pair (.int .i64) (.pair (.int .i64) (.pair (.int .i64) (.pair (.int .i64) (.sl false (.int .i64))))))) (.pair (.int .i64) (.pair (.int .i64) (.pair (.int .i64) (.sl false (.pair (.int .i64) (.pair (.int .i64) (.pair (.int .i64) .str))))))))))))) (.sl false (.pair (.int .i64) (.pair (.pair (.int .i64) (.sl false (.int .i64))) (.pair (.pair (.int .i64) (.pair (.int .i64) (.pair (.int .i64) .str))) (.sl false (.int .i64))))))))), .cell (.int .i64)]⟩ ⟨[], []⟩ B_spec_SafeKept_3))
 (.seq (.reg none [.p (.mv 2 (.c (.bool true))) .unit])
 .ret))),
 93, 1, [.t 2]⟩
theorem m_spec_SafeKept : mH Try.prog 10 [] = some (F_spec_SafeKept.code.x, F_spec_SafeKept.N, F_spec_SafeKept.np, F_spec_SafeKept.res) := by kernel_rfl
noncomputable def T_spec_SafeKept : List (Int × List (Int)) × List (Int × Bool × (Int × (Int × List (Int)) × List (Int × Int × Int × List UInt8) × List (Int) × List (List UInt8) × Int × Int × Int × Int × Int × Int × Int × Int × Int × List (Int)) × Int × Int × (Int × List (Int)) × List (Int × Int × Int × List (Int × Int × Int × List UInt8)) × List (Int × (Int × List (Int)) × (Int × Int × Int × List UInt8) × List (Int))) × List (Int × Int × Int × (Int × Int × Int × List UInt8) × (Int × Int × Int × Int × Int × List (Int)) × Int × Int × Int × List (Int × Int × Int × List UInt8)) × List (Int × (Int × List (Int)) × (Int × Int × Int × List UInt8) × List (Int)) → Option (Bool) := evF [fn_spec_l16PartAt, fn_spec_l16Has] F_spec_SafeKept [.agg (.pair (.sl false (.pair (.int .i64) (.sl false (.int .i64)))) (.pair (.sl false (.pair (.int .i64) (.pair .bool (.pair (.pair (.int .i64) (.pair (.pair (.int .i64) (.sl false (.int .i64))) (.pair (.sl false (.pair (.int .i64) (.pair (.int .i64) (.pair (.int .i64) .str)))) (.pair (.sl false (.int .i64)) (.pair (.sl false .str) (.pair (.int .i64) (.pair (.int .i64) (.pair (.int .i64) (.pair (.int .i64) (.pair (.int .i64) (.pair (.int .i64) (.pair (.int .i64) (.pair (.int .i64) (.pair (.int .i64) (.sl false (.int .i64)))))))))))))))) (.pair (.int .i64) (.pair (.int .i64) (.pair (.pair (.int .i64) (.sl false (.int .i64))) (.pair (.sl false (.pair (.int .i64) (.pair (.int .i64) (.pair (.int .i64) (.sl false (.pair (.int .i64) (.pair (.int .i64) (.pair (.int .i64) .str)))))))) (.sl false (.pair (.int .i64) (.pair (.pair (.int .i64) (.sl false (.int .i64))) (.pair (.pair (.int .i64) (.pair (.int .i64) (.pair (.int .i64) .str))) (.sl false (.int .i64)))))))))))))) (.pair (.sl false (.pair (.int .i64) (.pair (.int .i64) (.pair (.int .i64) (.pair (.pair (.int .i64) (.pair (.int .i64) (.pair (.int .i64) .str))) (.pair (.pair (.int .i64) (.pair (.int .i64) (.pair (.int .i64) (.pair (.int .i64) (.pair (.int .i64) (.sl false (.int .i64))))))) (.pair (.int .i64) (.pair (.int .i64) (.pair (.int .i64) (.sl false (.pair (.int .i64) (.pair (.int .i64) (.pair (.int .i64) .str))))))))))))) (.sl false (.pair (.int .i64) (.pair (.pair (.int .i64) (.sl false (.int .i64))) (.pair (.pair (.int .i64) (.pair (.int .i64) (.pair (.int .i64) .str))) (.sl false (.int .i64)))))))))] [] [.cell .bool] []
noncomputable def fn_spec_SafeKept : TFn := ⟨10, [.agg (.pair (.sl false (.pair (.int .i64) (.sl false (.int .i64)))) (.pair (.sl false (.pair (.int .i64) (.pair .bool (.pair (.pair (.int .i64) (.pair (.pair (.int .i64) (.sl false (.int .i64))) (.pair (.sl false (.pair (.int .i64) (.pair (.int .i64) (.pair (.int .i64) .str)))) (.pair (.sl false (.int .i64)) (.pair (.sl false .str) (.pair (.int .i64) (.pair (.int .i64) (.pair (.int .i64) (.pair (.int .i64) (.pair (.int .i64) (.pair (.int .i64) (.pair (.int .i64) (.pair (.int .i64) (.pair (.int .i64) (.sl false (.int .i64)))))))))))))))) (.pair (.int .i64) (.pair (.int .i64) (.pair (.pair (.int .i64) (.sl false (.int .i64))) (.pair (.sl false (.pair (.int .i64) (.pair (.int .i64) (.pair (.int .i64) (.sl false (.pair (.int .i64) (.pair (.int .i64) (.pair (.int .i64) .str)))))))) (.sl false (.pair (.int .i64) (.pair (.pair (.int .i64) (.sl false (.int .i64))) (.pair (.pair (.int .i64) (.pair (.int .i64) (.pair (.int .i64) .str))) (.sl false (.int .i64)))))))))))))) (.pair (.sl false (.pair (.int .i64) (.pair (.int .i64) (.pair (.int .i64) (.pair (.pair (.int .i64) (.pair (.int .i64) (.pair (.int .i64) .str))) (.pair (.pair (.int .i64) (.pair (.int .i64) (.pair (.int .i64) (.pair (.int .i64) (.pair (.int .i64) (.sl false (.int .i64))))))) (.pair (.int .i64) (.pair (.int .i64) (.pair (.int .i64) (.sl false (.pair (.int .i64) (.pair (.int .i64) (.pair (.int .i64) .str))))))))))))) (.sl false (.pair (.int .i64) (.pair (.pair (.int .i64) (.sl false (.int .i64))) (.pair (.pair (.int .i64) (.pair (.int .i64) (.pair (.int .i64) .str))) (.sl false (.int .i64)))))))))], [], [.cell .bool], [], T_spec_SafeKept⟩
theorem ok_spec_SafeKept : FnOk Try.prog fn_spec_SafeKept := evF_ok mixed (allOk_cons ok_spec_l16PartAt (allOk_cons ok_spec_l16Has allOk_nil)) m_spec_SafeKept (by decide)
def F_impl_partOf_1 : TF := ⟨(.seq (.reg none [.p (.box 2 (.t 0)) .unit,
  .p (.mv 3 (.c (.bool false))) .unit])
 (.seq (.reg none [.p (.fadr 4 (.t 2) 0) .unit,
  .p (.load 5 (.t 4) 1 false) .unit,
  .p (.bin 6 false .eql (.t 5) (.c (.int .i64 2))) .unit,
  .p (.mv 7 (.t 6)) .unit,
  .g 7 true (some 8) (.fadr 8 (.t 2) 1) .unit,
  .g 7 true (some 9) (.fadr 9 (.t 8) 0) .unit,
  .g 7 true (some 10) (.load 10 (.t 9) 1 false) .unit,
  .g 7 true (some 11) (.load 11 (.t 1) 1 false) .unit,
  .g 7 true (some 12) (.bin 12 false .eql (.t 10) (.t 11)) .unit,
  .p (.pick 13 (.t 7) (.t 12) (.c (.bool false))) .unit,
  .p (.mv 3 (.t 13)) .unit])
 .ret)),
 14, 2, [.t 3]⟩
theorem m_impl_partOf_1 : mH Try.prog 43 [] = some (F_impl_partOf_1.code.x, F_impl_partOf_1.N, F_impl_partOf_1.np, F_impl_partOf_1.res) := by kernel_rfl
noncomputable def T_impl_partOf_1 : (Int × (Int × List (Int)) × (Int × Int × Int × List UInt8) × List (Int)) × Int → Option (Bool) := evF [] F_impl_partOf_1 [.agg (.pair (.int .i64) (.pair (.pair (.int .i64) (.sl false (.int .i64))) (.pair (.pair (.int .i64) (.pair (.int .i64) (.pair (.int .i64) .str))) (.sl false (.int .i64))))), .rp (.int .i64)] [] [.cell .bool] []
noncomputable def fn_impl_partOf_1 : TFn := ⟨43, [.agg (.pair (.int .i64) (.pair (.pair (.int .i64) (.sl false (.int .i64))) (.pair (.pair (.int .i64) (.pair (.int .i64) (.pair (.int .i64) .str))) (.sl false (.int .i64))))), .rp (.int .i64)], [], [.cell .bool], [], T_impl_partOf_1⟩
theorem ok_impl_partOf_1 : FnOk Try.prog fn_impl_partOf_1 := evF_ok mixed allOk_nil m_impl_partOf_1 (by decide)
def B_slices_IndexFunc___impl_Event_impl_Event___impl_partOf_1_1 : TC := (.seq (.reg none [.p (.bin 9 false .lss (.t 8) (.t 7)) .unit])
 (.seq (.cond (.t 9) .skip (.exit 0))
 (.seq (.block 1 (.seq (.reg none [.p (.mv 10 (.t 8)) .unit,
  .p (.mv 5 (.t 10)) .unit])
 (.seq (.reg none [.p (.mv 11 (.t 1)) .unit,
  .p (.mv 12 (.t 0)) .unit,
  .p (.mv 13 (.t 5)) .unit,
  .p (.iadr 14 8 (.t 12) (.t 13)) .unit,
  .p (.load 15 (.t 14) 8 true) .unit,
  .p (.callF 16 (.t 11) [(.t 15)]) .unit])
 (.cond (.t 16) (.seq (.reg none [.p (.mv 17 (.t 5)) .unit,
  .p (.mv 4 (.t 17)) .unit])
 .ret) .skip))))
 (.reg none [.p (.bin 18 false .add (.t 8) (.c (.int .i64 1))) .unit,
  .p (.mv 8 (.t 18)) .unit]))))
noncomputable def L_slices_IndexFunc___impl_Event_impl_Event___impl_partOf_1_1 : Nat → (List (Int × (Int × List (Int)) × (Int × Int × Int × List UInt8) × List (Int))) × (Int) × (Int) × Int → Option ((Unit) ⊕ (Int)) := evL [fn_impl_partOf_1] (finT [.t 4] [] [.cell (.int .i64)]) 0 ⟨[(0, true), (1, true), (7, false), (8, false)], [.cell (.sl false (.pair (.int .i64) (.pair (.pair (.int .i64) (.sl false (.int .i64))) (.pair (.pair (.int .i64) (.pair (.int .i64) (.pair (.int .i64) .str))) (.sl false (.int .i64)))))), .cell (.fn 43 (.rp (.int .i64))), .cell (.int .i64), .cell (.int .i64)]⟩ ⟨[], []⟩ B_slices_IndexFunc___impl_Event_impl_Event___impl_partOf_1_1
def F_slices_IndexFunc___impl_Event_impl_Event___impl_partOf_1 : TF := ⟨(.seq (.reg none [.p (.mv 4 (.c (.int .i64 0))) .unit])
 (.seq (.seq (.reg none [.p (.mv 6 (.t 0)) .unit,
  .p (.lenB 7 (.t 6)) .unit,
  .p (.mv 8 (.c (.int .i64 0))) .unit])
 (.jl 0 ⟨[(0, true), (1, true), (7, false), (8, false)], [.cell (.sl false (.pair (.int .i64) (.pair (.pair (.int .i64) (.sl false (.int .i64))) (.pair (.pair (.int .i64) (.pair (.int .i64) (.pair (.int .i64) .str))) (.sl false (.int .i64)))))), .cell (.fn 43 (.rp (.int .i64))), .cell (.int .i64), .cell (.int .i64)]⟩ ⟨[], []⟩ B_slices_IndexFunc___impl_Event_impl_Event___impl_partOf_1_1))
 (.seq (.reg none [.p (.mv 4 (.c (.int .i64 (-1)))) .unit])
 .ret))),
 19, 2, [.t 4]⟩
theorem m_slices_IndexFunc___impl_Event_impl_Event___impl_partOf_1 : mH Try.prog 42 [] = some (F_slices_IndexFunc___impl_Event_impl_Event___impl_partOf_1.code.x, F_slices_IndexFunc___impl_Event_impl_Event___impl_partOf_1.N, F_slices_IndexFunc___impl_Event_impl_Event___impl_partOf_1.np, F_slices_IndexFunc___impl_Event_impl_Event___impl_partOf_1.res) := by kernel_rfl
noncomputable def T_slices_IndexFunc___impl_Event_impl_Event___impl_partOf_1 : (List (Int × (Int × List (Int)) × (Int × Int × Int × List UInt8) × List (Int))) × Int → Option (Int) := evF [fn_impl_partOf_1] F_slices_IndexFunc___impl_Event_impl_Event___impl_partOf_1 [.cell (.sl false (.pair (.int .i64) (.pair (.pair (.int .i64) (.sl false (.int .i64))) (.pair (.pair (.int .i64) (.pair (.int .i64) (.pair (.int .i64) .str))) (.sl false (.int .i64)))))), .cell (.fn 43 (.rp (.int .i64)))] [] [.cell (.int .i64)] []
noncomputable def fn_slices_IndexFunc___impl_Event_impl_Event___impl_partOf_1 : TFn := ⟨42, [.cell (.sl false (.pair (.int .i64) (.pair (.pair (.int .i64) (.sl false (.int .i64))) (.pair (.pair (.int .i64) (.pair (.int .i64) (.pair (.int .i64) .str))) (.sl false (.int .i64)))))), .cell (.fn 43 (.rp (.int .i64)))], [], [.cell (.int .i64)], [], T_slices_IndexFunc___impl_Event_impl_Event___impl_partOf_1⟩
theorem ok_slices_IndexFunc___impl_Event_impl_Event___impl_partOf_1 : FnOk Try.prog fn_slices_IndexFunc___impl_Event_impl_Event___impl_partOf_1 := evF_ok mixed (allOk_cons ok_impl_partOf_1 allOk_nil) m_slices_IndexFunc___impl_Event_impl_Event___impl_partOf_1 (by decide)
def F_impl_partOf : TF := ⟨(.seq (.reg none [.p (.boxZ 3 (.t 1)) .unit,
  .p (.mv 4 (.c (.int .i64 0))) .unit])
 (.seq (.reg none [.p (.mv 5 (.t 0)) .unit,
  .p (.mkF 6 43 [(.t 3)]) .unit,
  .p (.callB 7 n_slices_IndexFunc___impl_Event_impl_Event_ [((.t 5), 0), ((.t 6), 0)]) .unit,
  .p (.mv 4 (.t 7)) .unit])
 .ret)),
 8, 2, [.t 4]⟩
theorem m_impl_partOf : mH Try.prog 28 [(0, 0, .z)] = some (F_impl_partOf.code.x, F_impl_partOf.N, F_impl_partOf.np, F_impl_partOf.res) := by kernel_rfl
noncomputable def T_impl_partOf : (List (Int × (Int × List (Int)) × (Int × Int × Int × List UInt8) × List (Int))) × Int → Option (Int) := evF [fn_impl_partOf_1, fn_slices_IndexFunc___impl_Event_impl_Event___impl_partOf_1] F_impl_partOf [.cell (.sl false (.pair (.int .i64) (.pair (.pair (.int .i64) (.sl false (.int .i64))) (.pair (.pair (.int .i64) (.pair (.int .i64) (.pair (.int .i64) .str))) (.sl false (.int .i64)))))), .cell (.int .i64)] [] [.cell (.int .i64)] []
noncomputable def fn_impl_partOf : TFn := ⟨28, [.cell (.sl false (.pair (.int .i64) (.pair (.pair (.int .i64) (.sl false (.int .i64))) (.pair (.pair (.int .i64) (.pair (.int .i64) (.pair (.int .i64) .str))) (.sl false (.int .i64)))))), .cell (.int .i64)], [], [.cell (.int .i64)], [], T_impl_partOf⟩
theorem ok_impl_partOf : FnOk Try.prog fn_impl_partOf := evF_ok mixed (allOk_cons ok_impl_partOf_1 (allOk_cons ok_slices_IndexFunc___impl_Event_impl_Event___impl_partOf_1 allOk_nil)) m_impl_partOf (by decide)
def B_impl_uptoWhole_1 : TC := (.seq (.seq (.reg none [.p (.mv 7 (.t 5)) .unit,
  .p (.mv 8 (.t 0)) .unit,
  .p (.lenB 9 (.t 8)) .unit,
  .p (.bin 10 false .lss (.t 7) (.t 9)) .unit])
 (.cond (.t 10) .skip (.exit 0)))
 (.seq (.block 1 (.seq (.reg none [.p (.mv 13 (.t 0)) .unit,
  .p (.mv 14 (.t 5)) .unit,
  .p (.iadr 15 8 (.t 13) (.t 14)) .unit,
  .p (.fadr 16 (.t 15) 0) .unit,
  .p (.load 17 (.t 16) 1 false) .unit,
  .p (.bin 18 false .eql (.t 17) (.c (.int .i64 3))) .unit])
 (.cond (.t 18) (.seq (.reg none [.p (.mv 19 (.t 0)) .unit,
  .p (.mv 20 (.t 5)) .unit,
  .p (.cutS 21 8 (.t 19) none (some (.t 20))) .unit,
  .p (.mv 4 (.t 21)) .unit])
 .ret) .skip)))
 (.reg none [.p (.mv 11 (.t 5)) .unit,
  .p (.bin 12 false .add (.t 11) (.c (.int .i64 1))) .unit,
  .p (.mv 5 (.t 12)) .unit])))
noncomputable def L_impl_uptoWhole_1 : Nat → (List (Int × (Int × List (Int)) × (Int × Int × Int × List UInt8) × List (Int))) × Int → Option ((List (Int × (Int × List (Int)) × (Int × Int × Int × List UInt8) × List (Int))) ⊕ (List (Int × (Int × List (Int)) × (Int × Int × Int × List UInt8) × List (Int)))) := evL [] (finT [.t 4] [] [.cell (.sl false (.pair (.int .i64) (.pair (.pair (.int .i64) (.sl false (.int .i64))) (.pair (.pair (.int .i64) (.pair (.int .i64) (.pair (.int .i64) .str))) (.sl false (.int .i64))))))]) 0 ⟨[(0, true), (5, false)], [.cell (.sl false (.pair (.int .i64) (.pair (.pair (.int .i64) (.sl false (.int .i64))) (.pair (.pair (.int .i64) (.pair (.int .i64) (.pair (.int .i64) .str))) (.sl false (.int .i64)))))), .cell (.int .i64)]⟩ ⟨[(0, true)], [.cell (.sl false (.pair (.int .i64) (.pair (.pair (.int .i64) (.sl false (.int .i64))) (.pair (.pair (.int .i64) (.pair (.int .i64) (.pair (.int .i64) .str))) (.sl false (.int .i64))))))]⟩ B_impl_uptoWhole_1
def F_impl_uptoWhole : TF := ⟨(.seq (.reg none [.p (.mvN 4 8) .unit])
 (.seq (.seq (.reg none [.p (.mv 6 (.t 1)) .unit,
  .p (.mv 5 (.t 6)) .unit])
 (.jl 0 ⟨[(0, true), (5, false)], [.cell (.sl false (.pair (.int .i64) (.pair (.pair (.int .i64) (.sl false (.int .i64))) (.pair (.pair (.int .i64) (.pair (.int .i64) (.pair (.int .i64) .str))) (.sl false (.int .i64)))))), .cell (.int .i64)]⟩ ⟨[(0, true)], [.cell (.sl false (.pair (.int .i64) (.pair (.pair (.int .i64) (.sl false (.int .i64))) (.pair (.pair (.int .i64) (.pair (.int .i64) (.pair (.int .i64) .str))) (.sl false (.int .i64))))))]⟩ B_impl_uptoWhole_1))
 (.seq (.reg none [.p (.mv 22 (.t 0)) .unit,
  .p (.mv 4 (.t 22)) .unit])
 .ret))),
 23, 2, [.t 4]⟩
theorem m_impl_uptoWhole : mH Try.prog 45 [] = some (F_impl_uptoWhole.code.x, F_impl_uptoWhole.N, F_impl_uptoWhole.np, F_impl_uptoWhole.res) := by kernel_rfl
noncomputable def T_impl_uptoWhole : (List (Int × (Int × List (Int)) × (Int × Int × Int × List UInt8) × List (Int))) × Int → Option (List (Int × (Int × List (Int)) × (Int × Int × Int × List UInt8) × List (Int))) := evF [] F_impl_uptoWhole [.cell (.sl false (.pair (.int .i64) (.pair (.pair (.int .i64) (.sl false (.int .i64))) (.pair (.pair (.int .i64) (.pair (.int .i64) (.pair (.int .i64) .str))) (.sl false (.int .i64)))))), .cell (.int .i64)] [] [.cell (.sl false (.pair (.int .i64) (.pair (.pair (.int .i64) (.sl false (.int .i64))) (.pair (.pair (.int .i64) (.pair (.int .i64) (.pair (.int .i64) .str))) (.sl false (.int .i64))))))] []
noncomputable def fn_impl_uptoWhole : TFn := ⟨45, [.cell (.sl false (.pair (.int .i64) (.pair (.pair (.int .i64) (.sl false (.int .i64))) (.pair (.pair (.int .i64) (.pair (.int .i64) (.pair (.int .i64) .str))) (.sl false (.int .i64)))))), .cell (.int .i64)], [], [.cell (.sl false (.pair (.int .i64) (.pair (.pair (.int .i64) (.sl false (.int .i64))) (.pair (.pair (.int .i64) (.pair (.int .i64) (.pair (.int .i64) .str))) (.sl false (.int .i64))))))], [], T_impl_uptoWhole⟩
theorem ok_impl_uptoWhole : FnOk Try.prog fn_impl_uptoWhole := evF_ok mixed allOk_nil m_impl_uptoWhole (by decide)
def F_impl_sameItem : TF := ⟨(.seq (.reg none [.p (.box 2 (.t 0)) .unit,
  .p (.box 3 (.t 1)) .unit,
  .p (.mv 4 (.c (.bool false))) .unit])
 (.seq (.reg none [.p (.fadr 5 (.t 2) 0) .unit,
  .p (.load 6 (.t 5) 1 false) .unit,
  .p (.bin 7 false .eql (.t 6) (.c (.int .i64 1))) .unit,
  .p (.mv 8 (.t 7)) .unit,
  .g 8 true (some 9) (.fadr 9 (.t 3) 0) .unit,
  .g 8 true (some 10) (.load 10 (.t 9) 1 false) .unit,
  .g 8 true (some 11) (.bin 11 false .eql (.t 10) (.c (.int .i64 1))) .unit,
  .p (.pick 12 (.t 8) (.t 11) (.c (.bool false))) .unit,
  .p (.mv 13 (.t 12)) .unit,
  .g 13 true (some 14) (.fadr 14 (.t 2) 1) .unit,
  .g 13 true (some 15) (.fadr 15 (.t 14) 0) .unit,
  .g 13 true (some 16) (.load 16 (.t 15) 1 false) .unit,
  .g 13 true (some 17) (.fadr 17 (.t 3) 1) .unit,
  .g 13 true (some 18) (.fadr 18 (.t 17) 0) .unit,
  .g 13 true (some 19) (.load 19 (.t 18) 1 false) .unit,
  .g 13 true (some 20) (.bin 20 false .eql (.t 16) (.t 19)) .unit,
  .p (.pick 21 (.t 13) (.t 20) (.c (.bool false))) .unit,
  .p (.mv 22 (.t 21)) .unit,
  .g 22 true (some 23) (.fadr 23 (.t 2) 3) .unit,
  .g 22 true (some 24) (.load 24 (.t 23) 4 true) .unit,
  .g 22 true (some 25) (.fadr 25 (.t 3) 3) .unit,
  .g 22 true (some 26) (.load 26 (.t 25) 4 true) .unit,
  .g 22 true (some 27) (.eqA 27 false [0, 0, 0, 1] (.t 24) (.t 26)) .unit,
  .p (.pick 28 (.t 22) (.t 27) (.c (.bool false))) .unit,
  .p (.mv 4 (.t 28)) .unit])
 .ret)),
 29, 2, [.t 4]⟩
theorem m_impl_sameItem : mH Try.prog 66 [] = some (F_impl_sameItem.code.x, F_impl_sameItem.N, F_impl_sameItem.np, F_impl_sameItem.res) := by kernel_rfl
noncomputable def T_impl_sameItem : (Int × (Int × List (Int)) × (Int × Int × Int × List UInt8) × List (Int)) × Int × (Int × List (Int)) × (Int × Int × Int × List UInt8) × List (Int) → Option (Bool) := evF [] F_impl_sameItem [.agg (.pair (.int .i64) (.pair (.pair (.int .i64) (.sl false (.int .i64))) (.pair (.pair (.int .i64) (.pair (.int .i64) (.pair (.int .i64) .str))) (.sl false (.int .i64))))), .agg (.pair (.int .i64) (.pair (.pair (.int .i64) (.sl false (.int .i64))) (.pair (.pair (.int .i64) (.pair (.int .i64) (.pair (.int .i64) .str))) (.sl false (.int .i64)))))] [] [.cell .bool] []
noncomputable def fn_impl_sameItem : TFn := ⟨66, [.agg (.pair (.int .i64) (.pair (.pair (.int .i64) (.sl false (.int .i64))) (.pair (.pair (.int .i64) (.pair (.int .i64) (.pair (.int .i64) .str))) (.sl false (.int .i64))))), .agg (.pair (.int .i64) (.pair (.pair (.int .i64) (.sl false (.int .i64))) (.pair (.pair (.int .i64) (.pair (.int .i64) (.pair (.int .i64) .str))) (.sl false (.int .i64)))))], [], [.cell .bool], [], T_impl_sameItem⟩
theorem ok_impl_sameItem : FnOk Try.prog fn_impl_sameItem := evF_ok mixed allOk_nil m_impl_sameItem (by decide)
def F_impl_hasItem_1 : TF := ⟨(.seq (.reg none [.p (.box 2 (.t 0)) .unit,
  .p (.mv 3 (.c (.bool false))) .unit])
 (.seq (.reg none [.p (.load 4 (.t 2) 8 true) .unit,
  .p (.load 5 (.t 1) 8 true) .unit,
  .p (.callB 6 n_impl_sameItem [((.t 4), 0), ((.t 5), 0)]) .unit,
  .p (.mv 3 (.t 6)) .unit])
 .ret)),
 7, 2, [.t 3]⟩
theorem m_impl_hasItem_1 : mH Try.prog 65 [] = some (F_impl_hasItem_1.code.x, F_impl_hasItem_1.N, F_impl_hasItem_1.np, F_impl_hasItem_1.res) := by kernel_rfl
noncomputable def T_impl_hasItem_1 : (Int × (Int × List (Int)) × (Int × Int × Int × List UInt8) × List (Int)) × Int × (Int × List (Int)) × (Int × Int × Int × List UInt8) × List (Int) → Option (Bool) := evF [fn_impl_sameItem] F_impl_hasItem_1 [.agg (.pair (.int .i64) (.pair (.pair (.int .i64) (.sl false (.int .i64))) (.pair (.pair (.int .i64) (.pair (.int .i64) (.pair (.int .i64) .str))) (.sl false (.int .i64))))), .rp (.pair (.int .i64) (.pair (.pair (.int .i64) (.sl false (.int .i64))) (.pair (.pair (.int .i64) (.pair (.int .i64) (.pair (.int .i64) .str))) (.sl false (.int .i64)))))] [] [.cell .bool] []
noncomputable def fn_impl_hasItem_1 : TFn := ⟨65, [.agg (.pair (.int .i64) (.pair (.pair (.int .i64) (.sl false (.int .i64))) (.pair (.pair (.int .i64) (.pair (.int .i64) (.pair (.int .i64) .str))) (.sl false (.int .i64))))), .rp (.pair (.int .i64) (.pair (.pair (.int .i64) (.sl false (.int .i64))) (.pair (.pair (.int .i64) (.pair (.int .i64) (.pair (.int .i64) .str))) (.sl false (.int .i64)))))], [], [.cell .bool], [], T_impl_hasItem_1⟩
theorem ok_impl_hasItem_1 : FnOk Try.prog fn_impl_hasItem_1 := evF_ok mixed (allOk_cons ok_impl_sameItem allOk_nil) m_impl_hasItem_1 (by decide)
end Xs
end Go.Proofs.Ytkjpdhdmjjepfaa
