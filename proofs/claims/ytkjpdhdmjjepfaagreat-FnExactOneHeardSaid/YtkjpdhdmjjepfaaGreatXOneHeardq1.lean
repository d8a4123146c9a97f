/- The typed code of the functions, printed by program. -/
import Derived.Test.YtkjpdhdmjjepfaaGreatT7
import Derived.Test.YtkjpdhdmjjepfaaGreatProg
import Derived.KernelRfl



import Derived.Test.YtkjpdhdmjjepfaaGreatGrow

namespace Go.Proofs.YtkjpdhdmjjepfaaGreat
open Go Vm
namespace Xs
theorem mixed : Tryz.prog.follows .mixedOrders = true := by kernel_rfl
abbrev n_laws_FnExactOneHeard : Nat := 3
abbrev n_laws_szHall : Nat := 5
abbrev n_spec_OneHeard : Nat := 6
abbrev n_laws_toHall : Nat := 7
abbrev n_impl_OneHeard : Nat := 8
abbrev n_laws_eqHall : Nat := 9
abbrev n_spec_Heard : Nat := 10
abbrev n_impl_Heard : Nat := 11
abbrev n_laws_eqStringS : Nat := 12
abbrev n_laws_szWorld : Nat := 16
abbrev n_laws_szCallerS : Nat := 17
abbrev n_laws_szTableS : Nat := 18
abbrev n_laws_szIntS : Nat := 19
abbrev n_spec_l01In : Nat := 20
abbrev n_spec_l21Pair : Nat := 21
abbrev n_spec_l21Texts : Nat := 22
abbrev n_laws_toWorld : Nat := 23
abbrev n_laws_toCallerS : Nat := 24
abbrev n_laws_toTableS : Nat := 25
abbrev n_laws_toIntS : Nat := 26
abbrev n_impl_textsOf : Nat := 27
abbrev n_impl_LogOf : Nat := 28
abbrev n_slices_Equal___string_string_ : Nat := 29
abbrev n_impl_sharedBy : Nat := 30
abbrev n_laws_eqWorld : Nat := 31
abbrev n_laws_eqCallerS : Nat := 32
abbrev n_laws_eqTableS : Nat := 33
abbrev n_laws_eqIntS : Nat := 34
abbrev n_impl_inRange : Nat := 35
abbrev n_slices_Concat___string_string_ : Nat := 36
abbrev n_laws_szRingS : Nat := 42
abbrev n_laws_szDaemonS : Nat := 43
abbrev n_laws_szLetterS : Nat := 44
abbrev n_laws_szEventS : Nat := 45
abbrev n_laws_szCaller : Nat := 46
abbrev n_laws_szTable : Nat := 47
abbrev n_spec_l21Count : Nat := 48
abbrev n_spec_l21Place : Nat := 49
abbrev n_laws_toRingS : Nat := 50
abbrev n_laws_toDaemonS : Nat := 51
abbrev n_laws_toLetterS : Nat := 52
abbrev n_laws_toEventS : Nat := 53
abbrev n_laws_toCaller : Nat := 54
abbrev n_laws_toTable : Nat := 55
abbrev n_impl_copyLog : Nat := 56
abbrev n_impl_isOnce : Nat := 57
abbrev n_laws_eqRingS : Nat := 58
abbrev n_laws_eqDaemonS : Nat := 59
abbrev n_laws_eqLetterS : Nat := 60
abbrev n_laws_eqEventS : Nat := 61
abbrev n_laws_eqCaller : Nat := 62
abbrev n_laws_eqTable : Nat := 63
abbrev n_slices_Grow___string_string_ : Nat := 64
abbrev n_laws_szRing : Nat := 70
abbrev n_laws_szDaemon : Nat := 71
abbrev n_laws_szLetter : Nat := 72
abbrev n_laws_szEvent : Nat := 73
abbrev n_laws_szSession : Nat := 74
abbrev n_laws_szBox : Nat := 75
abbrev n_laws_szStringS : Nat := 76
abbrev n_laws_szGroupS : Nat := 77
abbrev n_laws_toRing : Nat := 78
abbrev n_laws_toDaemon : Nat := 79
abbrev n_laws_toLetter : Nat := 80
abbrev n_laws_toEvent : Nat := 81
abbrev n_laws_toSession : Nat := 82
abbrev n_laws_toBox : Nat := 83
abbrev n_laws_toStringS : Nat := 84
abbrev n_laws_toGroupS : Nat := 85
abbrev n_impl_copyEvent : Nat := 86
abbrev n_laws_eqRing : Nat := 87
abbrev n_laws_eqDaemon : Nat := 88
abbrev n_laws_eqLetter : Nat := 89
abbrev n_laws_eqEvent : Nat := 90
abbrev n_laws_eqSession : Nat := 91
abbrev n_laws_eqBox : Nat := 92
abbrev n_laws_eqGroupS : Nat := 93
abbrev n_laws_szMate : Nat := 96
abbrev n_laws_szBundleS : Nat := 97
abbrev n_laws_szItem : Nat := 98
abbrev n_laws_szToken : Nat := 99
abbrev n_laws_szBundle : Nat := 100
abbrev n_laws_szReader : Nat := 101
abbrev n_laws_szGroup : Nat := 102
abbrev n_laws_toMate : Nat := 103
abbrev n_laws_toBundleS : Nat := 104
abbrev n_laws_toItem : Nat := 105
abbrev n_laws_toToken : Nat := 106
abbrev n_laws_toBundle : Nat := 107
abbrev n_laws_toReader : Nat := 108
abbrev n_laws_toGroup : Nat := 109
abbrev n_impl_copyRing : Nat := 110
abbrev n_slices_Clone___int_int_ : Nat := 111
abbrev n_laws_eqMate : Nat := 112
abbrev n_laws_eqBundleS : Nat := 113
abbrev n_laws_eqItem : Nat := 114
abbrev n_laws_eqToken : Nat := 115
abbrev n_laws_eqBundle : Nat := 116
abbrev n_laws_eqReader : Nat := 117
abbrev n_laws_eqGroup : Nat := 118
abbrev n_laws_szItemS : Nat := 119
abbrev n_laws_toItemS : Nat := 120
abbrev n_laws_eqItemS : Nat := 121
def F_laws_szIntS : TF := ⟨(.seq (.reg none [.p (.mv 4 (.c (.int .i64 0))) .unit])
 (.seq (.reg none [.p (.mv 5 (.t 1)) .unit,
  .p (.mv 6 (.t 0)) .unit,
  .p (.lenB 7 (.t 6)) .unit,
  .p (.bin 8 false .sub (.t 5) (.t 7)) .unit,
  .p (.mv 1 (.t 8)) .unit])
 (.seq (.seq (.reg none [.p (.mv 9 (.t 1)) .unit,
  .p (.bin 10 false .lss (.t 9) (.c (.int .i64 0))) .unit])
 (.cond (.t 10) (.seq (.reg none [.p (.mv 4 (.c (.int .i64 (-1)))) .unit])
 .ret) .skip))
 (.seq (.reg none [.p (.mv 11 (.t 1)) .unit,
  .p (.mv 4 (.t 11)) .unit])
 .ret)))),
 12, 2, [.t 4]⟩
theorem m_laws_szIntS : mH Tryz.prog 19 [] = some (F_laws_szIntS.code.x, F_laws_szIntS.N, F_laws_szIntS.np, F_laws_szIntS.res) := by kernel_rfl
noncomputable def T_laws_szIntS : (List (Int)) × Int → Option (Int) := evF [] F_laws_szIntS [.cell (.sl false (.int .i64)), .cell (.int .i64)] [] [.cell (.int .i64)] []
noncomputable def fn_laws_szIntS : TFn := ⟨19, [.cell (.sl false (.int .i64)), .cell (.int .i64)], [], [.cell (.int .i64)], [], T_laws_szIntS⟩
theorem ok_laws_szIntS : FnOk Tryz.prog fn_laws_szIntS := evF_ok mixed allOk_nil m_laws_szIntS (by decide)
def F_laws_szRing : TF := ⟨(.seq (.reg none [.p (.box 2 (.t 0)) .unit,
  .p (.mv 4 (.c (.int .i64 0))) .unit])
 (.seq (.reg none [.p (.fadr 5 (.t 2) 1) .unit,
  .p (.load 6 (.t 5) 1 false) .unit,
  .p (.mv 7 (.t 1)) .unit,
  .p (.callB 8 n_laws_szIntS [((.t 6), 0), ((.t 7), 0)]) .unit,
  .p (.mv 1 (.t 8)) .unit])
 (.seq (.seq (.reg none [.p (.mv 9 (.t 1)) .unit,
  .p (.bin 10 false .lss (.t 9) (.c (.int .i64 0))) .unit])
 (.cond (.t 10) (.seq (.reg none [.p (.mv 4 (.c (.int .i64 (-1)))) .unit])
 .ret) .skip))
 (.seq (.reg none [.p (.mv 11 (.t 1)) .unit,
  .p (.mv 4 (.t 11)) .unit])
 .ret)))),
 12, 2, [.t 4]⟩
theorem m_laws_szRing : mH Tryz.prog 70 [] = some (F_laws_szRing.code.x, F_laws_szRing.N, F_laws_szRing.np, F_laws_szRing.res) := by kernel_rfl
noncomputable def T_laws_szRing : (Int × List (Int)) × Int → Option (Int) := evF [fn_laws_szIntS] F_laws_szRing [.agg (.pair (.int .i64) (.sl false (.int .i64))), .cell (.int .i64)] [] [.cell (.int .i64)] []
noncomputable def fn_laws_szRing : TFn := ⟨70, [.agg (.pair (.int .i64) (.sl false (.int .i64))), .cell (.int .i64)], [], [.cell (.int .i64)], [], T_laws_szRing⟩
theorem ok_laws_szRing : FnOk Tryz.prog fn_laws_szRing := evF_ok mixed (allOk_cons ok_laws_szIntS allOk_nil) m_laws_szRing (by decide)
def B_laws_szRingS_1 : TC := (.seq (.seq (.reg none [.p (.mv 12 (.t 5)) .unit,
  .p (.mv 13 (.t 0)) .unit,
  .p (.lenB 14 (.t 13)) .unit,
  .p (.bin 15 false .lss (.t 12) (.t 14)) .unit])
 (.cond (.t 15) .skip (.exit 0)))
 (.seq (.block 1 (.seq (.reg none [.p (.mv 18 (.t 0)) .unit,
  .p (.mv 19 (.t 5)) .unit,
  .p (.iadr 20 2 (.t 18) (.t 19)) .unit,
  .p (.load 21 (.t 20) 2 true) .unit,
  .p (.mv 22 (.t 1)) .unit,
  .p (.callB 23 n_laws_szRing [((.t 21), 0), ((.t 22), 0)]) .unit,
  .p (.mv 1 (.t 23)) .unit])
 (.seq (.reg none [.p (.mv 24 (.t 1)) .unit,
  .p (.bin 25 false .lss (.t 24) (.c (.int .i64 0))) .unit])
 (.cond (.t 25) (.seq (.reg none [.p (.mv 4 (.c (.int .i64 (-1)))) .unit])
 .ret) .skip))))
 (.reg none [.p (.mv 16 (.t 5)) .unit,
  .p (.bin 17 false .add (.t 16) (.c (.int .i64 1))) .unit,
  .p (.mv 5 (.t 17)) .unit])))
noncomputable def L_laws_szRingS_1 : Nat → (List (Int × List (Int))) × (Int) × Int → Option ((Int) ⊕ (Int)) := evL [fn_laws_szRing] (finT [.t 4] [] [.cell (.int .i64)]) 0 ⟨[(0, true), (1, false), (5, false)], [.cell (.sl false (.pair (.int .i64) (.sl false (.int .i64)))), .cell (.int .i64), .cell (.int .i64)]⟩ ⟨[(1, false)], [.cell (.int .i64)]⟩ B_laws_szRingS_1
def F_laws_szRingS : TF := ⟨(.seq (.reg none [.p (.mv 4 (.c (.int .i64 0))) .unit])
 (.seq (.reg none [.p (.mv 6 (.t 1)) .unit,
  .p (.mv 7 (.t 0)) .unit,
  .p (.lenB 8 (.t 7)) .unit,
  .p (.bin 9 false .sub (.t 6) (.t 8)) .unit,
  .p (.mv 1 (.t 9)) .unit])
 (.seq (.seq (.reg none [.p (.mv 10 (.t 1)) .unit,
  .p (.bin 11 false .lss (.t 10) (.c (.int .i64 0))) .unit])
 (.cond (.t 11) (.seq (.reg none [.p (.mv 4 (.c (.int .i64 (-1)))) .unit])
 .ret) .skip))
 (.seq (.seq (.reg none [.p (.mv 5 (.c (.int .i64 0))) .unit])
 (.jl 0 ⟨[(0, true), (1, false), (5, false)], [.cell (.sl false (.pair (.int .i64) (.sl false (.int .i64)))), .cell (.int .i64), .cell (.int .i64)]⟩ ⟨[(1, false)], [.cell (.int .i64)]⟩ B_laws_szRingS_1))
 (.seq (.reg none [.p (.mv 26 (.t 1)) .unit,
  .p (.mv 4 (.t 26)) .unit])
 .ret))))),
 27, 2, [.t 4]⟩
theorem m_laws_szRingS : mH Tryz.prog 42 [] = some (F_laws_szRingS.code.x, F_laws_szRingS.N, F_laws_szRingS.np, F_laws_szRingS.res) := by kernel_rfl
noncomputable def T_laws_szRingS : (List (Int × List (Int))) × Int → Option (Int) := evF [fn_laws_szRing] F_laws_szRingS [.cell (.sl false (.pair (.int .i64) (.sl false (.int .i64)))), .cell (.int .i64)] [] [.cell (.int .i64)] []
noncomputable def fn_laws_szRingS : TFn := ⟨42, [.cell (.sl false (.pair (.int .i64) (.sl false (.int .i64)))), .cell (.int .i64)], [], [.cell (.int .i64)], [], T_laws_szRingS⟩
theorem ok_laws_szRingS : FnOk Tryz.prog fn_laws_szRingS := evF_ok mixed (allOk_cons ok_laws_szRing allOk_nil) m_laws_szRingS (by decide)
def F_laws_szItem : TF := ⟨(.seq (.reg none [.p (.box 2 (.t 0)) .unit,
  .p (.mv 4 (.c (.int .i64 0))) .unit])
 (.seq (.reg none [.p (.mv 5 (.t 1)) .unit,
  .p (.fadr 6 (.t 2) 3) .unit,
  .p (.load 7 (.t 6) 1 false) .unit,
  .p (.lenS 8 (.t 7)) .unit,
  .p (.bin 9 false .sub (.t 5) (.t 8)) .unit,
  .p (.mv 1 (.t 9)) .unit])
 (.seq (.seq (.reg none [.p (.mv 10 (.t 1)) .unit,
  .p (.bin 11 false .lss (.t 10) (.c (.int .i64 0))) .unit])
 (.cond (.t 11) (.seq (.reg none [.p (.mv 4 (.c (.int .i64 (-1)))) .unit])
 .ret) .skip))
 (.seq (.reg none [.p (.mv 12 (.t 1)) .unit,
  .p (.mv 4 (.t 12)) .unit])
 .ret)))),
 13, 2, [.t 4]⟩
theorem m_laws_szItem : mH Tryz.prog 98 [] = some (F_laws_szItem.code.x, F_laws_szItem.N, F_laws_szItem.np, F_laws_szItem.res) := by kernel_rfl
noncomputable def T_laws_szItem : (Int × Int × Int × List UInt8) × Int → Option (Int) := evF [] F_laws_szItem [.agg (.pair (.int .i64) (.pair (.int .i64) (.pair (.int .i64) .str))), .cell (.int .i64)] [] [.cell (.int .i64)] []
noncomputable def fn_laws_szItem : TFn := ⟨98, [.agg (.pair (.int .i64) (.pair (.int .i64) (.pair (.int .i64) .str))), .cell (.int .i64)], [], [.cell (.int .i64)], [], T_laws_szItem⟩
theorem ok_laws_szItem : FnOk Tryz.prog fn_laws_szItem := evF_ok mixed allOk_nil m_laws_szItem (by decide)
def B_laws_szItemS_1 : TC := (.seq (.seq (.reg none [.p (.mv 12 (.t 5)) .unit,
  .p (.mv 13 (.t 0)) .unit,
  .p (.lenB 14 (.t 13)) .unit,
  .p (.bin 15 false .lss (.t 12) (.t 14)) .unit])
 (.cond (.t 15) .skip (.exit 0)))
 (.seq (.block 1 (.seq (.reg none [.p (.mv 18 (.t 0)) .unit,
  .p (.mv 19 (.t 5)) .unit,
  .p (.iadr 20 4 (.t 18) (.t 19)) .unit,
  .p (.load 21 (.t 20) 4 true) .unit,
  .p (.mv 22 (.t 1)) .unit,
  .p (.callB 23 n_laws_szItem [((.t 21), 0), ((.t 22), 0)]) .unit,
  .p (.mv 1 (.t 23)) .unit])
 (.seq (.reg none [.p (.mv 24 (.t 1)) .unit,
  .p (.bin 25 false .lss (.t 24) (.c (.int .i64 0))) .unit])
 (.cond (.t 25) (.seq (.reg none [.p (.mv 4 (.c (.int .i64 (-1)))) .unit])
 .ret) .skip))))
 (.reg none [.p (.mv 16 (.t 5)) .unit,
  .p (.bin 17 false .add (.t 16) (.c (.int .i64 1))) .unit,
  .p (.mv 5 (.t 17)) .unit])))
noncomputable def L_laws_szItemS_1 : Nat → (List (Int × Int × Int × List UInt8)) × (Int) × Int → Option ((Int) ⊕ (Int)) := evL [fn_laws_szItem] (finT [.t 4] [] [.cell (.int .i64)]) 0 ⟨[(0, true), (1, false), (5, false)], [.cell (.sl false (.pair (.int .i64) (.pair (.int .i64) (.pair (.int .i64) .str)))), .cell (.int .i64), .cell (.int .i64)]⟩ ⟨[(1, false)], [.cell (.int .i64)]⟩ B_laws_szItemS_1
def F_laws_szItemS : TF := ⟨(.seq (.reg none [.p (.mv 4 (.c (.int .i64 0))) .unit])
 (.seq (.reg none [.p (.mv 6 (.t 1)) .unit,
  .p (.mv 7 (.t 0)) .unit,
  .p (.lenB 8 (.t 7)) .unit,
  .p (.bin 9 false .sub (.t 6) (.t 8)) .unit,
  .p (.mv 1 (.t 9)) .unit])
 (.seq (.seq (.reg none [.p (.mv 10 (.t 1)) .unit,
  .p (.bin 11 false .lss (.t 10) (.c (.int .i64 0))) .unit])
 (.cond (.t 11) (.seq (.reg none [.p (.mv 4 (.c (.int .i64 (-1)))) .unit])
 .ret) .skip))
 (.seq (.seq (.reg none [.p (.mv 5 (.c (.int .i64 0))) .unit])
 (.jl 0 ⟨[(0, true), (1, false), (5, false)], [.cell (.sl false (.pair (.int .i64) (.pair (.int .i64) (.pair (.int .i64) .str)))), .cell (.int .i64), .cell (.int .i64)]⟩ ⟨[(1, false)], [.cell (.int .i64)]⟩ B_laws_szItemS_1))
 (.seq (.reg none [.p (.mv 26 (.t 1)) .unit,
  .p (.mv 4 (.t 26)) .unit])
 .ret))))),
 27, 2, [.t 4]⟩
theorem m_laws_szItemS : mH Tryz.prog 119 [] = some (F_laws_szItemS.code.x, F_laws_szItemS.N, F_laws_szItemS.np, F_laws_szItemS.res) := by kernel_rfl
noncomputable def T_laws_szItemS : (List (Int × Int × Int × List UInt8)) × Int → Option (Int) := evF [fn_laws_szItem] F_laws_szItemS [.cell (.sl false (.pair (.int .i64) (.pair (.int .i64) (.pair (.int .i64) .str)))), .cell (.int .i64)] [] [.cell (.int .i64)] []
noncomputable def fn_laws_szItemS : TFn := ⟨119, [.cell (.sl false (.pair (.int .i64) (.pair (.int .i64) (.pair (.int .i64) .str)))), .cell (.int .i64)], [], [.cell (.int .i64)], [], T_laws_szItemS⟩
theorem ok_laws_szItemS : FnOk Tryz.prog fn_laws_szItemS := evF_ok mixed (allOk_cons ok_laws_szItem allOk_nil) m_laws_szItemS (by decide)
def B_laws_szStringS_1 : TC := (.seq (.seq (.reg none [.p (.mv 12 (.t 5)) .unit,
  .p (.mv 13 (.t 0)) .unit,
  .p (.lenB 14 (.t 13)) .unit,
  .p (.bin 15 false .lss (.t 12) (.t 14)) .unit])
 (.cond (.t 15) .skip (.exit 0)))
 (.seq (.block 1 (.seq (.reg none [.p (.mv 18 (.t 1)) .unit,
  .p (.mv 19 (.t 0)) .unit,
  .p (.mv 20 (.t 5)) .unit,
  .p (.iadr 21 1 (.t 19) (.t 20)) .unit,
  .p (.load 22 (.t 21) 1 false) .unit,
  .p (.lenS 23 (.t 22)) .unit,
  .p (.bin 24 false .sub (.t 18) (.t 23)) .unit,
  .p (.mv 1 (.t 24)) .unit])
 (.seq (.reg none [.p (.mv 25 (.t 1)) .unit,
  .p (.bin 26 false .lss (.t 25) (.c (.int .i64 0))) .unit])
 (.cond (.t 26) (.seq (.reg none [.p (.mv 4 (.c (.int .i64 (-1)))) .unit])
 .ret) .skip))))
 (.reg none [.p (.mv 16 (.t 5)) .unit,
  .p (.bin 17 false .add (.t 16) (.c (.int .i64 1))) .unit,
  .p (.mv 5 (.t 17)) .unit])))
noncomputable def L_laws_szStringS_1 : Nat → (List (List UInt8)) × (Int) × Int → Option ((Int) ⊕ (Int)) := evL [] (finT [.t 4] [] [.cell (.int .i64)]) 0 ⟨[(0, true), (1, false), (5, false)], [.cell (.sl false .str), .cell (.int .i64), .cell (.int .i64)]⟩ ⟨[(1, false)], [.cell (.int .i64)]⟩ B_laws_szStringS_1
def F_laws_szStringS : TF := ⟨(.seq (.reg none [.p (.mv 4 (.c (.int .i64 0))) .unit])
 (.seq (.reg none [.p (.mv 6 (.t 1)) .unit,
  .p (.mv 7 (.t 0)) .unit,
  .p (.lenB 8 (.t 7)) .unit,
  .p (.bin 9 false .sub (.t 6) (.t 8)) .unit,
  .p (.mv 1 (.t 9)) .unit])
 (.seq (.seq (.reg none [.p (.mv 10 (.t 1)) .unit,
  .p (.bin 11 false .lss (.t 10) (.c (.int .i64 0))) .unit])
 (.cond (.t 11) (.seq (.reg none [.p (.mv 4 (.c (.int .i64 (-1)))) .unit])
 .ret) .skip))
 (.seq (.seq (.reg none [.p (.mv 5 (.c (.int .i64 0))) .unit])
 (.jl 0 ⟨[(0, true), (1, false), (5, false)], [.cell (.sl false .str), .cell (.int .i64), .cell (.int .i64)]⟩ ⟨[(1, false)], [.cell (.int .i64)]⟩ B_laws_szStringS_1))
 (.seq (.reg none [.p (.mv 27 (.t 1)) .unit,
  .p (.mv 4 (.t 27)) .unit])
 .ret))))),
 28, 2, [.t 4]⟩
theorem m_laws_szStringS : mH Tryz.prog 76 [] = some (F_laws_szStringS.code.x, F_laws_szStringS.N, F_laws_szStringS.np, F_laws_szStringS.res) := by kernel_rfl
noncomputable def T_laws_szStringS : (List (List UInt8)) × Int → Option (Int) := evF [] F_laws_szStringS [.cell (.sl false .str), .cell (.int .i64)] [] [.cell (.int .i64)] []
noncomputable def fn_laws_szStringS : TFn := ⟨76, [.cell (.sl false .str), .cell (.int .i64)], [], [.cell (.int .i64)], [], T_laws_szStringS⟩
theorem ok_laws_szStringS : FnOk Tryz.prog fn_laws_szStringS := evF_ok mixed allOk_nil m_laws_szStringS (by decide)
def F_laws_szToken : TF := ⟨(.seq (.reg none [.p (.box 2 (.t 0)) .unit,
  .p (.mv 4 (.c (.int .i64 0))) .unit])
 (.seq (.reg none [.p (.fadr 5 (.t 2) 5) .unit,
  .p (.load 6 (.t 5) 1 false) .unit,
  .p (.mv 7 (.t 1)) .unit,
  .p (.callB 8 n_laws_szIntS [((.t 6), 0), ((.t 7), 0)]) .unit,
  .p (.mv 1 (.t 8)) .unit])
 (.seq (.seq (.reg none [.p (.mv 9 (.t 1)) .unit,
  .p (.bin 10 false .lss (.t 9) (.c (.int .i64 0))) .unit])
 (.cond (.t 10) (.seq (.reg none [.p (.mv 4 (.c (.int .i64 (-1)))) .unit])
 .ret) .skip))
 (.seq (.reg none [.p (.mv 11 (.t 1)) .unit,
  .p (.mv 4 (.t 11)) .unit])
 .ret)))),
 12, 2, [.t 4]⟩
theorem m_laws_szToken : mH Tryz.prog 99 [] = some (F_laws_szToken.code.x, F_laws_szToken.N, F_laws_szToken.np, F_laws_szToken.res) := by kernel_rfl
noncomputable def T_laws_szToken : (Int × Int × Int × Int × Int × List (Int)) × Int → Option (Int) := evF [fn_laws_szIntS] F_laws_szToken [.agg (.pair (.int .i64) (.pair (.int .i64) (.pair (.int .i64) (.pair (.int .i64) (.pair (.int .i64) (.sl false (.int .i64))))))), .cell (.int .i64)] [] [.cell (.int .i64)] []
noncomputable def fn_laws_szToken : TFn := ⟨99, [.agg (.pair (.int .i64) (.pair (.int .i64) (.pair (.int .i64) (.pair (.int .i64) (.pair (.int .i64) (.sl false (.int .i64))))))), .cell (.int .i64)], [], [.cell (.int .i64)], [], T_laws_szToken⟩
theorem ok_laws_szToken : FnOk Tryz.prog fn_laws_szToken := evF_ok mixed (allOk_cons ok_laws_szIntS allOk_nil) m_laws_szToken (by decide)
def F_laws_szMate : TF := ⟨(.seq (.reg none [.p (.box 2 (.t 0)) .unit,
  .p (.mv 4 (.c (.int .i64 0))) .unit])
 (.seq (.reg none [.p (.fadr 5 (.t 2) 1) .unit,
  .p (.load 6 (.t 5) 2 true) .unit,
  .p (.mv 7 (.t 1)) .unit,
  .p (.callB 8 n_laws_szRing [((.t 6), 0), ((.t 7), 0)]) .unit,
  .p (.mv 1 (.t 8)) .unit])
 (.seq (.seq (.reg none [.p (.mv 9 (.t 1)) .unit,
  .p (.bin 10 false .lss (.t 9) (.c (.int .i64 0))) .unit])
 (.cond (.t 10) (.seq (.reg none [.p (.mv 4 (.c (.int .i64 (-1)))) .unit])
 .ret) .skip))
 (.seq (.reg none [.p (.fadr 11 (.t 2) 3) .unit,
  .p (.load 12 (.t 11) 1 false) .unit,
  .p (.mv 13 (.t 1)) .unit,
  .p (.callB 14 n_laws_szItemS [((.t 12), 0), ((.t 13), 0)]) .unit,
  .p (.mv 1 (.t 14)) .unit])
 (.seq (.seq (.reg none [.p (.mv 15 (.t 1)) .unit,
  .p (.bin 16 false .lss (.t 15) (.c (.int .i64 0))) .unit])
 (.cond (.t 16) (.seq (.reg none [.p (.mv 4 (.c (.int .i64 (-1)))) .unit])
 .ret) .skip))
 (.seq (.reg none [.p (.fadr 17 (.t 2) 4) .unit,
  .p (.load 18 (.t 17) 1 false) .unit,
  .p (.mv 19 (.t 1)) .unit,
  .p (.callB 20 n_laws_szIntS [((.t 18), 0), ((.t 19), 0)]) .unit,
  .p (.mv 1 (.t 20)) .unit])
 (.seq (.seq (.reg none [.p (.mv 21 (.t 1)) .unit,
  .p (.bin 22 false .lss (.t 21) (.c (.int .i64 0))) .unit])
 (.cond (.t 22) (.seq (.reg none [.p (.mv 4 (.c (.int .i64 (-1)))) .unit])
 .ret) .skip))
 (.seq (.reg none [.p (.fadr 23 (.t 2) 5) .unit,
  .p (.load 24 (.t 23) 1 false) .unit,
  .p (.mv 25 (.t 1)) .unit,
  .p (.callB 26 n_laws_szStringS [((.t 24), 0), ((.t 25), 0)]) .unit,
  .p (.mv 1 (.t 26)) .unit])
 (.seq (.seq (.reg none [.p (.mv 27 (.t 1)) .unit,
  .p (.bin 28 false .lss (.t 27) (.c (.int .i64 0))) .unit])
 (.cond (.t 28) (.seq (.reg none [.p (.mv 4 (.c (.int .i64 (-1)))) .unit])
 .ret) .skip))
 (.seq (.reg none [.p (.fadr 29 (.t 2) 10) .unit,
  .p (.load 30 (.t 29) 6 true) .unit,
  .p (.mv 31 (.t 1)) .unit,
  .p (.callB 32 n_laws_szToken [((.t 30), 0), ((.t 31), 0)]) .unit,
  .p (.mv 1 (.t 32)) .unit])
 (.seq (.seq (.reg none [.p (.mv 33 (.t 1)) .unit,
  .p (.bin 34 false .lss (.t 33) (.c (.int .i64 0))) .unit])
 (.cond (.t 34) (.seq (.reg none [.p (.mv 4 (.c (.int .i64 (-1)))) .unit])
 .ret) .skip))
 (.seq (.reg none [.p (.mv 35 (.t 1)) .unit,
  .p (.mv 4 (.t 35)) .unit])
 .ret)))))))))))),
 36, 2, [.t 4]⟩
theorem m_laws_szMate : mH Tryz.prog 96 [] = some (F_laws_szMate.code.x, F_laws_szMate.N, F_laws_szMate.np, F_laws_szMate.res) := by kernel_rfl
noncomputable def T_laws_szMate : (Int × (Int × List (Int)) × List (Int × Int × Int × List UInt8) × List (Int) × List (List UInt8) × Int × Int × Int × Int × Int × Int × Int × Int × Int × List (Int)) × Int → Option (Int) := evF [fn_laws_szRing, fn_laws_szItemS, fn_laws_szIntS, fn_laws_szStringS, fn_laws_szToken] F_laws_szMate [.agg (.pair (.int .i64) (.pair (.pair (.int .i64) (.sl false (.int .i64))) (.pair (.sl false (.pair (.int .i64) (.pair (.int .i64) (.pair (.int .i64) .str)))) (.pair (.sl false (.int .i64)) (.pair (.sl false .str) (.pair (.int .i64) (.pair (.int .i64) (.pair (.int .i64) (.pair (.int .i64) (.pair (.int .i64) (.pair (.int .i64) (.pair (.int .i64) (.pair (.int .i64) (.pair (.int .i64) (.sl false (.int .i64)))))))))))))))), .cell (.int .i64)] [] [.cell (.int .i64)] []
noncomputable def fn_laws_szMate : TFn := ⟨96, [.agg (.pair (.int .i64) (.pair (.pair (.int .i64) (.sl false (.int .i64))) (.pair (.sl false (.pair (.int .i64) (.pair (.int .i64) (.pair (.int .i64) .str)))) (.pair (.sl false (.int .i64)) (.pair (.sl false .str) (.pair (.int .i64) (.pair (.int .i64) (.pair (.int .i64) (.pair (.int .i64) (.pair (.int .i64) (.pair (.int .i64) (.pair (.int .i64) (.pair (.int .i64) (.pair (.int .i64) (.sl false (.int .i64)))))))))))))))), .cell (.int .i64)], [], [.cell (.int .i64)], [], T_laws_szMate⟩
theorem ok_laws_szMate : FnOk Tryz.prog fn_laws_szMate := evF_ok mixed (allOk_cons ok_laws_szRing (allOk_cons ok_laws_szItemS (allOk_cons ok_laws_szIntS (allOk_cons ok_laws_szStringS (allOk_cons ok_laws_szToken allOk_nil))))) m_laws_szMate (by decide)
def F_laws_szBundle : TF := ⟨(.seq (.reg none [.p (.box 2 (.t 0)) .unit,
  .p (.mv 4 (.c (.int .i64 0))) .unit])
 (.seq (.reg none [.p (.fadr 5 (.t 2) 3) .unit,
  .p (.load 6 (.t 5) 1 false) .unit,
  .p (.mv 7 (.t 1)) .unit,
  .p (.callB 8 n_laws_szItemS [((.t 6), 0), ((.t 7), 0)]) .unit,
  .p (.mv 1 (.t 8)) .unit])
 (.seq (.seq (.reg none [.p (.mv 9 (.t 1)) .unit,
  .p (.bin 10 false .lss (.t 9) (.c (.int .i64 0))) .unit])
 (.cond (.t 10) (.seq (.reg none [.p (.mv 4 (.c (.int .i64 (-1)))) .unit])
 .ret) .skip))
 (.seq (.reg none [.p (.mv 11 (.t 1)) .unit,
  .p (.mv 4 (.t 11)) .unit])
 .ret)))),
 12, 2, [.t 4]⟩
theorem m_laws_szBundle : mH Tryz.prog 100 [] = some (F_laws_szBundle.code.x, F_laws_szBundle.N, F_laws_szBundle.np, F_laws_szBundle.res) := by kernel_rfl
noncomputable def T_laws_szBundle : (Int × Int × Int × List (Int × Int × Int × List UInt8)) × Int → Option (Int) := evF [fn_laws_szItemS] F_laws_szBundle [.agg (.pair (.int .i64) (.pair (.int .i64) (.pair (.int .i64) (.sl false (.pair (.int .i64) (.pair (.int .i64) (.pair (.int .i64) .str))))))), .cell (.int .i64)] [] [.cell (.int .i64)] []
noncomputable def fn_laws_szBundle : TFn := ⟨100, [.agg (.pair (.int .i64) (.pair (.int .i64) (.pair (.int .i64) (.sl false (.pair (.int .i64) (.pair (.int .i64) (.pair (.int .i64) .str))))))), .cell (.int .i64)], [], [.cell (.int .i64)], [], T_laws_szBundle⟩
theorem ok_laws_szBundle : FnOk Tryz.prog fn_laws_szBundle := evF_ok mixed (allOk_cons ok_laws_szItemS allOk_nil) m_laws_szBundle (by decide)
def B_laws_szBundleS_1 : TC := (.seq (.seq (.reg none [.p (.mv 12 (.t 5)) .unit,
  .p (.mv 13 (.t 0)) .unit,
  .p (.lenB 14 (.t 13)) .unit,
  .p (.bin 15 false .lss (.t 12) (.t 14)) .unit])
 (.cond (.t 15) .skip (.exit 0)))
 (.seq (.block 1 (.seq (.reg none [.p (.mv 18 (.t 0)) .unit,
  .p (.mv 19 (.t 5)) .unit,
  .p (.iadr 20 4 (.t 18) (.t 19)) .unit,
  .p (.load 21 (.t 20) 4 true) .unit,
  .p (.mv 22 (.t 1)) .unit,
  .p (.callB 23 n_laws_szBundle [((.t 21), 0), ((.t 22), 0)]) .unit,
  .p (.mv 1 (.t 23)) .unit])
 (.seq (.reg none [.p (.mv 24 (.t 1)) .unit,
  .p (.bin 25 false .lss (.t 24) (.c (.int .i64 0))) .unit])
 (.cond (.t 25) (.seq (.reg none [.p (.mv 4 (.c (.int .i64 (-1)))) .unit])
 .ret) .skip))))
 (.reg none [.p (.mv 16 (.t 5)) .unit,
  .p (.bin 17 false .add (.t 16) (.c (.int .i64 1))) .unit,
  .p (.mv 5 (.t 17)) .unit])))
noncomputable def L_laws_szBundleS_1 : Nat → (List (Int × Int × Int × List (Int × Int × Int × List UInt8))) × (Int) × Int → Option ((Int) ⊕ (Int)) := evL [fn_laws_szBundle] (finT [.t 4] [] [.cell (.int .i64)]) 0 ⟨[(0, true), (1, false), (5, false)], [.cell (.sl false (.pair (.int .i64) (.pair (.int .i64) (.pair (.int .i64) (.sl false (.pair (.int .i64) (.pair (.int .i64) (.pair (.int .i64) .str)))))))), .cell (.int .i64), .cell (.int .i64)]⟩ ⟨[(1, false)], [.cell (.int .i64)]⟩ B_laws_szBundleS_1
def F_laws_szBundleS : TF := ⟨(.seq (.reg none [.p (.mv 4 (.c (.int .i64 0))) .unit])
 (.seq (.reg none [.p (.mv 6 (.t 1)) .unit,
  .p (.mv 7 (.t 0)) .unit,
  .p (.lenB 8 (.t 7)) .unit,
  .p (.bin 9 false .sub (.t 6) (.t 8)) .unit,
  .p (.mv 1 (.t 9)) .unit])
 (.seq (.seq (.reg none [.p (.mv 10 (.t 1)) .unit,
  .p (.bin 11 false .lss (.t 10) (.c (.int .i64 0))) .unit])
 (.cond (.t 11) (.seq (.reg none [.p (.mv 4 (.c (.int .i64 (-1)))) .unit])
 .ret) .skip))
 (.seq (.seq (.reg none [.p (.mv 5 (.c (.int .i64 0))) .unit])
 (.jl 0 ⟨[(0, true), (1, false), (5, false)], [.cell (.sl false (.pair (.int .i64) (.pair (.int .i64) (.pair (.int .i64) (.sl false (.pair (.int .i64) (.pair (.int .i64) (.pair (.int .i64) .str)))))))), .cell (.int .i64), .cell (.int .i64)]⟩ ⟨[(1, false)], [.cell (.int .i64)]⟩ B_laws_szBundleS_1))
 (.seq (.reg none [.p (.mv 26 (.t 1)) .unit,
  .p (.mv 4 (.t 26)) .unit])
 .ret))))),
 27, 2, [.t 4]⟩
theorem m_laws_szBundleS : mH Tryz.prog 97 [] = some (F_laws_szBundleS.code.x, F_laws_szBundleS.N, F_laws_szBundleS.np, F_laws_szBundleS.res) := by kernel_rfl
noncomputable def T_laws_szBundleS : (List (Int × Int × Int × List (Int × Int × Int × List UInt8))) × Int → Option (Int) := evF [fn_laws_szBundle] F_laws_szBundleS [.cell (.sl false (.pair (.int .i64) (.pair (.int .i64) (.pair (.int .i64) (.sl false (.pair (.int .i64) (.pair (.int .i64) (.pair (.int .i64) .str)))))))), .cell (.int .i64)] [] [.cell (.int .i64)] []
noncomputable def fn_laws_szBundleS : TFn := ⟨97, [.cell (.sl false (.pair (.int .i64) (.pair (.int .i64) (.pair (.int .i64) (.sl false (.pair (.int .i64) (.pair (.int .i64) (.pair (.int .i64) .str)))))))), .cell (.int .i64)], [], [.cell (.int .i64)], [], T_laws_szBundleS⟩
theorem ok_laws_szBundleS : FnOk Tryz.prog fn_laws_szBundleS := evF_ok mixed (allOk_cons ok_laws_szBundle allOk_nil) m_laws_szBundleS (by decide)
def F_laws_szEvent : TF := ⟨(.seq (.reg none [.p (.box 2 (.t 0)) .unit,
  .p (.mv 4 (.c (.int .i64 0))) .unit])
 (.seq (.reg none [.p (.fadr 5 (.t 2) 1) .unit,
  .p (.load 6 (.t 5) 2 true) .unit,
  .p (.mv 7 (.t 1)) .unit,
  .p (.callB 8 n_laws_szRing [((.t 6), 0), ((.t 7), 0)]) .unit,
  .p (.mv 1 (.t 8)) .unit])
 (.seq (.seq (.reg none [.p (.mv 9 (.t 1)) .unit,
  .p (.bin 10 false .lss (.t 9) (.c (.int .i64 0))) .unit])
 (.cond (.t 10) (.seq (.reg none [.p (.mv 4 (.c (.int .i64 (-1)))) .unit])
 .ret) .skip))
 (.seq (.reg none [.p (.fadr 11 (.t 2) 3) .unit,
  .p (.load 12 (.t 11) 4 true) .unit,
  .p (.mv 13 (.t 1)) .unit,
  .p (.callB 14 n_laws_szItem [((.t 12), 0), ((.t 13), 0)]) .unit,
  .p (.mv 1 (.t 14)) .unit])
 (.seq (.seq (.reg none [.p (.mv 15 (.t 1)) .unit,
  .p (.bin 16 false .lss (.t 15) (.c (.int .i64 0))) .unit])
 (.cond (.t 16) (.seq (.reg none [.p (.mv 4 (.c (.int .i64 (-1)))) .unit])
 .ret) .skip))
 (.seq (.reg none [.p (.fadr 17 (.t 2) 7) .unit,
  .p (.load 18 (.t 17) 1 false) .unit,
  .p (.mv 19 (.t 1)) .unit,
  .p (.callB 20 n_laws_szIntS [((.t 18), 0), ((.t 19), 0)]) .unit,
  .p (.mv 1 (.t 20)) .unit])
 (.seq (.seq (.reg none [.p (.mv 21 (.t 1)) .unit,
  .p (.bin 22 false .lss (.t 21) (.c (.int .i64 0))) .unit])
 (.cond (.t 22) (.seq (.reg none [.p (.mv 4 (.c (.int .i64 (-1)))) .unit])
 .ret) .skip))
 (.seq (.reg none [.p (.mv 23 (.t 1)) .unit,
  .p (.mv 4 (.t 23)) .unit])
 .ret)))))))),
 24, 2, [.t 4]⟩
theorem m_laws_szEvent : mH Tryz.prog 73 [] = some (F_laws_szEvent.code.x, F_laws_szEvent.N, F_laws_szEvent.np, F_laws_szEvent.res) := by kernel_rfl
noncomputable def T_laws_szEvent : (Int × (Int × List (Int)) × (Int × Int × Int × List UInt8) × List (Int)) × Int → Option (Int) := evF [fn_laws_szRing, fn_laws_szItem, fn_laws_szIntS] F_laws_szEvent [.agg (.pair (.int .i64) (.pair (.pair (.int .i64) (.sl false (.int .i64))) (.pair (.pair (.int .i64) (.pair (.int .i64) (.pair (.int .i64) .str))) (.sl false (.int .i64))))), .cell (.int .i64)] [] [.cell (.int .i64)] []
noncomputable def fn_laws_szEvent : TFn := ⟨73, [.agg (.pair (.int .i64) (.pair (.pair (.int .i64) (.sl false (.int .i64))) (.pair (.pair (.int .i64) (.pair (.int .i64) (.pair (.int .i64) .str))) (.sl false (.int .i64))))), .cell (.int .i64)], [], [.cell (.int .i64)], [], T_laws_szEvent⟩
theorem ok_laws_szEvent : FnOk Tryz.prog fn_laws_szEvent := evF_ok mixed (allOk_cons ok_laws_szRing (allOk_cons ok_laws_szItem (allOk_cons ok_laws_szIntS allOk_nil))) m_laws_szEvent (by decide)
def B_laws_szEventS_1 : TC := (.seq (.seq (.reg none [.p (.mv 12 (.t 5)) .unit,
  .p (.mv 13 (.t 0)) .unit,
  .p (.lenB 14 (.t 13)) .unit,
  .p (.bin 15 false .lss (.t 12) (.t 14)) .unit])
 (.cond (.t 15) .skip (.exit 0)))
 (.seq (.block 1 (.seq (.reg none [.p (.mv 18 (.t 0)) .unit,
  .p (.mv 19 (.t 5)) .unit,
  .p (.iadr 20 8 (.t 18) (.t 19)) .unit,
  .p (.load 21 (.t 20) 8 true) .unit,
  .p (.mv 22 (.t 1)) .unit,
  .p (.callB 23 n_laws_szEvent [((.t 21), 0), ((.t 22), 0)]) .unit,
  .p (.mv 1 (.t 23)) .unit])
 (.seq (.reg none [.p (.mv 24 (.t 1)) .unit,
  .p (.bin 25 false .lss (.t 24) (.c (.int .i64 0))) .unit])
 (.cond (.t 25) (.seq (.reg none [.p (.mv 4 (.c (.int .i64 (-1)))) .unit])
 .ret) .skip))))
 (.reg none [.p (.mv 16 (.t 5)) .unit,
  .p (.bin 17 false .add (.t 16) (.c (.int .i64 1))) .unit,
  .p (.mv 5 (.t 17)) .unit])))
noncomputable def L_laws_szEventS_1 : Nat → (List (Int × (Int × List (Int)) × (Int × Int × Int × List UInt8) × List (Int))) × (Int) × Int → Option ((Int) ⊕ (Int)) := evL [fn_laws_szEvent] (finT [.t 4] [] [.cell (.int .i64)]) 0 ⟨[(0, true), (1, false), (5, false)], [.cell (.sl false (.pair (.int .i64) (.pair (.pair (.int .i64) (.sl false (.int .i64))) (.pair (.pair (.int .i64) (.pair (.int .i64) (.pair (.int .i64) .str))) (.sl false (.int .i64)))))), .cell (.int .i64), .cell (.int .i64)]⟩ ⟨[(1, false)], [.cell (.int .i64)]⟩ B_laws_szEventS_1
def F_laws_szEventS : TF := ⟨(.seq (.reg none [.p (.mv 4 (.c (.int .i64 0))) .unit])
 (.seq (.reg none [.p (.mv 6 (.t 1)) .unit,
  .p (.mv 7 (.t 0)) .unit,
  .p (.lenB 8 (.t 7)) .unit,
  .p (.bin 9 false .sub (.t 6) (.t 8)) .unit,
  .p (.mv 1 (.t 9)) .unit])
 (.seq (.seq (.reg none [.p (.mv 10 (.t 1)) .unit,
  .p (.bin 11 false .lss (.t 10) (.c (.int .i64 0))) .unit])
 (.cond (.t 11) (.seq (.reg none [.p (.mv 4 (.c (.int .i64 (-1)))) .unit])
 .ret) .skip))
 (.seq (.seq (.reg none [.p (.mv 5 (.c (.int .i64 0))) .unit])
 (.jl 0 ⟨[(0, true), (1, false), (5, false)], [.cell (.sl false (.pair (.int .i64) (.pair (.pair (.int .i64) (.sl false (.int .i64))) (.pair (.pair (.int .i64) (.pair (.int .i64) (.pair (.int .i64) .str))) (.sl false (.int .i64)))))), .cell (.int .i64), .cell (.int .i64)]⟩ ⟨[(1, false)], [.cell (.int .i64)]⟩ B_laws_szEventS_1))
 (.seq (.reg none [.p (.mv 26 (.t 1)) .unit,
  .p (.mv 4 (.t 26)) .unit])
 .ret))))),
 27, 2, [.t 4]⟩
theorem m_laws_szEventS : mH Tryz.prog 45 [] = some (F_laws_szEventS.code.x, F_laws_szEventS.N, F_laws_szEventS.np, F_laws_szEventS.res) := by kernel_rfl
noncomputable def T_laws_szEventS : (List (Int × (Int × List (Int)) × (Int × Int × Int × List UInt8) × List (Int))) × Int → Option (Int) := evF [fn_laws_szEvent] F_laws_szEventS [.cell (.sl false (.pair (.int .i64) (.pair (.pair (.int .i64) (.sl false (.int .i64))) (.pair (.pair (.int .i64) (.pair (.int .i64) (.pair (.int .i64) .str))) (.sl false (.int .i64)))))), .cell (.int .i64)] [] [.cell (.int .i64)] []
noncomputable def fn_laws_szEventS : TFn := ⟨45, [.cell (.sl false (.pair (.int .i64) (.pair (.pair (.int .i64) (.sl false (.int .i64))) (.pair (.pair (.int .i64) (.pair (.int .i64) (.pair (.int .i64) .str))) (.sl false (.int .i64)))))), .cell (.int .i64)], [], [.cell (.int .i64)], [], T_laws_szEventS⟩
theorem ok_laws_szEventS : FnOk Tryz.prog fn_laws_szEventS := evF_ok mixed (allOk_cons ok_laws_szEvent allOk_nil) m_laws_szEventS (by decide)
def F_laws_szDaemon : TF := ⟨(.seq (.reg none [.p (.box 2 (.t 0)) .unit,
  .p (.mv 4 (.c (.int .i64 0))) .unit])
 (.seq (.reg none [.p (.fadr 5 (.t 2) 2) .unit,
  .p (.load 6 (.t 5) 16 true) .unit,
  .p (.mv 7 (.t 1)) .unit,
  .p (.callB 8 n_laws_szMate [((.t 6), 0), ((.t 7), 0)]) .unit,
  .p (.mv 1 (.t 8)) .unit])
 (.seq (.seq (.reg none [.p (.mv 9 (.t 1)) .unit,
  .p (.bin 10 false .lss (.t 9) (.c (.int .i64 0))) .unit])
 (.cond (.t 10) (.seq (.reg none [.p (.mv 4 (.c (.int .i64 (-1)))) .unit])
 .ret) .skip))
 (.seq (.reg none [.p (.fadr 11 (.t 2) 20) .unit,
  .p (.load 12 (.t 11) 2 true) .unit,
  .p (.mv 13 (.t 1)) .unit,
  .p (.callB 14 n_laws_szRing [((.t 12), 0), ((.t 13), 0)]) .unit,
  .p (.mv 1 (.t 14)) .unit])
 (.seq (.seq (.reg none [.p (.mv 15 (.t 1)) .unit,
  .p (.bin 16 false .lss (.t 15) (.c (.int .i64 0))) .unit])
 (.cond (.t 16) (.seq (.reg none [.p (.mv 4 (.c (.int .i64 (-1)))) .unit])
 .ret) .skip))
 (.seq (.reg none [.p (.fadr 17 (.t 2) 22) .unit,
  .p (.load 18 (.t 17) 1 false) .unit,
  .p (.mv 19 (.t 1)) .unit,
  .p (.callB 20 n_laws_szBundleS [((.t 18), 0), ((.t 19), 0)]) .unit,
  .p (.mv 1 (.t 20)) .unit])
 (.seq (.seq (.reg none [.p (.mv 21 (.t 1)) .unit,
  .p (.bin 22 false .lss (.t 21) (.c (.int .i64 0))) .unit])
 (.cond (.t 22) (.seq (.reg none [.p (.mv 4 (.c (.int .i64 (-1)))) .unit])
 .ret) .skip))
 (.seq (.reg none [.p (.fadr 23 (.t 2) 23) .unit,
  .p (.load 24 (.t 23) 1 false) .unit,
  .p (.mv 25 (.t 1)) .unit,
  .p (.callB 26 n_laws_szEventS [((.t 24), 0), ((.t 25), 0)]) .unit,
  .p (.mv 1 (.t 26)) .unit])
 (.seq (.seq (.reg none [.p (.mv 27 (.t 1)) .unit,
  .p (.bin 28 false .lss (.t 27) (.c (.int .i64 0))) .unit])
 (.cond (.t 28) (.seq (.reg none [.p (.mv 4 (.c (.int .i64 (-1)))) .unit])
 .ret) .skip))
 (.seq (.reg none [.p (.mv 29 (.t 1)) .unit,
  .p (.mv 4 (.t 29)) .unit])
 .ret)))))))))),
 30, 2, [.t 4]⟩
theorem m_laws_szDaemon : mH Tryz.prog 71 [] = some (F_laws_szDaemon.code.x, F_laws_szDaemon.N, F_laws_szDaemon.np, F_laws_szDaemon.res) := by kernel_rfl
noncomputable def T_laws_szDaemon : (Int × Bool × (Int × (Int × List (Int)) × List (Int × Int × Int × List UInt8) × List (Int) × List (List UInt8) × Int × Int × Int × Int × Int × Int × Int × Int × Int × List (Int)) × Int × Int × (Int × List (Int)) × List (Int × Int × Int × List (Int × Int × Int × List UInt8)) × List (Int × (Int × List (Int)) × (Int × Int × Int × List UInt8) × List (Int))) × Int → Option (Int) := evF [fn_laws_szMate, fn_laws_szRing, fn_laws_szBundleS, fn_laws_szEventS] F_laws_szDaemon [.agg (.pair (.int .i64) (.pair .bool (.pair (.pair (.int .i64) (.pair (.pair (.int .i64) (.sl false (.int .i64))) (.pair (.sl false (.pair (.int .i64) (.pair (.int .i64) (.pair (.int .i64) .str)))) (.pair (.sl false (.int .i64)) (.pair (.sl false .str) (.pair (.int .i64) (.pair (.int .i64) (.pair (.int .i64) (.pair (.int .i64) (.pair (.int .i64) (.pair (.int .i64) (.pair (.int .i64) (.pair (.int .i64) (.pair (.int .i64) (.sl false (.int .i64)))))))))))))))) (.pair (.int .i64) (.pair (.int .i64) (.pair (.pair (.int .i64) (.sl false (.int .i64))) (.pair (.sl false (.pair (.int .i64) (.pair (.int .i64) (.pair (.int .i64) (.sl false (.pair (.int .i64) (.pair (.int .i64) (.pair (.int .i64) .str)))))))) (.sl false (.pair (.int .i64) (.pair (.pair (.int .i64) (.sl false (.int .i64))) (.pair (.pair (.int .i64) (.pair (.int .i64) (.pair (.int .i64) .str))) (.sl false (.int .i64))))))))))))), .cell (.int .i64)] [] [.cell (.int .i64)] []
noncomputable def fn_laws_szDaemon : TFn := ⟨71, [.agg (.pair (.int .i64) (.pair .bool (.pair (.pair (.int .i64) (.pair (.pair (.int .i64) (.sl false (.int .i64))) (.pair (.sl false (.pair (.int .i64) (.pair (.int .i64) (.pair (.int .i64) .str)))) (.pair (.sl false (.int .i64)) (.pair (.sl false .str) (.pair (.int .i64) (.pair (.int .i64) (.pair (.int .i64) (.pair (.int .i64) (.pair (.int .i64) (.pair (.int .i64) (.pair (.int .i64) (.pair (.int .i64) (.pair (.int .i64) (.sl false (.int .i64)))))))))))))))) (.pair (.int .i64) (.pair (.int .i64) (.pair (.pair (.int .i64) (.sl false (.int .i64))) (.pair (.sl false (.pair (.int .i64) (.pair (.int .i64) (.pair (.int .i64) (.sl false (.pair (.int .i64) (.pair (.int .i64) (.pair (.int .i64) .str)))))))) (.sl false (.pair (.int .i64) (.pair (.pair (.int .i64) (.sl false (.int .i64))) (.pair (.pair (.int .i64) (.pair (.int .i64) (.pair (.int .i64) .str))) (.sl false (.int .i64))))))))))))), .cell (.int .i64)], [], [.cell (.int .i64)], [], T_laws_szDaemon⟩
theorem ok_laws_szDaemon : FnOk Tryz.prog fn_laws_szDaemon := evF_ok mixed (allOk_cons ok_laws_szMate (allOk_cons ok_laws_szRing (allOk_cons ok_laws_szBundleS (allOk_cons ok_laws_szEventS allOk_nil)))) m_laws_szDaemon (by decide)
def B_laws_szDaemonS_1 : TC := (.seq (.seq (.reg none [.p (.mv 12 (.t 5)) .unit,
  .p (.mv 13 (.t 0)) .unit,
  .p (.lenB 14 (.t 13)) .unit,
  .p (.bin 15 false .lss (.t 12) (.t 14)) .unit])
 (.cond (.t 15) .skip (.exit 0)))
 (.seq (.block 1 (.seq (.reg none [.p (.mv 18 (.t 0)) .unit,
  .p (.mv 19 (.t 5)) .unit,
  .p (.iadr 20 24 (.t 18) (.t 19)) .unit,
  .p (.load 21 (.t 20) 24 true) .unit,
  .p (.mv 22 (.t 1)) .unit,
  .p (.callB 23 n_laws_szDaemon [((.t 21), 0), ((.t 22), 0)]) .unit,
  .p (.mv 1 (.t 23)) .unit])
 (.seq (.reg none [.p (.mv 24 (.t 1)) .unit,
  .p (.bin 25 false .lss (.t 24) (.c (.int .i64 0))) .unit])
 (.cond (.t 25) (.seq (.reg none [.p (.mv 4 (.c (.int .i64 (-1)))) .unit])
 .ret) .skip))))
 (.reg none [.p (.mv 16 (.t 5)) .unit,
  .p (.bin 17 false .add (.t 16) (.c (.int .i64 1))) .unit,
  .p (.mv 5 (.t 17)) .unit])))
noncomputable def L_laws_szDaemonS_1 : Nat → (List (Int × Bool × (Int × (Int × List (Int)) × List (Int × Int × Int × List UInt8) × List (Int) × List (List UInt8) × Int × Int × Int × Int × Int × Int × Int × Int × Int × List (Int)) × Int × Int × (Int × List (Int)) × List (Int × Int × Int × List (Int × Int × Int × List UInt8)) × List (Int × (Int × List (Int)) × (Int × Int × Int × List UInt8) × List (Int)))) × (Int) × Int → Option ((Int) ⊕ (Int)) := evL [fn_laws_szDaemon] (finT [.t 4] [] [.cell (.int .i64)]) 0 ⟨[(0, true), (1, false), (5, false)], [.cell (.sl false (.pair (.int .i64) (.pair .bool (.pair (.pair (.int .i64) (.pair (.pair (.int .i64) (.sl false (.int .i64))) (.pair (.sl false (.pair (.int .i64) (.pair (.int .i64) (.pair (.int .i64) .str)))) (.pair (.sl false (.int .i64)) (.pair (.sl false .str) (.pair (.int .i64) (.pair (.int .i64) (.pair (.int .i64) (.pair (.int .i64) (.pair (.int .i64) (.pair (.int .i64) (.pair (.int .i64) (.pair (.int .i64) (.pair (.int .i64) (.sl false (.int .i64)))))))))))))))) (.pair (.int .i64) (.pair (.int .i64) (.pair (.pair (.int .i64) (.sl false (.int .i64))) (.pair (.sl false (.pair (.int .i64) (.pair (.int .i64) (.pair (.int .i64) (.sl false (.pair (.int .i64) (.pair (.int .i64) (.pair (.int .i64) .str)))))))) (.sl false (.pair (.int .i64) (.pair (.pair (.int .i64) (.sl false (.int .i64))) (.pair (.pair (.int .i64) (.pair (.int .i64) (.pair (.int .i64) .str))) (.sl false (.int .i64)))))))))))))), .cell (.int .i64), .cell (.int .i64)]⟩ ⟨[(1, false)], [.cell (.int .i64)]⟩ B_laws_szDaemonS_1
def F_laws_szDaemonS : TF := ⟨(.seq (.reg none [.p (.mv 4 (.c (.int .i64 0))) .unit])
 (.seq (.reg none [.p (.mv 6 (.t 1)) .unit,
  .p (.mv 7 (.t 0)) .unit,
  .p (.lenB 8 (.t 7)) .unit,
  .p (.bin 9 false .sub (.t 6) (.t 8)) .unit,
  .p (.mv 1 (.t 9)) .unit])
 (.seq (.seq (.reg none [.p (.mv 10 (.t 1)) .unit,
  .p (.bin 11 false .lss (.t 10) (.c (.int .i64 0))) .unit])
 (.cond (.t 11) (.seq (.reg none [.p (.mv 4 (.c (.int .i64 (-1)))) .unit])
 .ret) .skip))
 (.seq (.seq (.reg none [.p (.mv 5 (.c (.int .i64 0))) .unit])
 (.jl 0 ⟨[(0, true), (1, false), (5, false)], [.cell (.sl false (.pair (.int .i64) (.pair .bool (.pair (.pair (.int .i64) (.pair (.pair (.int .i64) (.sl false (.int .i64))) (.pair (.sl false (.pair (.int .i64) (.pair (.int .i64) (.pair (.int .i64) .str)))) (.pair (.sl false (.int .i64)) (.pair (.sl false .str) (.pair (.int .i64) (.pair (.int .i64) (.pair (.int .i64) (.pair (.int .i64) (.pair (.int .i64) (.pair (.int .i64) (.pair (.int .i64) (.pair (.int .i64) (.pair (.int .i64) (.sl false (.int .i64)))))))))))))))) (.pair (.int .i64) (.pair (.int .i64) (.pair (.pair (.int .i64) (.sl false (.int .i64))) (.pair (.sl false (.pair (.int .i64) (.pair (.int .i64) (.pair (.int .i64) (.sl false (.pair (.int .i64) (.pair (.int .i64) (.pair (.int .i64) .str)))))))) (.sl false (.pair (.int .i64) (.pair (.pair (.int .i64) (.sl false (.int .i64))) (.pair (.pair (.int .i64) (.pair (.int .i64) (.pair (.int .i64) .str))) (.sl false (.int .i64)))))))))))))), .cell (.int .i64), .cell (.int .i64)]⟩ ⟨[(1, false)], [.cell (.int .i64)]⟩ B_laws_szDaemonS_1))
 (.seq (.reg none [.p (.mv 26 (.t 1)) .unit,
  .p (.mv 4 (.t 26)) .unit])
 .ret))))),
 27, 2, [.t 4]⟩
theorem m_laws_szDaemonS : mH Tryz.prog 43 [] = some (F_laws_szDaemonS.code.x, F_laws_szDaemonS.N, F_laws_szDaemonS.np, F_laws_szDaemonS.res) := by kernel_rfl
noncomputable def T_laws_szDaemonS : (List (Int × Bool × (Int × (Int × List (Int)) × List (Int × Int × Int × List UInt8) × List (Int) × List (List UInt8) × Int × Int × Int × Int × Int × Int × Int × Int × Int × List (Int)) × Int × Int × (Int × List (Int)) × List (Int × Int × Int × List (Int × Int × Int × List UInt8)) × List (Int × (Int × List (Int)) × (Int × Int × Int × List UInt8) × List (Int)))) × Int → Option (Int) := evF [fn_laws_szDaemon] F_laws_szDaemonS [.cell (.sl false (.pair (.int .i64) (.pair .bool (.pair (.pair (.int .i64) (.pair (.pair (.int .i64) (.sl false (.int .i64))) (.pair (.sl false (.pair (.int .i64) (.pair (.int .i64) (.pair (.int .i64) .str)))) (.pair (.sl false (.int .i64)) (.pair (.sl false .str) (.pair (.int .i64) (.pair (.int .i64) (.pair (.int .i64) (.pair (.int .i64) (.pair (.int .i64) (.pair (.int .i64) (.pair (.int .i64) (.pair (.int .i64) (.pair (.int .i64) (.sl false (.int .i64)))))))))))))))) (.pair (.int .i64) (.pair (.int .i64) (.pair (.pair (.int .i64) (.sl false (.int .i64))) (.pair (.sl false (.pair (.int .i64) (.pair (.int .i64) (.pair (.int .i64) (.sl false (.pair (.int .i64) (.pair (.int .i64) (.pair (.int .i64) .str)))))))) (.sl false (.pair (.int .i64) (.pair (.pair (.int .i64) (.sl false (.int .i64))) (.pair (.pair (.int .i64) (.pair (.int .i64) (.pair (.int .i64) .str))) (.sl false (.int .i64)))))))))))))), .cell (.int .i64)] [] [.cell (.int .i64)] []
noncomputable def fn_laws_szDaemonS : TFn := ⟨43, [.cell (.sl false (.pair (.int .i64) (.pair .bool (.pair (.pair (.int .i64) (.pair (.pair (.int .i64) (.sl false (.int .i64))) (.pair (.sl false (.pair (.int .i64) (.pair (.int .i64) (.pair (.int .i64) .str)))) (.pair (.sl false (.int .i64)) (.pair (.sl false .str) (.pair (.int .i64) (.pair (.int .i64) (.pair (.int .i64) (.pair (.int .i64) (.pair (.int .i64) (.pair (.int .i64) (.pair (.int .i64) (.pair (.int .i64) (.pair (.int .i64) (.sl false (.int .i64)))))))))))))))) (.pair (.int .i64) (.pair (.int .i64) (.pair (.pair (.int .i64) (.sl false (.int .i64))) (.pair (.sl false (.pair (.int .i64) (.pair (.int .i64) (.pair (.int .i64) (.sl false (.pair (.int .i64) (.pair (.int .i64) (.pair (.int .i64) .str)))))))) (.sl false (.pair (.int .i64) (.pair (.pair (.int .i64) (.sl false (.int .i64))) (.pair (.pair (.int .i64) (.pair (.int .i64) (.pair (.int .i64) .str))) (.sl false (.int .i64)))))))))))))), .cell (.int .i64)], [], [.cell (.int .i64)], [], T_laws_szDaemonS⟩
theorem ok_laws_szDaemonS : FnOk Tryz.prog fn_laws_szDaemonS := evF_ok mixed (allOk_cons ok_laws_szDaemon allOk_nil) m_laws_szDaemonS (by decide)
def F_laws_szLetter : TF := ⟨(.seq (.reg none [.p (.box 2 (.t 0)) .unit,
  .p (.mv 4 (.c (.int .i64 0))) .unit])
 (.seq (.reg none [.p (.fadr 5 (.t 2) 3) .unit,
  .p (.load 6 (.t 5) 4 true) .unit,
  .p (.mv 7 (.t 1)) .unit,
  .p (.callB 8 n_laws_szItem [((.t 6), 0), ((.t 7), 0)]) .unit,
  .p (.mv 1 (.t 8)) .unit])
 (.seq (.seq (.reg none [.p (.mv 9 (.t 1)) .unit,
  .p (.bin 10 false .lss (.t 9) (.c (.int .i64 0))) .unit])
 (.cond (.t 10) (.seq (.reg none [.p (.mv 4 (.c (.int .i64 (-1)))) .unit])
 .ret) .skip))
 (.seq (.reg none [.p (.fadr 11 (.t 2) 7) .unit,
  .p (.load 12 (.t 11) 6 true) .unit,
  .p (.mv 13 (.t 1)) .unit,
  .p (.callB 14 n_laws_szToken [((.t 12), 0), ((.t 13), 0)]) .unit,
  .p (.mv 1 (.t 14)) .unit])
 (.seq (.seq (.reg none [.p (.mv 15 (.t 1)) .unit,
  .p (.bin 16 false .lss (.t 15) (.c (.int .i64 0))) .unit])
 (.cond (.t 16) (.seq (.reg none [.p (.mv 4 (.c (.int .i64 (-1)))) .unit])
 .ret) .skip))
 (.seq (.reg none [.p (.fadr 17 (.t 2) 13) .unit,
  .p (.load 18 (.t 17) 4 true) .unit,
  .p (.mv 19 (.t 1)) .unit,
  .p (.callB 20 n_laws_szBundle [((.t 18), 0), ((.t 19), 0)]) .unit,
  .p (.mv 1 (.t 20)) .unit])
 (.seq (.seq (.reg none [.p (.mv 21 (.t 1)) .unit,
  .p (.bin 22 false .lss (.t 21) (.c (.int .i64 0))) .unit])
 (.cond (.t 22) (.seq (.reg none [.p (.mv 4 (.c (.int .i64 (-1)))) .unit])
 .ret) .skip))
 (.seq (.reg none [.p (.mv 23 (.t 1)) .unit,
  .p (.mv 4 (.t 23)) .unit])
 .ret)))))))),
 24, 2, [.t 4]⟩
theorem m_laws_szLetter : mH Tryz.prog 72 [] = some (F_laws_szLetter.code.x, F_laws_szLetter.N, F_laws_szLetter.np, F_laws_szLetter.res) := by kernel_rfl
noncomputable def T_laws_szLetter : (Int × Int × Int × (Int × Int × Int × List UInt8) × (Int × Int × Int × Int × Int × List (Int)) × Int × Int × Int × List (Int × Int × Int × List UInt8)) × Int → Option (Int) := evF [fn_laws_szItem, fn_laws_szToken, fn_laws_szBundle] F_laws_szLetter [.agg (.pair (.int .i64) (.pair (.int .i64) (.pair (.int .i64) (.pair (.pair (.int .i64) (.pair (.int .i64) (.pair (.int .i64) .str))) (.pair (.pair (.int .i64) (.pair (.int .i64) (.pair (.int .i64) (.pair (.int .i64) (.pair (.int .i64) (.sl false (.int .i64))))))) (.pair (.int .i64) (.pair (.int .i64) (.pair (.int .i64) (.sl false (.pair (.int .i64) (.pair (.int .i64) (.pair (.int .i64) .str)))))))))))), .cell (.int .i64)] [] [.cell (.int .i64)] []
noncomputable def fn_laws_szLetter : TFn := ⟨72, [.agg (.pair (.int .i64) (.pair (.int .i64) (.pair (.int .i64) (.pair (.pair (.int .i64) (.pair (.int .i64) (.pair (.int .i64) .str))) (.pair (.pair (.int .i64) (.pair (.int .i64) (.pair (.int .i64) (.pair (.int .i64) (.pair (.int .i64) (.sl false (.int .i64))))))) (.pair (.int .i64) (.pair (.int .i64) (.pair (.int .i64) (.sl false (.pair (.int .i64) (.pair (.int .i64) (.pair (.int .i64) .str)))))))))))), .cell (.int .i64)], [], [.cell (.int .i64)], [], T_laws_szLetter⟩
theorem ok_laws_szLetter : FnOk Tryz.prog fn_laws_szLetter := evF_ok mixed (allOk_cons ok_laws_szItem (allOk_cons ok_laws_szToken (allOk_cons ok_laws_szBundle allOk_nil))) m_laws_szLetter (by decide)
def B_laws_szLetterS_1 : TC := (.seq (.seq (.reg none [.p (.mv 12 (.t 5)) .unit,
  .p (.mv 13 (.t 0)) .unit,
  .p (.lenB 14 (.t 13)) .unit,
  .p (.bin 15 false .lss (.t 12) (.t 14)) .unit])
 (.cond (.t 15) .skip (.exit 0)))
 (.seq (.block 1 (.seq (.reg none [.p (.mv 18 (.t 0)) .unit,
  .p (.mv 19 (.t 5)) .unit,
  .p (.iadr 20 17 (.t 18) (.t 19)) .unit,
  .p (.load 21 (.t 20) 17 true) .unit,
  .p (.mv 22 (.t 1)) .unit,
  .p (.callB 23 n_laws_szLetter [((.t 21), 0), ((.t 22), 0)]) .unit,
  .p (.mv 1 (.t 23)) .unit])
 (.seq (.reg none [.p (.mv 24 (.t 1)) .unit,
  .p (.bin 25 false .lss (.t 24) (.c (.int .i64 0))) .unit])
 (.cond (.t 25) (.seq (.reg none [.p (.mv 4 (.c (.int .i64 (-1)))) .unit])
 .ret) .skip))))
 (.reg none [.p (.mv 16 (.t 5)) .unit,
  .p (.bin 17 false .add (.t 16) (.c (.int .i64 1))) .unit,
  .p (.mv 5 (.t 17)) .unit])))
noncomputable def L_laws_szLetterS_1 : Nat → (List (Int × Int × Int × (Int × Int × Int × List UInt8) × (Int × Int × Int × Int × Int × List (Int)) × Int × Int × Int × List (Int × Int × Int × List UInt8))) × (Int) × Int → Option ((Int) ⊕ (Int)) := evL [fn_laws_szLetter] (finT [.t 4] [] [.cell (.int .i64)]) 0 ⟨[(0, true), (1, false), (5, false)], [.cell (.sl false (.pair (.int .i64) (.pair (.int .i64) (.pair (.int .i64) (.pair (.pair (.int .i64) (.pair (.int .i64) (.pair (.int .i64) .str))) (.pair (.pair (.int .i64) (.pair (.int .i64) (.pair (.int .i64) (.pair (.int .i64) (.pair (.int .i64) (.sl false (.int .i64))))))) (.pair (.int .i64) (.pair (.int .i64) (.pair (.int .i64) (.sl false (.pair (.int .i64) (.pair (.int .i64) (.pair (.int .i64) .str))))))))))))), .cell (.int .i64), .cell (.int .i64)]⟩ ⟨[(1, false)], [.cell (.int .i64)]⟩ B_laws_szLetterS_1
def F_laws_szLetterS : TF := ⟨(.seq (.reg none [.p (.mv 4 (.c (.int .i64 0))) .unit])
 (.seq (.reg none [.p (.mv 6 (.t 1)) .unit,
  .p (.mv 7 (.t 0)) .unit,
  .p (.lenB 8 (.t 7)) .unit,
  .p (.bin 9 false .sub (.t 6) (.t 8)) .unit,
  .p (.mv 1 (.t 9)) .unit])
 (.seq (.seq (.reg none [.p (.mv 10 (.t 1)) .unit,
  .p (.bin 11 false .lss (.t 10) (.c (.int .i64 0))) .unit])
 (.cond (.t 11) (.seq (.reg none [.p (.mv 4 (.c (.int .i64 (-1)))) .unit])
 .ret) .skip))
 (.seq (.seq (.reg none [.p (.mv 5 (.c (.int .i64 0))) .unit])
 (.jl 0 ⟨[(0, true), (1, false), (5, false)], [.cell (.sl false (.pair (.int .i64) (.pair (.int .i64) (.pair (.int .i64) (.pair (.pair (.int .i64) (.pair (.int .i64) (.pair (.int .i64) .str))) (.pair (.pair (.int .i64) (.pair (.int .i64) (.pair (.int .i64) (.pair (.int .i64) (.pair (.int .i64) (.sl false (.int .i64))))))) (.pair (.int .i64) (.pair (.int .i64) (.pair (.int .i64) (.sl false (.pair (.int .i64) (.pair (.int .i64) (.pair (.int .i64) .str))))))))))))), .cell (.int .i64), .cell (.int .i64)]⟩ ⟨[(1, false)], [.cell (.int .i64)]⟩ B_laws_szLetterS_1))
 (.seq (.reg none [.p (.mv 26 (.t 1)) .unit,
  .p (.mv 4 (.t 26)) .unit])
 .ret))))),
 27, 2, [.t 4]⟩
theorem m_laws_szLetterS : mH Tryz.prog 44 [] = some (F_laws_szLetterS.code.x, F_laws_szLetterS.N, F_laws_szLetterS.np, F_laws_szLetterS.res) := by kernel_rfl
noncomputable def T_laws_szLetterS : (List (Int × Int × Int × (Int × Int × Int × List UInt8) × (Int × Int × Int × Int × Int × List (Int)) × Int × Int × Int × List (Int × Int × Int × List UInt8))) × Int → Option (Int) := evF [fn_laws_szLetter] F_laws_szLetterS [.cell (.sl false (.pair (.int .i64) (.pair (.int .i64) (.pair (.int .i64) (.pair (.pair (.int .i64) (.pair (.int .i64) (.pair (.int .i64) .str))) (.pair (.pair (.int .i64) (.pair (.int .i64) (.pair (.int .i64) (.pair (.int .i64) (.pair (.int .i64) (.sl false (.int .i64))))))) (.pair (.int .i64) (.pair (.int .i64) (.pair (.int .i64) (.sl false (.pair (.int .i64) (.pair (.int .i64) (.pair (.int .i64) .str))))))))))))), .cell (.int .i64)] [] [.cell (.int .i64)] []
noncomputable def fn_laws_szLetterS : TFn := ⟨44, [.cell (.sl false (.pair (.int .i64) (.pair (.int .i64) (.pair (.int .i64) (.pair (.pair (.int .i64) (.pair (.int .i64) (.pair (.int .i64) .str))) (.pair (.pair (.int .i64) (.pair (.int .i64) (.pair (.int .i64) (.pair (.int .i64) (.pair (.int .i64) (.sl false (.int .i64))))))) (.pair (.int .i64) (.pair (.int .i64) (.pair (.int .i64) (.sl false (.pair (.int .i64) (.pair (.int .i64) (.pair (.int .i64) .str))))))))))))), .cell (.int .i64)], [], [.cell (.int .i64)], [], T_laws_szLetterS⟩
theorem ok_laws_szLetterS : FnOk Tryz.prog fn_laws_szLetterS := evF_ok mixed (allOk_cons ok_laws_szLetter allOk_nil) m_laws_szLetterS (by decide)
def F_laws_szWorld : TF := ⟨(.seq (.reg none [.p (.box 2 (.t 0)) .unit,
  .p (.mv 4 (.c (.int .i64 0))) .unit])
 (.seq (.reg none [.p (.fadr 5 (.t 2) 0) .unit,
  .p (.load 6 (.t 5) 1 false) .unit,
  .p (.mv 7 (.t 1)) .unit,
  .p (.callB 8 n_laws_szRingS [((.t 6), 0), ((.t 7), 0)]) .unit,
  .p (.mv 1 (.t 8)) .unit])
 (.seq (.seq (.reg none [.p (.mv 9 (.t 1)) .unit,
  .p (.bin 10 false .lss (.t 9) (.c (.int .i64 0))) .unit])
 (.cond (.t 10) (.seq (.reg none [.p (.mv 4 (.c (.int .i64 (-1)))) .unit])
 .ret) .skip))
 (.seq (.reg none [.p (.fadr 11 (.t 2) 1) .unit,
  .p (.load 12 (.t 11) 1 false) .unit,
  .p (.mv 13 (.t 1)) .unit,
  .p (.callB 14 n_laws_szDaemonS [((.t 12), 0), ((.t 13), 0)]) .unit,
  .p (.mv 1 (.t 14)) .unit])
 (.seq (.seq (.reg none [.p (.mv 15 (.t 1)) .unit,
  .p (.bin 16 false .lss (.t 15) (.c (.int .i64 0))) .unit])
 (.cond (.t 16) (.seq (.reg none [.p (.mv 4 (.c (.int .i64 (-1)))) .unit])
 .ret) .skip))
 (.seq (.reg none [.p (.fadr 17 (.t 2) 2) .unit,
  .p (.load 18 (.t 17) 1 false) .unit,
  .p (.mv 19 (.t 1)) .unit,
  .p (.callB 20 n_laws_szLetterS [((.t 18), 0), ((.t 19), 0)]) .unit,
  .p (.mv 1 (.t 20)) .unit])
 (.seq (.seq (.reg none [.p (.mv 21 (.t 1)) .unit,
  .p (.bin 22 false .lss (.t 21) (.c (.int .i64 0))) .unit])
 (.cond (.t 22) (.seq (.reg none [.p (.mv 4 (.c (.int .i64 (-1)))) .unit])
 .ret) .skip))
 (.seq (.reg none [.p (.fadr 23 (.t 2) 3) .unit,
  .p (.load 24 (.t 23) 1 false) .unit,
  .p (.mv 25 (.t 1)) .unit,
  .p (.callB 26 n_laws_szEventS [((.t 24), 0), ((.t 25), 0)]) .unit,
  .p (.mv 1 (.t 26)) .unit])
 (.seq (.seq (.reg none [.p (.mv 27 (.t 1)) .unit,
  .p (.bin 28 false .lss (.t 27) (.c (.int .i64 0))) .unit])
 (.cond (.t 28) (.seq (.reg none [.p (.mv 4 (.c (.int .i64 (-1)))) .unit])
 .ret) .skip))
 (.seq (.reg none [.p (.mv 29 (.t 1)) .unit,
  .p (.mv 4 (.t 29)) .unit])
 .ret)))))))))),
 30, 2, [.t 4]⟩
theorem m_laws_szWorld : mH Tryz.prog 16 [] = some (F_laws_szWorld.code.x, F_laws_szWorld.N, F_laws_szWorld.np, F_laws_szWorld.res) := by kernel_rfl
noncomputable def T_laws_szWorld : (List (Int × List (Int)) × List (Int × Bool × (Int × (Int × List (Int)) × List (Int × Int × Int × List UInt8) × List (Int) × List (List UInt8) × Int × Int × Int × Int × Int × Int × Int × Int × Int × List (Int)) × Int × Int × (Int × List (Int)) × List (Int × Int × Int × List (Int × Int × Int × List UInt8)) × List (Int × (Int × List (Int)) × (Int × Int × Int × List UInt8) × List (Int))) × List (Int × Int × Int × (Int × Int × Int × List UInt8) × (Int × Int × Int × Int × Int × List (Int)) × Int × Int × Int × List (Int × Int × Int × List UInt8)) × List (Int × (Int × List (Int)) × (Int × Int × Int × List UInt8) × List (Int))) × Int → Option (Int) := evF [fn_laws_szRingS, fn_laws_szDaemonS, fn_laws_szLetterS, fn_laws_szEventS] F_laws_szWorld [.agg (.pair (.sl false (.pair (.int .i64) (.sl false (.int .i64)))) (.pair (.sl false (.pair (.int .i64) (.pair .bool (.pair (.pair (.int .i64) (.pair (.pair (.int .i64) (.sl false (.int .i64))) (.pair (.sl false (.pair (.int .i64) (.pair (.int .i64) (.pair (.int .i64) .str)))) (.pair (.sl false (.int .i64)) (.pair (.sl false .str) (.pair (.int .i64) (.pair (.int .i64) (.pair (.int .i64) (.pair (.int .i64) (.pair (.int .i64) (.pair (.int .i64) (.pair (.int .i64) (.pair (.int .i64) (.pair (.int .i64) (.sl false (.int .i64)))))))))))))))) (.pair (.int .i64) (.pair (.int .i64) (.pair (.pair (.int .i64) (.sl false (.int .i64))) (.pair (.sl false (.pair (.int .i64) (.pair (.int .i64) (.pair (.int .i64) (.sl false (.pair (.int .i64) (.pair (.int .i64) (.pair (.int .i64) .str)))))))) (.sl false (.pair (.int .i64) (.pair (.pair (.int .i64) (.sl false (.int .i64))) (.pair (.pair (.int .i64) (.pair (.int .i64) (.pair (.int .i64) .str))) (.sl false (.int .i64)))))))))))))) (.pair (.sl false (.pair (.int .i64) (.pair (.int .i64) (.pair (.int .i64) (.pair (.pair (.int .i64) (.pair (.int .i64) (.pair (.int .i64) .str))) (.pair (.pair (.int .i64) (.pair (.int .i64) (.pair (.int .i64) (.pair (.int .i64) (.pair (.int .i64) (.sl false (.int .i64))))))) (.pair (.int .i64) (.pair (.int .i64) (.pair (.int .i64) (.sl false (.pair (.int .i64) (.pair (.int .i64) (.pair (.int .i64) .str))))))))))))) (.sl false (.pair (.int .i64) (.pair (.pair (.int .i64) (.sl false (.int .i64))) (.pair (.pair (.int .i64) (.pair (.int .i64) (.pair (.int .i64) .str))) (.sl false (.int .i64))))))))), .cell (.int .i64)] [] [.cell (.int .i64)] []
noncomputable def fn_laws_szWorld : TFn := ⟨16, [.agg (.pair (.sl false (.pair (.int .i64) (.sl false (.int .i64)))) (.pair (.sl false (.pair (.int .i64) (.pair .bool (.pair (.pair (.int .i64) (.pair (.pair (.int .i64) (.sl false (.int .i64))) (.pair (.sl false (.pair (.int .i64) (.pair (.int .i64) (.pair (.int .i64) .str)))) (.pair (.sl false (.int .i64)) (.pair (.sl false .str) (.pair (.int .i64) (.pair (.int .i64) (.pair (.int .i64) (.pair (.int .i64) (.pair (.int .i64) (.pair (.int .i64) (.pair (.int .i64) (.pair (.int .i64) (.pair (.int .i64) (.sl false (.int .i64)))))))))))))))) (.pair (.int .i64) (.pair (.int .i64) (.pair (.pair (.int .i64) (.sl false (.int .i64))) (.pair (.sl false (.pair (.int .i64) (.pair (.int .i64) (.pair (.int .i64) (.sl false (.pair (.int .i64) (.pair (.int .i64) (.pair (.int .i64) .str)))))))) (.sl false (.pair (.int .i64) (.pair (.pair (.int .i64) (.sl false (.int .i64))) (.pair (.pair (.int .i64) (.pair (.int .i64) (.pair (.int .i64) .str))) (.sl false (.int .i64)))))))))))))) (.pair (.sl false (.pair (.int .i64) (.pair (.int .i64) (.pair (.int .i64) (.pair (.pair (.int .i64) (.pair (.int .i64) (.pair (.int .i64) .str))) (.pair (.pair (.int .i64) (.pair (.int .i64) (.pair (.int .i64) (.pair (.int .i64) (.pair (.int .i64) (.sl false (.int .i64))))))) (.pair (.int .i64) (.pair (.int .i64) (.pair (.int .i64) (.sl false (.pair (.int .i64) (.pair (.int .i64) (.pair (.int .i64) .str))))))))))))) (.sl false (.pair (.int .i64) (.pair (.pair (.int .i64) (.sl false (.int .i64))) (.pair (.pair (.int .i64) (.pair (.int .i64) (.pair (.int .i64) .str))) (.sl false (.int .i64))))))))), .cell (.int .i64)], [], [.cell (.int .i64)], [], T_laws_szWorld⟩
theorem ok_laws_szWorld : FnOk Tryz.prog fn_laws_szWorld := evF_ok mixed (allOk_cons ok_laws_szRingS (allOk_cons ok_laws_szDaemonS (allOk_cons ok_laws_szLetterS (allOk_cons ok_laws_szEventS allOk_nil)))) m_laws_szWorld (by decide)
def F_laws_szReader : TF := ⟨(.seq (.reg none [.p (.box 2 (.t 0)) .unit,
  .p (.mv 4 (.c (.int .i64 0))) .unit])
 (.seq (.reg none [.p (.mv 5 (.t 1)) .unit,
  .p (.fadr 6 (.t 2) 0) .unit,
  .p (.load 7 (.t 6) 1 false) .unit,
  .p (.lenS 8 (.t 7)) .unit,
  .p (.bin 9 false .sub (.t 5) (.t 8)) .unit,
  .p (.mv 1 (.t 9)) .unit])
 (.seq (.seq (.reg none [.p (.mv 10 (.t 1)) .unit,
  .p (.bin 11 false .lss (.t 10) (.c (.int .i64 0))) .unit])
 (.cond (.t 11) (.seq (.reg none [.p (.mv 4 (.c (.int .i64 (-1)))) .unit])
 .ret) .skip))
 (.seq (.reg none [.p (.mv 12 (.t 1)) .unit,
  .p (.mv 4 (.t 12)) .unit])
 .ret)))),
 13, 2, [.t 4]⟩
theorem m_laws_szReader : mH Tryz.prog 101 [] = some (F_laws_szReader.code.x, F_laws_szReader.N, F_laws_szReader.np, F_laws_szReader.res) := by kernel_rfl
noncomputable def T_laws_szReader : (List UInt8 × Bool) × Int → Option (Int) := evF [] F_laws_szReader [.agg (.pair .str .bool), .cell (.int .i64)] [] [.cell (.int .i64)] []
noncomputable def fn_laws_szReader : TFn := ⟨101, [.agg (.pair .str .bool), .cell (.int .i64)], [], [.cell (.int .i64)], [], T_laws_szReader⟩
theorem ok_laws_szReader : FnOk Tryz.prog fn_laws_szReader := evF_ok mixed allOk_nil m_laws_szReader (by decide)
def F_laws_szSession : TF := ⟨(.seq (.reg none [.p (.box 2 (.t 0)) .unit,
  .p (.mv 4 (.c (.int .i64 0))) .unit])
 (.seq (.reg none [.p (.mv 5 (.t 1)) .unit,
  .p (.fadr 6 (.t 2) 1) .unit,
  .p (.load 7 (.t 6) 1 false) .unit,
  .p (.lenS 8 (.t 7)) .unit,
  .p (.bin 9 false .sub (.t 5) (.t 8)) .unit,
  .p (.mv 1 (.t 9)) .unit])
 (.seq (.seq (.reg none [.p (.mv 10 (.t 1)) .unit,
  .p (.bin 11 false .lss (.t 10) (.c (.int .i64 0))) .unit])
 (.cond (.t 11) (.seq (.reg none [.p (.mv 4 (.c (.int .i64 (-1)))) .unit])
 .ret) .skip))
 (.seq (.reg none [.p (.fadr 12 (.t 2) 2) .unit,
  .p (.load 13 (.t 12) 2 true) .unit,
  .p (.mv 14 (.t 1)) .unit,
  .p (.callB 15 n_laws_szReader [((.t 13), 0), ((.t 14), 0)]) .unit,
  .p (.mv 1 (.t 15)) .unit])
 (.seq (.seq (.reg none [.p (.mv 16 (.t 1)) .unit,
  .p (.bin 17 false .lss (.t 16) (.c (.int .i64 0))) .unit])
 (.cond (.t 17) (.seq (.reg none [.p (.mv 4 (.c (.int .i64 (-1)))) .unit])
 .ret) .skip))
 (.seq (.reg none [.p (.fadr 18 (.t 2) 5) .unit,
  .p (.load 19 (.t 18) 1 false) .unit,
  .p (.mv 20 (.t 1)) .unit,
  .p (.callB 21 n_laws_szStringS [((.t 19), 0), ((.t 20), 0)]) .unit,
  .p (.mv 1 (.t 21)) .unit])
 (.seq (.seq (.reg none [.p (.mv 22 (.t 1)) .unit,
  .p (.bin 23 false .lss (.t 22) (.c (.int .i64 0))) .unit])
 (.cond (.t 23) (.seq (.reg none [.p (.mv 4 (.c (.int .i64 (-1)))) .unit])
 .ret) .skip))
 (.seq (.reg none [.p (.mv 24 (.t 1)) .unit,
  .p (.mv 4 (.t 24)) .unit])
 .ret)))))))),
 25, 2, [.t 4]⟩
theorem m_laws_szSession : mH Tryz.prog 74 [] = some (F_laws_szSession.code.x, F_laws_szSession.N, F_laws_szSession.np, F_laws_szSession.res) := by kernel_rfl
noncomputable def T_laws_szSession : (Int × List UInt8 × (List UInt8 × Bool) × Bool × List (List UInt8)) × Int → Option (Int) := evF [fn_laws_szReader, fn_laws_szStringS] F_laws_szSession [.agg (.pair (.int .i64) (.pair .str (.pair (.pair .str .bool) (.pair .bool (.sl false .str))))), .cell (.int .i64)] [] [.cell (.int .i64)] []
noncomputable def fn_laws_szSession : TFn := ⟨74, [.agg (.pair (.int .i64) (.pair .str (.pair (.pair .str .bool) (.pair .bool (.sl false .str))))), .cell (.int .i64)], [], [.cell (.int .i64)], [], T_laws_szSession⟩
theorem ok_laws_szSession : FnOk Tryz.prog fn_laws_szSession := evF_ok mixed (allOk_cons ok_laws_szReader (allOk_cons ok_laws_szStringS allOk_nil)) m_laws_szSession (by decide)
def F_laws_szBox : TF := ⟨(.seq (.reg none [.p (.box 2 (.t 0)) .unit,
  .p (.mv 4 (.c (.int .i64 0))) .unit])
 (.seq (.reg none [.p (.mv 5 (.t 1)) .unit,
  .p (.fadr 6 (.t 2) 0) .unit,
  .p (.load 7 (.t 6) 1 false) .unit,
  .p (.lenS 8 (.t 7)) .unit,
  .p (.bin 9 false .sub (.t 5) (.t 8)) .unit,
  .p (.mv 1 (.t 9)) .unit])
 (.seq (.seq (.reg none [.p (.mv 10 (.t 1)) .unit,
  .p (.bin 11 false .lss (.t 10) (.c (.int .i64 0))) .unit])
 (.cond (.t 11) (.seq (.reg none [.p (.mv 4 (.c (.int .i64 (-1)))) .unit])
 .ret) .skip))
 (.seq (.reg none [.p (.fadr 12 (.t 2) 1) .unit,
  .p (.load 13 (.t 12) 1 false) .unit,
  .p (.mv 14 (.t 1)) .unit,
  .p (.callB 15 n_laws_szStringS [((.t 13), 0), ((.t 14), 0)]) .unit,
  .p (.mv 1 (.t 15)) .unit])
 (.seq (.seq (.reg none [.p (.mv 16 (.t 1)) .unit,
  .p (.bin 17 false .lss (.t 16) (.c (.int .i64 0))) .unit])
 (.cond (.t 17) (.seq (.reg none [.p (.mv 4 (.c (.int .i64 (-1)))) .unit])
 .ret) .skip))
 (.seq (.reg none [.p (.mv 18 (.t 1)) .unit,
  .p (.mv 4 (.t 18)) .unit])
 .ret)))))),
 19, 2, [.t 4]⟩
theorem m_laws_szBox : mH Tryz.prog 75 [] = some (F_laws_szBox.code.x, F_laws_szBox.N, F_laws_szBox.np, F_laws_szBox.res) := by kernel_rfl
noncomputable def T_laws_szBox : (List UInt8 × List (List UInt8) × Bool) × Int → Option (Int) := evF [fn_laws_szStringS] F_laws_szBox [.agg (.pair .str (.pair (.sl false .str) .bool)), .cell (.int .i64)] [] [.cell (.int .i64)] []
noncomputable def fn_laws_szBox : TFn := ⟨75, [.agg (.pair .str (.pair (.sl false .str) .bool)), .cell (.int .i64)], [], [.cell (.int .i64)], [], T_laws_szBox⟩
theorem ok_laws_szBox : FnOk Tryz.prog fn_laws_szBox := evF_ok mixed (allOk_cons ok_laws_szStringS allOk_nil) m_laws_szBox (by decide)
def F_laws_szCaller : TF := ⟨(.seq (.reg none [.p (.box 2 (.t 0)) .unit,
  .p (.mv 4 (.c (.int .i64 0))) .unit])
 (.seq (.reg none [.p (.fadr 5 (.t 2) 0) .unit,
  .p (.load 6 (.t 5) 6 true) .unit,
  .p (.mv 7 (.t 1)) .unit,
  .p (.callB 8 n_laws_szSession [((.t 6), 0), ((.t 7), 0)]) .unit,
  .p (.mv 1 (.t 8)) .unit])
 (.seq (.seq (.reg none [.p (.mv 9 (.t 1)) .unit,
  .p (.bin 10 false .lss (.t 9) (.c (.int .i64 0))) .unit])
 (.cond (.t 10) (.seq (.reg none [.p (.mv 4 (.c (.int .i64 (-1)))) .unit])
 .ret) .skip))
 (.seq (.reg none [.p (.fadr 11 (.t 2) 6) .unit,
  .p (.load 12 (.t 11) 3 true) .unit,
  .p (.mv 13 (.t 1)) .unit,
  .p (.callB 14 n_laws_szBox [((.t 12), 0), ((.t 13), 0)]) .unit,
  .p (.mv 1 (.t 14)) .unit])
 (.seq (.seq (.reg none [.p (.mv 15 (.t 1)) .unit,
  .p (.bin 16 false .lss (.t 15) (.c (.int .i64 0))) .unit])
 (.cond (.t 16) (.seq (.reg none [.p (.mv 4 (.c (.int .i64 (-1)))) .unit])
 .ret) .skip))
 (.seq (.reg none [.p (.mv 17 (.t 1)) .unit,
  .p (.fadr 18 (.t 2) 9) .unit,
  .p (.load 19 (.t 18) 1 false) .unit,
  .p (.lenS 20 (.t 19)) .unit,
  .p (.bin 21 false .sub (.t 17) (.t 20)) .unit,
  .p (.mv 1 (.t 21)) .unit])
 (.seq (.seq (.reg none [.p (.mv 22 (.t 1)) .unit,
  .p (.bin 23 false .lss (.t 22) (.c (.int .i64 0))) .unit])
 (.cond (.t 23) (.seq (.reg none [.p (.mv 4 (.c (.int .i64 (-1)))) .unit])
 .ret) .skip))
 (.seq (.reg none [.p (.fadr 24 (.t 2) 10) .unit,
  .p (.load 25 (.t 24) 1 false) .unit,
  .p (.mv 26 (.t 1)) .unit,
  .p (.callB 27 n_laws_szStringS [((.t 25), 0), ((.t 26), 0)]) .unit,
  .p (.mv 1 (.t 27)) .unit])
 (.seq (.seq (.reg none [.p (.mv 28 (.t 1)) .unit,
  .p (.bin 29 false .lss (.t 28) (.c (.int .i64 0))) .unit])
 (.cond (.t 29) (.seq (.reg none [.p (.mv 4 (.c (.int .i64 (-1)))) .unit])
 .ret) .skip))
 (.seq (.reg none [.p (.mv 30 (.t 1)) .unit,
  .p (.mv 4 (.t 30)) .unit])
 .ret)))))))))),
 31, 2, [.t 4]⟩
theorem m_laws_szCaller : mH Tryz.prog 46 [] = some (F_laws_szCaller.code.x, F_laws_szCaller.N, F_laws_szCaller.np, F_laws_szCaller.res) := by kernel_rfl
noncomputable def T_laws_szCaller : ((Int × List UInt8 × (List UInt8 × Bool) × Bool × List (List UInt8)) × (List UInt8 × List (List UInt8) × Bool) × List UInt8 × List (List UInt8)) × Int → Option (Int) := evF [fn_laws_szSession, fn_laws_szBox, fn_laws_szStringS] F_laws_szCaller [.agg (.pair (.pair (.int .i64) (.pair .str (.pair (.pair .str .bool) (.pair .bool (.sl false .str))))) (.pair (.pair .str (.pair (.sl false .str) .bool)) (.pair .str (.sl false .str)))), .cell (.int .i64)] [] [.cell (.int .i64)] []
noncomputable def fn_laws_szCaller : TFn := ⟨46, [.agg (.pair (.pair (.int .i64) (.pair .str (.pair (.pair .str .bool) (.pair .bool (.sl false .str))))) (.pair (.pair .str (.pair (.sl false .str) .bool)) (.pair .str (.sl false .str)))), .cell (.int .i64)], [], [.cell (.int .i64)], [], T_laws_szCaller⟩
theorem ok_laws_szCaller : FnOk Tryz.prog fn_laws_szCaller := evF_ok mixed (allOk_cons ok_laws_szSession (allOk_cons ok_laws_szBox (allOk_cons ok_laws_szStringS allOk_nil))) m_laws_szCaller (by decide)
def B_laws_szCallerS_1 : TC := (.seq (.seq (.reg none [.p (.mv 12 (.t 5)) .unit,
  .p (.mv 13 (.t 0)) .unit,
  .p (.lenB 14 (.t 13)) .unit,
  .p (.bin 15 false .lss (.t 12) (.t 14)) .unit])
 (.cond (.t 15) .skip (.exit 0)))
 (.seq (.block 1 (.seq (.reg none [.p (.mv 18 (.t 0)) .unit,
  .p (.mv 19 (.t 5)) .unit,
  .p (.iadr 20 11 (.t 18) (.t 19)) .unit,
  .p (.load 21 (.t 20) 11 true) .unit,
  .p (.mv 22 (.t 1)) .unit,
  .p (.callB 23 n_laws_szCaller [((.t 21), 0), ((.t 22), 0)]) .unit,
  .p (.mv 1 (.t 23)) .unit])
 (.seq (.reg none [.p (.mv 24 (.t 1)) .unit,
  .p (.bin 25 false .lss (.t 24) (.c (.int .i64 0))) .unit])
 (.cond (.t 25) (.seq (.reg none [.p (.mv 4 (.c (.int .i64 (-1)))) .unit])
 .ret) .skip))))
 (.reg none [.p (.mv 16 (.t 5)) .unit,
  .p (.bin 17 false .add (.t 16) (.c (.int .i64 1))) .unit,
  .p (.mv 5 (.t 17)) .unit])))
noncomputable def L_laws_szCallerS_1 : Nat → (List ((Int × List UInt8 × (List UInt8 × Bool) × Bool × List (List UInt8)) × (List UInt8 × List (List UInt8) × Bool) × List UInt8 × List (List UInt8))) × (Int) × Int → Option ((Int) ⊕ (Int)) := evL [fn_laws_szCaller] (finT [.t 4] [] [.cell (.int .i64)]) 0 ⟨[(0, true), (1, false), (5, false)], [.cell (.sl false (.pair (.pair (.int .i64) (.pair .str (.pair (.pair .str .bool) (.pair .bool (.sl false .str))))) (.pair (.pair .str (.pair (.sl false .str) .bool)) (.pair .str (.sl false .str))))), .cell (.int .i64), .cell (.int .i64)]⟩ ⟨[(1, false)], [.cell (.int .i64)]⟩ B_laws_szCallerS_1
def F_laws_szCallerS : TF := ⟨(.seq (.reg none [.p (.mv 4 (.c (.int .i64 0))) .unit])
 (.seq (.reg none [.p (.mv 6 (.t 1)) .unit,
  .p (.mv 7 (.t 0)) .unit,
  .p (.lenB 8 (.t 7)) .unit,
  .p (.bin 9 false .sub (.t 6) (.t 8)) .unit,
  .p (.mv 1 (.t 9)) .unit])
 (.seq (.seq (.reg none [.p (.mv 10 (.t 1)) .unit,
  .p (.bin 11 false .lss (.t 10) (.c (.int .i64 0))) .unit])
 (.cond (.t 11) (.seq (.reg none [.p (.mv 4 (.c (.int .i64 (-1)))) .unit])
 .ret) .skip))
 (.seq (.seq (.reg none [.p (.mv 5 (.c (.int .i64 0))) .unit])
 (.jl 0 ⟨[(0, true), (1, false), (5, false)], [.cell (.sl false (.pair (.pair (.int .i64) (.pair .str (.pair (.pair .str .bool) (.pair .bool (.sl false .str))))) (.pair (.pair .str (.pair (.sl false .str) .bool)) (.pair .str (.sl false .str))))), .cell (.int .i64), .cell (.int .i64)]⟩ ⟨[(1, false)], [.cell (.int .i64)]⟩ B_laws_szCallerS_1))
 (.seq (.reg none [.p (.mv 26 (.t 1)) .unit,
  .p (.mv 4 (.t 26)) .unit])
 .ret))))),
 27, 2, [.t 4]⟩
theorem m_laws_szCallerS : mH Tryz.prog 17 [] = some (F_laws_szCallerS.code.x, F_laws_szCallerS.N, F_laws_szCallerS.np, F_laws_szCallerS.res) := by kernel_rfl
noncomputable def T_laws_szCallerS : (List ((Int × List UInt8 × (List UInt8 × Bool) × Bool × List (List UInt8)) × (List UInt8 × List (List UInt8) × Bool) × List UInt8 × List (List UInt8))) × Int → Option (Int) := evF [fn_laws_szCaller] F_laws_szCallerS [.cell (.sl false (.pair (.pair (.int .i64) (.pair .str (.pair (.pair .str .bool) (.pair .bool (.sl false .str))))) (.pair (.pair .str (.pair (.sl false .str) .bool)) (.pair .str (.sl false .str))))), .cell (.int .i64)] [] [.cell (.int .i64)] []
noncomputable def fn_laws_szCallerS : TFn := ⟨17, [.cell (.sl false (.pair (.pair (.int .i64) (.pair .str (.pair (.pair .str .bool) (.pair .bool (.sl false .str))))) (.pair (.pair .str (.pair (.sl false .str) .bool)) (.pair .str (.sl false .str))))), .cell (.int .i64)], [], [.cell (.int .i64)], [], T_laws_szCallerS⟩
theorem ok_laws_szCallerS : FnOk Tryz.prog fn_laws_szCallerS := evF_ok mixed (allOk_cons ok_laws_szCaller allOk_nil) m_laws_szCallerS (by decide)
def F_laws_szGroup : TF := ⟨(.seq (.reg none [.p (.box 2 (.t 0)) .unit,
  .p (.mv 4 (.c (.int .i64 0))) .unit])
 (.seq (.reg none [.p (.mv 5 (.t 1)) .unit,
  .p (.fadr 6 (.t 2) 0) .unit,
  .p (.load 7 (.t 6) 1 false) .unit,
  .p (.lenS 8 (.t 7)) .unit,
  .p (.bin 9 false .sub (.t 5) (.t 8)) .unit,
  .p (.mv 1 (.t 9)) .unit])
 (.seq (.seq (.reg none [.p (.mv 10 (.t 1)) .unit,
  .p (.bin 11 false .lss (.t 10) (.c (.int .i64 0))) .unit])
 (.cond (.t 11) (.seq (.reg none [.p (.mv 4 (.c (.int .i64 (-1)))) .unit])
 .ret) .skip))
 (.seq (.reg none [.p (.fadr 12 (.t 2) 1) .unit,
  .p (.load 13 (.t 12) 1 false) .unit,
  .p (.mv 14 (.t 1)) .unit,
  .p (.callB 15 n_laws_szStringS [((.t 13), 0), ((.t 14), 0)]) .unit,
  .p (.mv 1 (.t 15)) .unit])
 (.seq (.seq (.reg none [.p (.mv 16 (.t 1)) .unit,
  .p (.bin 17 false .lss (.t 16) (.c (.int .i64 0))) .unit])
 (.cond (.t 17) (.seq (.reg none [.p (.mv 4 (.c (.int .i64 (-1)))) .unit])
 .ret) .skip))
 (.seq (.reg none [.p (.mv 18 (.t 1)) .unit,
  .p (.mv 4 (.t 18)) .unit])
 .ret)))))),
 19, 2, [.t 4]⟩
theorem m_laws_szGroup : mH Tryz.prog 102 [] = some (F_laws_szGroup.code.x, F_laws_szGroup.N, F_laws_szGroup.np, F_laws_szGroup.res) := by kernel_rfl
noncomputable def T_laws_szGroup : (List UInt8 × List (List UInt8)) × Int → Option (Int) := evF [fn_laws_szStringS] F_laws_szGroup [.agg (.pair .str (.sl false .str)), .cell (.int .i64)] [] [.cell (.int .i64)] []
noncomputable def fn_laws_szGroup : TFn := ⟨102, [.agg (.pair .str (.sl false .str)), .cell (.int .i64)], [], [.cell (.int .i64)], [], T_laws_szGroup⟩
theorem ok_laws_szGroup : FnOk Tryz.prog fn_laws_szGroup := evF_ok mixed (allOk_cons ok_laws_szStringS allOk_nil) m_laws_szGroup (by decide)
def B_laws_szGroupS_1 : TC := (.seq (.seq (.reg none [.p (.mv 12 (.t 5)) .unit,
  .p (.mv 13 (.t 0)) .unit,
  .p (.lenB 14 (.t 13)) .unit,
  .p (.bin 15 false .lss (.t 12) (.t 14)) .unit])
 (.cond (.t 15) .skip (.exit 0)))
 (.seq (.block 1 (.seq (.reg none [.p (.mv 18 (.t 0)) .unit,
  .p (.mv 19 (.t 5)) .unit,
  .p (.iadr 20 2 (.t 18) (.t 19)) .unit,
  .p (.load 21 (.t 20) 2 true) .unit,
  .p (.mv 22 (.t 1)) .unit,
  .p (.callB 23 n_laws_szGroup [((.t 21), 0), ((.t 22), 0)]) .unit,
  .p (.mv 1 (.t 23)) .unit])
 (.seq (.reg none [.p (.mv 24 (.t 1)) .unit,
  .p (.bin 25 false .lss (.t 24) (.c (.int .i64 0))) .unit])
 (.cond (.t 25) (.seq (.reg none [.p (.mv 4 (.c (.int .i64 (-1)))) .unit])
 .ret) .skip))))
 (.reg none [.p (.mv 16 (.t 5)) .unit,
  .p (.bin 17 false .add (.t 16) (.c (.int .i64 1))) .unit,
  .p (.mv 5 (.t 17)) .unit])))
noncomputable def L_laws_szGroupS_1 : Nat → (List (List UInt8 × List (List UInt8))) × (Int) × Int → Option ((Int) ⊕ (Int)) := evL [fn_laws_szGroup] (finT [.t 4] [] [.cell (.int .i64)]) 0 ⟨[(0, true), (1, false), (5, false)], [.cell (.sl false (.pair .str (.sl false .str))), .cell (.int .i64), .cell (.int .i64)]⟩ ⟨[(1, false)], [.cell (.int .i64)]⟩ B_laws_szGroupS_1
def F_laws_szGroupS : TF := ⟨(.seq (.reg none [.p (.mv 4 (.c (.int .i64 0))) .unit])
 (.seq (.reg none [.p (.mv 6 (.t 1)) .unit,
  .p (.mv 7 (.t 0)) .unit,
  .p (.lenB 8 (.t 7)) .unit,
  .p (.bin 9 false .sub (.t 6) (.t 8)) .unit,
  .p (.mv 1 (.t 9)) .unit])
 (.seq (.seq (.reg none [.p (.mv 10 (.t 1)) .unit,
  .p (.bin 11 false .lss (.t 10) (.c (.int .i64 0))) .unit])
 (.cond (.t 11) (.seq (.reg none [.p (.mv 4 (.c (.int .i64 (-1)))) .unit])
 .ret) .skip))
 (.seq (.seq (.reg none [.p (.mv 5 (.c (.int .i64 0))) .unit])
 (.jl 0 ⟨[(0, true), (1, false), (5, false)], [.cell (.sl false (.pair .str (.sl false .str))), .cell (.int .i64), .cell (.int .i64)]⟩ ⟨[(1, false)], [.cell (.int .i64)]⟩ B_laws_szGroupS_1))
 (.seq (.reg none [.p (.mv 26 (.t 1)) .unit,
  .p (.mv 4 (.t 26)) .unit])
 .ret))))),
 27, 2, [.t 4]⟩
theorem m_laws_szGroupS : mH Tryz.prog 77 [] = some (F_laws_szGroupS.code.x, F_laws_szGroupS.N, F_laws_szGroupS.np, F_laws_szGroupS.res) := by kernel_rfl
noncomputable def T_laws_szGroupS : (List (List UInt8 × List (List UInt8))) × Int → Option (Int) := evF [fn_laws_szGroup] F_laws_szGroupS [.cell (.sl false (.pair .str (.sl false .str))), .cell (.int .i64)] [] [.cell (.int .i64)] []
noncomputable def fn_laws_szGroupS : TFn := ⟨77, [.cell (.sl false (.pair .str (.sl false .str))), .cell (.int .i64)], [], [.cell (.int .i64)], [], T_laws_szGroupS⟩
theorem ok_laws_szGroupS : FnOk Tryz.prog fn_laws_szGroupS := evF_ok mixed (allOk_cons ok_laws_szGroup allOk_nil) m_laws_szGroupS (by decide)
def F_laws_szTable : TF := ⟨(.seq (.reg none [.p (.box 2 (.t 0)) .unit,
  .p (.mv 4 (.c (.int .i64 0))) .unit])
 (.seq (.reg none [.p (.fadr 5 (.t 2) 0) .unit,
  .p (.load 6 (.t 5) 1 false) .unit,
  .p (.mv 7 (.t 1)) .unit,
  .p (.callB 8 n_laws_szGroupS [((.t 6), 0), ((.t 7), 0)]) .unit,
  .p (.mv 1 (.t 8)) .unit])
 (.seq (.seq (.reg none [.p (.mv 9 (.t 1)) .unit,
  .p (.bin 10 false .lss (.t 9) (.c (.int .i64 0))) .unit])
 (.cond (.t 10) (.seq (.reg none [.p (.mv 4 (.c (.int .i64 (-1)))) .unit])
 .ret) .skip))
 (.seq (.reg none [.p (.mv 11 (.t 1)) .unit,
  .p (.mv 4 (.t 11)) .unit])
 .ret)))),
 12, 2, [.t 4]⟩
theorem m_laws_szTable : mH Tryz.prog 47 [] = some (F_laws_szTable.code.x, F_laws_szTable.N, F_laws_szTable.np, F_laws_szTable.res) := by kernel_rfl
noncomputable def T_laws_szTable : (List (List UInt8 × List (List UInt8))) × Int → Option (Int) := evF [fn_laws_szGroupS] F_laws_szTable [.agg (.sl false (.pair .str (.sl false .str))), .cell (.int .i64)] [] [.cell (.int .i64)] []
noncomputable def fn_laws_szTable : TFn := ⟨47, [.agg (.sl false (.pair .str (.sl false .str))), .cell (.int .i64)], [], [.cell (.int .i64)], [], T_laws_szTable⟩
theorem ok_laws_szTable : FnOk Tryz.prog fn_laws_szTable := evF_ok mixed (allOk_cons ok_laws_szGroupS allOk_nil) m_laws_szTable (by decide)
def B_laws_szTableS_1 : TC := (.seq (.seq (.reg none [.p (.mv 12 (.t 5)) .unit,
  .p (.mv 13 (.t 0)) .unit,
  .p (.lenB 14 (.t 13)) .unit,
  .p (.bin 15 false .lss (.t 12) (.t 14)) .unit])
 (.cond (.t 15) .skip (.exit 0)))
 (.seq (.block 1 (.seq (.reg none [.p (.mv 18 (.t 0)) .unit,
  .p (.mv 19 (.t 5)) .unit,
  .p (.iadr 20 1 (.t 18) (.t 19)) .unit,
  .p (.load 21 (.t 20) 1 true) .unit,
  .p (.mv 22 (.t 1)) .unit,
  .p (.callB 23 n_laws_szTable [((.t 21), 0), ((.t 22), 0)]) .unit,
  .p (.mv 1 (.t 23)) .unit])
 (.seq (.reg none [.p (.mv 24 (.t 1)) .unit,
  .p (.bin 25 false .lss (.t 24) (.c (.int .i64 0))) .unit])
 (.cond (.t 25) (.seq (.reg none [.p (.mv 4 (.c (.int .i64 (-1)))) .unit])
 .ret) .skip))))
 (.reg none [.p (.mv 16 (.t 5)) .unit,
  .p (.bin 17 false .add (.t 16) (.c (.int .i64 1))) .unit,
  .p (.mv 5 (.t 17)) .unit])))
noncomputable def L_laws_szTableS_1 : Nat → (List (List (List UInt8 × List (List UInt8)))) × (Int) × Int → Option ((Int) ⊕ (Int)) := evL [fn_laws_szTable] (finT [.t 4] [] [.cell (.int .i64)]) 0 ⟨[(0, true), (1, false), (5, false)], [.cell (.sl false (.sl false (.pair .str (.sl false .str)))), .cell (.int .i64), .cell (.int .i64)]⟩ ⟨[(1, false)], [.cell (.int .i64)]⟩ B_laws_szTableS_1
def F_laws_szTableS : TF := ⟨(.seq (.reg none [.p (.mv 4 (.c (.int .i64 0))) .unit])
 (.seq (.reg none [.p (.mv 6 (.t 1)) .unit,
  .p (.mv 7 (.t 0)) .unit,
  .p (.lenB 8 (.t 7)) .unit,
  .p (.bin 9 false .sub (.t 6) (.t 8)) .unit,
  .p (.mv 1 (.t 9)) .unit])
 (.seq (.seq (.reg none [.p (.mv 10 (.t 1)) .unit,
  .p (.bin 11 false .lss (.t 10) (.c (.int .i64 0))) .unit])
 (.cond (.t 11) (.seq (.reg none [.p (.mv 4 (.c (.int .i64 (-1)))) .unit])
 .ret) .skip))
 (.seq (.seq (.reg none [.p (.mv 5 (.c (.int .i64 0))) .unit])
 (.jl 0 ⟨[(0, true), (1, false), (5, false)], [.cell (.sl false (.sl false (.pair .str (.sl false .str)))), .cell (.int .i64), .cell (.int .i64)]⟩ ⟨[(1, false)], [.cell (.int .i64)]⟩ B_laws_szTableS_1))
 (.seq (.reg none [.p (.mv 26 (.t 1)) .unit,
  .p (.mv 4 (.t 26)) .unit])
 .ret))))),
 27, 2, [.t 4]⟩
theorem m_laws_szTableS : mH Tryz.prog 18 [] = some (F_laws_szTableS.code.x, F_laws_szTableS.N, F_laws_szTableS.np, F_laws_szTableS.res) := by kernel_rfl
noncomputable def T_laws_szTableS : (List (List (List UInt8 × List (List UInt8)))) × Int → Option (Int) := evF [fn_laws_szTable] F_laws_szTableS [.cell (.sl false (.sl false (.pair .str (.sl false .str)))), .cell (.int .i64)] [] [.cell (.int .i64)] []
noncomputable def fn_laws_szTableS : TFn := ⟨18, [.cell (.sl false (.sl false (.pair .str (.sl false .str)))), .cell (.int .i64)], [], [.cell (.int .i64)], [], T_laws_szTableS⟩
theorem ok_laws_szTableS : FnOk Tryz.prog fn_laws_szTableS := evF_ok mixed (allOk_cons ok_laws_szTable allOk_nil) m_laws_szTableS (by decide)
def F_laws_szHall : TF := ⟨(.seq (.reg none [.p (.box 2 (.t 0)) .unit,
  .p (.mv 4 (.c (.int .i64 0))) .unit])
 (.seq (.reg none [.p (.fadr 5 (.t 2) 0) .unit,
  .p (.load 6 (.t 5) 4 true) .unit,
  .p (.mv 7 (.t 1)) .unit,
  .p (.callB 8 n_laws_szWorld [((.t 6), 0), ((.t 7), 0)]) .unit,
  .p (.mv 1 (.t 8)) .unit])
 (.seq (.seq (.reg none [.p (.mv 9 (.t 1)) .unit,
  .p (.bin 10 false .lss (.t 9) (.c (.int .i64 0))) .unit])
 (.cond (.t 10) (.seq (.reg none [.p (.mv 4 (.c (.int .i64 (-1)))) .unit])
 .ret) .skip))
 (.seq (.reg none [.p (.fadr 11 (.t 2) 4) .unit,
  .p (.load 12 (.t 11) 1 false) .unit,
  .p (.mv 13 (.t 1)) .unit,
  .p (.callB 14 n_laws_szCallerS [((.t 12), 0), ((.t 13), 0)]) .unit,
  .p (.mv 1 (.t 14)) .unit])
 (.seq (.seq (.reg none [.p (.mv 15 (.t 1)) .unit,
  .p (.bin 16 false .lss (.t 15) (.c (.int .i64 0))) .unit])
 (.cond (.t 16) (.seq (.reg none [.p (.mv 4 (.c (.int .i64 (-1)))) .unit])
 .ret) .skip))
 (.seq (.reg none [.p (.fadr 17 (.t 2) 5) .unit,
  .p (.load 18 (.t 17) 1 false) .unit,
  .p (.mv 19 (.t 1)) .unit,
  .p (.callB 20 n_laws_szTableS [((.t 18), 0), ((.t 19), 0)]) .unit,
  .p (.mv 1 (.t 20)) .unit])
 (.seq (.seq (.reg none [.p (.mv 21 (.t 1)) .unit,
  .p (.bin 22 false .lss (.t 21) (.c (.int .i64 0))) .unit])
 (.cond (.t 22) (.seq (.reg none [.p (.mv 4 (.c (.int .i64 (-1)))) .unit])
 .ret) .skip))
 (.seq (.reg none [.p (.fadr 23 (.t 2) 6) .unit,
  .p (.load 24 (.t 23) 1 false) .unit,
  .p (.mv 25 (.t 1)) .unit,
  .p (.callB 26 n_laws_szIntS [((.t 24), 0), ((.t 25), 0)]) .unit,
  .p (.mv 1 (.t 26)) .unit])
 (.seq (.seq (.reg none [.p (.mv 27 (.t 1)) .unit,
  .p (.bin 28 false .lss (.t 27) (.c (.int .i64 0))) .unit])
 (.cond (.t 28) (.seq (.reg none [.p (.mv 4 (.c (.int .i64 (-1)))) .unit])
 .ret) .skip))
 (.seq (.reg none [.p (.mv 29 (.t 1)) .unit,
  .p (.mv 4 (.t 29)) .unit])
 .ret)))))))))),
 30, 2, [.t 4]⟩
theorem m_laws_szHall : mH Tryz.prog 5 [] = some (F_laws_szHall.code.x, F_laws_szHall.N, F_laws_szHall.np, F_laws_szHall.res) := by kernel_rfl
noncomputable def T_laws_szHall : ((List (Int × List (Int)) × List (Int × Bool × (Int × (Int × List (Int)) × List (Int × Int × Int × List UInt8) × List (Int) × List (List UInt8) × Int × Int × Int × Int × Int × Int × Int × Int × Int × List (Int)) × Int × Int × (Int × List (Int)) × List (Int × Int × Int × List (Int × Int × Int × List UInt8)) × List (Int × (Int × List (Int)) × (Int × Int × Int × List UInt8) × List (Int))) × List (Int × Int × Int × (Int × Int × Int × List UInt8) × (Int × Int × Int × Int × Int × List (Int)) × Int × Int × Int × List (Int × Int × Int × List UInt8)) × List (Int × (Int × List (Int)) × (Int × Int × Int × List UInt8) × List (Int))) × List ((Int × List UInt8 × (List UInt8 × Bool) × Bool × List (List UInt8)) × (List UInt8 × List (List UInt8) × Bool) × List UInt8 × List (List UInt8)) × List (List (List UInt8 × List (List UInt8))) × List (Int)) × Int → Option (Int) := evF [fn_laws_szWorld, fn_laws_szCallerS, fn_laws_szTableS, fn_laws_szIntS] F_laws_szHall [.agg (.pair (.pair (.sl false (.pair (.int .i64) (.sl false (.int .i64)))) (.pair (.sl false (.pair (.int .i64) (.pair .bool (.pair (.pair (.int .i64) (.pair (.pair (.int .i64) (.sl false (.int .i64))) (.pair (.sl false (.pair (.int .i64) (.pair (.int .i64) (.pair (.int .i64) .str)))) (.pair (.sl false (.int .i64)) (.pair (.sl false .str) (.pair (.int .i64) (.pair (.int .i64) (.pair (.int .i64) (.pair (.int .i64) (.pair (.int .i64) (.pair (.int .i64) (.pair (.int .i64) (.pair (.int .i64) (.pair (.int .i64) (.sl false (.int .i64)))))))))))))))) (.pair (.int .i64) (.pair (.int .i64) (.pair (.pair (.int .i64) (.sl false (.int .i64))) (.pair (.sl false (.pair (.int .i64) (.pair (.int .i64) (.pair (.int .i64) (.sl false (.pair (.int .i64) (.pair (.int .i64) (.pair (.int .i64) .str)))))))) (.sl false (.pair (.int .i64) (.pair (.pair (.int .i64) (.sl false (.int .i64))) (.pair (.pair (.int .i64) (.pair (.int .i64) (.pair (.int .i64) .str))) (.sl false (.int .i64)))))))))))))) (.pair (.sl false (.pair (.int .i64) (.pair (.int .i64) (.pair (.int .i64) (.pair (.pair (.int .i64) (.pair (.int .i64) (.pair (.int .i64) .str))) (.pair (.pair (.int .i64) (.pair (.int .i64) (.pair (.int .i64) (.pair (.int .i64) (.pair (.int .i64) (.sl false (.int .i64))))))) (.pair (.int .i64) (.pair (.int .i64) (.pair (.int .i64) (.sl false (.pair (.int .i64) (.pair (.int .i64) (.pair (.int .i64) .str))))))))))))) (.sl false (.pair (.int .i64) (.pair (.pair (.int .i64) (.sl false (.int .i64))) (.pair (.pair (.int .i64) (.pair (.int .i64) (.pair (.int .i64) .str))) (.sl false (.int .i64))))))))) (.pair (.sl false (.pair (.pair (.int .i64) (.pair .str (.pair (.pair .str .bool) (.pair .bool (.sl false .str))))) (.pair (.pair .str (.pair (.sl false .str) .bool)) (.pair .str (.sl false .str))))) (.pair (.sl false (.sl false (.pair .str (.sl false .str)))) (.sl false (.int .i64))))), .cell (.int .i64)] [] [.cell (.int .i64)] []
noncomputable def fn_laws_szHall : TFn := ⟨5, [.agg (.pair (.pair (.sl false (.pair (.int .i64) (.sl false (.int .i64)))) (.pair (.sl false (.pair (.int .i64) (.pair .bool (.pair (.pair (.int .i64) (.pair (.pair (.int .i64) (.sl false (.int .i64))) (.pair (.sl false (.pair (.int .i64) (.pair (.int .i64) (.pair (.int .i64) .str)))) (.pair (.sl false (.int .i64)) (.pair (.sl false .str) (.pair (.int .i64) (.pair (.int .i64) (.pair (.int .i64) (.pair (.int .i64) (.pair (.int .i64) (.pair (.int .i64) (.pair (.int .i64) (.pair (.int .i64) (.pair (.int .i64) (.sl false (.int .i64)))))))))))))))) (.pair (.int .i64) (.pair (.int .i64) (.pair (.pair (.int .i64) (.sl false (.int .i64))) (.pair (.sl false (.pair (.int .i64) (.pair (.int .i64) (.pair (.int .i64) (.sl false (.pair (.int .i64) (.pair (.int .i64) (.pair (.int .i64) .str)))))))) (.sl false (.pair (.int .i64) (.pair (.pair (.int .i64) (.sl false (.int .i64))) (.pair (.pair (.int .i64) (.pair (.int .i64) (.pair (.int .i64) .str))) (.sl false (.int .i64)))))))))))))) (.pair (.sl false (.pair (.int .i64) (.pair (.int .i64) (.pair (.int .i64) (.pair (.pair (.int .i64) (.pair (.int .i64) (.pair (.int .i64) .str))) (.pair (.pair (.int .i64) (.pair (.int .i64) (.pair (.int .i64) (.pair (.int .i64) (.pair (.int .i64) (.sl false (.int .i64))))))) (.pair (.int .i64) (.pair (.int .i64) (.pair (.int .i64) (.sl false (.pair (.int .i64) (.pair (.int .i64) (.pair (.int .i64) .str))))))))))))) (.sl false (.pair (.int .i64) (.pair (.pair (.int .i64) (.sl false (.int .i64))) (.pair (.pair (.int .i64) (.pair (.int .i64) (.pair (.int .i64) .str))) (.sl false (.int .i64))))))))) (.pair (.sl false (.pair (.pair (.int .i64) (.pair .str (.pair (.pair .str .bool) (.pair .bool (.sl false .str))))) (.pair (.pair .str (.pair (.sl false .str) .bool)) (.pair .str (.sl false .str))))) (.pair (.sl false (.sl false (.pair .str (.sl false .str)))) (.sl false (.int .i64))))), .cell (.int .i64)], [], [.cell (.int .i64)], [], T_laws_szHall⟩
theorem ok_laws_szHall : FnOk Tryz.prog fn_laws_szHall := evF_ok mixed (allOk_cons ok_laws_szWorld (allOk_cons ok_laws_szCallerS (allOk_cons ok_laws_szTableS (allOk_cons ok_laws_szIntS allOk_nil)))) m_laws_szHall (by decide)
def B_laws_toIntS_1 : TC := (.seq (.seq (.reg none [.p (.mv 8 (.t 4)) .unit,
  .p (.mv 9 (.t 0)) .unit,
  .p (.lenB 10 (.t 9)) .unit,
  .p (.bin 11 false .lss (.t 8) (.t 10)) .unit])
 (.cond (.t 11) .skip (.exit 0)))
 (.seq (.block 1 (.reg none [.p (.mvA 14 3) .unit,
  .p (.mv 15 (.t 4)) .unit,
  .p (.mv 16 (.t 0)) .unit,
  .p (.mv 17 (.t 4)) .unit,
  .p (.iadr 18 1 (.t 16) (.t 17)) .unit,
  .p (.load 19 (.t 18) 1 false) .unit,
  .p (.iadr 20 1 (.t 14) (.t 15)) .unit,
  .p (.store (.t 20) (.t 19) 1) .unit]))
 (.reg none [.p (.mv 12 (.t 4)) .unit,
  .p (.bin 13 false .add (.t 12) (.c (.int .i64 1))) .unit,
  .p (.mv 4 (.t 13)) .unit])))
noncomputable def L_laws_toIntS_1 : Nat → (List (Int)) × (List (Int)) × Int → Option ((List (Int)) ⊕ (List (Int))) := evL [] (finT [.t 2] [] [.cell (.sl true (.int .i64))]) 0 ⟨[(0, true), (3, false), (4, false)], [.cell (.sl false (.int .i64)), .cell (.sl true (.int .i64)), .cell (.int .i64)]⟩ ⟨[(3, false)], [.cell (.sl true (.int .i64))]⟩ B_laws_toIntS_1
def F_laws_toIntS : TF := ⟨(.seq (.reg none [.p (.mvN 2 1) .unit])
 (.seq (.reg none [.p (.mv 5 (.t 0)) .unit,
  .p (.lenB 6 (.t 5)) .unit,
  .p (.mkS 7 8 [(.lit (.int .i64 0))] (.t 6) (.t 6)) (.int .i64),
  .p (.mvT 3 7) .unit])
 (.seq (.seq (.reg none [.p (.mv 4 (.c (.int .i64 0))) .unit])
 (.jl 0 ⟨[(0, true), (3, false), (4, false)], [.cell (.sl false (.int .i64)), .cell (.sl true (.int .i64)), .cell (.int .i64)]⟩ ⟨[(3, false)], [.cell (.sl true (.int .i64))]⟩ B_laws_toIntS_1))
 (.seq (.reg none [.p (.mvT 21 3) .unit,
  .p (.mvT 2 21) .unit])
 .ret)))),
 22, 1, [.t 2]⟩
theorem m_laws_toIntS : mH Tryz.prog 26 [(1, 3, .t), (5, 0, .v), (6, 0, .t), (6, 1, .t)] = some (F_laws_toIntS.code.x, F_laws_toIntS.N, F_laws_toIntS.np, F_laws_toIntS.res) := by kernel_rfl
noncomputable def T_laws_toIntS : List (Int) → Option (List (Int)) := evF [] F_laws_toIntS [.cell (.sl false (.int .i64))] [] [.cell (.sl true (.int .i64))] []
noncomputable def fn_laws_toIntS : TFn := ⟨26, [.cell (.sl false (.int .i64))], [], [.cell (.sl true (.int .i64))], [], T_laws_toIntS⟩
theorem ok_laws_toIntS : FnOk Tryz.prog fn_laws_toIntS := evF_ok mixed allOk_nil m_laws_toIntS (by decide)
def F_laws_toRing : TF := ⟨(.seq (.reg none [.p (.box 1 (.t 0)) .unit,
  .p (.alloc 2 [(.lit (.int .i64 0)), (.sl true 1 [])]) .unit])
 (.seq (.reg none [.p (.alloc 3 [(.lit (.int .i64 0)), (.sl true 1 [])]) .unit])
 (.seq (.reg none [.p (.fadr 4 (.t 1) 0) .unit,
  .p (.load 5 (.t 4) 1 false) .unit,
  .p (.fadr 6 (.t 3) 0) .unit,
  .p (.store (.t 6) (.t 5) 1) .unit])
 (.seq (.reg none [.p (.fadr 7 (.t 1) 1) .unit,
  .p (.load 8 (.t 7) 1 false) .unit,
  .p (.callB 9 n_laws_toIntS [((.t 8), 0)]) .unit,
  .p (.fadr 10 (.t 3) 1) .unit,
  .p (.storeT (.t 10) 9 1) .unit])
 (.seq (.reg none [.p (.loadT 11 (.t 3) 2 true) .unit,
  .p (.storeT (.t 2) 11 2) .unit])
 .ret))))),
 12, 1, [.c 2 2 true]⟩
theorem m_laws_toRing : mH Tryz.prog 78 [(3, 4, .t), (4, 0, .t), (4, 1, .t)] = some (F_laws_toRing.code.x, F_laws_toRing.N, F_laws_toRing.np, F_laws_toRing.res) := by kernel_rfl
noncomputable def T_laws_toRing : Int × List (Int) → Option (Int × List (Int)) := evF [fn_laws_toIntS] F_laws_toRing [.agg (.pair (.int .i64) (.sl false (.int .i64)))] [] [.agg (.pair (.int .i64) (.sl true (.int .i64)))] []
noncomputable def fn_laws_toRing : TFn := ⟨78, [.agg (.pair (.int .i64) (.sl false (.int .i64)))], [], [.agg (.pair (.int .i64) (.sl true (.int .i64)))], [], T_laws_toRing⟩
theorem ok_laws_toRing : FnOk Tryz.prog fn_laws_toRing := evF_ok mixed (allOk_cons ok_laws_toIntS allOk_nil) m_laws_toRing (by decide)
def B_laws_toRingS_1 : TC := (.seq (.seq (.reg none [.p (.mv 8 (.t 4)) .unit,
  .p (.mv 9 (.t 0)) .unit,
  .p (.lenB 10 (.t 9)) .unit,
  .p (.bin 11 false .lss (.t 8) (.t 10)) .unit])
 (.cond (.t 11) .skip (.exit 0)))
 (.seq (.block 1 (.reg none [.p (.mvA 14 3) .unit,
  .p (.mv 15 (.t 4)) .unit,
  .p (.mv 16 (.t 0)) .unit,
  .p (.mv 17 (.t 4)) .unit,
  .p (.iadr 18 2 (.t 16) (.t 17)) .unit,
  .p (.load 19 (.t 18) 2 true) .unit,
  .p (.callB 20 n_laws_toRing [((.t 19), 0)]) .unit,
  .p (.iadr 21 2 (.t 14) (.t 15)) .unit,
  .p (.storeT (.t 21) 20 2) .unit]))
 (.reg none [.p (.mv 12 (.t 4)) .unit,
  .p (.bin 13 false .add (.t 12) (.c (.int .i64 1))) .unit,
  .p (.mv 4 (.t 13)) .unit])))
noncomputable def L_laws_toRingS_1 : Nat → (List (Int × List (Int))) × (List (Int × List (Int))) × Int → Option ((List (Int × List (Int))) ⊕ (List (Int × List (Int)))) := evL [fn_laws_toRing] (finT [.t 2] [] [.cell (.sl true (.pair (.int .i64) (.sl true (.int .i64))))]) 0 ⟨[(0, true), (3, false), (4, false)], [.cell (.sl false (.pair (.int .i64) (.sl false (.int .i64)))), .cell (.sl true (.pair (.int .i64) (.sl true (.int .i64)))), .cell (.int .i64)]⟩ ⟨[(3, false)], [.cell (.sl true (.pair (.int .i64) (.sl true (.int .i64))))]⟩ B_laws_toRingS_1
def F_laws_toRingS : TF := ⟨(.seq (.reg none [.p (.mvN 2 2) .unit])
 (.seq (.reg none [.p (.mv 5 (.t 0)) .unit,
  .p (.lenB 6 (.t 5)) .unit,
  .p (.mkS 7 32 [(.lit (.int .i64 0)), (.sl true 1 [])] (.t 6) (.t 6)) (.pair (.int .i64) (.sl true (.int .i64))),
  .p (.mvT 3 7) .unit])
 (.seq (.seq (.reg none [.p (.mv 4 (.c (.int .i64 0))) .unit])
 (.jl 0 ⟨[(0, true), (3, false), (4, false)], [.cell (.sl false (.pair (.int .i64) (.sl false (.int .i64)))), .cell (.sl true (.pair (.int .i64) (.sl true (.int .i64)))), .cell (.int .i64)]⟩ ⟨[(3, false)], [.cell (.sl true (.pair (.int .i64) (.sl true (.int .i64))))]⟩ B_laws_toRingS_1))
 (.seq (.reg none [.p (.mvT 22 3) .unit,
  .p (.mvT 2 22) .unit])
 .ret)))),
 23, 1, [.t 2]⟩
theorem m_laws_toRingS : mH Tryz.prog 50 [(1, 3, .t), (5, 0, .v), (5, 8, .t), (6, 0, .t), (6, 1, .t)] = some (F_laws_toRingS.code.x, F_laws_toRingS.N, F_laws_toRingS.np, F_laws_toRingS.res) := by kernel_rfl
noncomputable def T_laws_toRingS : List (Int × List (Int)) → Option (List (Int × List (Int))) := evF [fn_laws_toRing] F_laws_toRingS [.cell (.sl false (.pair (.int .i64) (.sl false (.int .i64))))] [] [.cell (.sl true (.pair (.int .i64) (.sl true (.int .i64))))] []
noncomputable def fn_laws_toRingS : TFn := ⟨50, [.cell (.sl false (.pair (.int .i64) (.sl false (.int .i64))))], [], [.cell (.sl true (.pair (.int .i64) (.sl true (.int .i64))))], [], T_laws_toRingS⟩
theorem ok_laws_toRingS : FnOk Tryz.prog fn_laws_toRingS := evF_ok mixed (allOk_cons ok_laws_toRing allOk_nil) m_laws_toRingS (by decide)
def F_laws_toItem : TF := ⟨(.seq (.reg none [.p (.box 1 (.t 0)) .unit,
  .p (.alloc 2 [(.lit (.int .i64 0)), (.lit (.int .i64 0)), (.lit (.int .i64 0)), (.lit (.string (ba [])))]) .unit])
 (.seq (.reg none [.p (.alloc 3 [(.lit (.int .i64 0)), (.lit (.int .i64 0)), (.lit (.int .i64 0)), (.lit (.string (ba [])))]) .unit])
 (.seq (.reg none [.p (.fadr 4 (.t 1) 0) .unit,
  .p (.load 5 (.t 4) 1 false) .unit,
  .p (.fadr 6 (.t 3) 0) .unit,
  .p (.store (.t 6) (.t 5) 1) .unit])
 (.seq (.reg none [.p (.fadr 7 (.t 1) 1) .unit,
  .p (.load 8 (.t 7) 1 false) .unit,
  .p (.fadr 9 (.t 3) 1) .unit,
  .p (.store (.t 9) (.t 8) 1) .unit])
 (.seq (.reg none [.p (.fadr 10 (.t 1) 2) .unit,
  .p (.load 11 (.t 10) 1 false) .unit,
  .p (.fadr 12 (.t 3) 2) .unit,
  .p (.store (.t 12) (.t 11) 1) .unit])
 (.seq (.reg none [.p (.fadr 13 (.t 1) 3) .unit,
  .p (.load 14 (.t 13) 1 false) .unit,
  .p (.fadr 15 (.t 3) 3) .unit,
  .p (.store (.t 15) (.t 14) 1) .unit])
 (.seq (.reg none [.p (.load 16 (.t 3) 4 true) .unit,
  .p (.store (.t 2) (.t 16) 4) .unit])
 .ret))))))),
 17, 1, [.c 2 4 true]⟩
theorem m_laws_toItem : mH Tryz.prog 105 [] = some (F_laws_toItem.code.x, F_laws_toItem.N, F_laws_toItem.np, F_laws_toItem.res) := by kernel_rfl
noncomputable def T_laws_toItem : Int × Int × Int × List UInt8 → Option (Int × Int × Int × List UInt8) := evF [] F_laws_toItem [.agg (.pair (.int .i64) (.pair (.int .i64) (.pair (.int .i64) .str)))] [] [.agg (.pair (.int .i64) (.pair (.int .i64) (.pair (.int .i64) .str)))] []
noncomputable def fn_laws_toItem : TFn := ⟨105, [.agg (.pair (.int .i64) (.pair (.int .i64) (.pair (.int .i64) .str)))], [], [.agg (.pair (.int .i64) (.pair (.int .i64) (.pair (.int .i64) .str)))], [], T_laws_toItem⟩
theorem ok_laws_toItem : FnOk Tryz.prog fn_laws_toItem := evF_ok mixed allOk_nil m_laws_toItem (by decide)
def B_laws_toItemS_1 : TC := (.seq (.seq (.reg none [.p (.mv 8 (.t 4)) .unit,
  .p (.mv 9 (.t 0)) .unit,
  .p (.lenB 10 (.t 9)) .unit,
  .p (.bin 11 false .lss (.t 8) (.t 10)) .unit])
 (.cond (.t 11) .skip (.exit 0)))
 (.seq (.block 1 (.reg none [.p (.mvA 14 3) .unit,
  .p (.mv 15 (.t 4)) .unit,
  .p (.mv 16 (.t 0)) .unit,
  .p (.mv 17 (.t 4)) .unit,
  .p (.iadr 18 4 (.t 16) (.t 17)) .unit,
  .p (.load 19 (.t 18) 4 true) .unit,
  .p (.callB 20 n_laws_toItem [((.t 19), 0)]) .unit,
  .p (.iadr 21 4 (.t 14) (.t 15)) .unit,
  .p (.store (.t 21) (.t 20) 4) .unit]))
 (.reg none [.p (.mv 12 (.t 4)) .unit,
  .p (.bin 13 false .add (.t 12) (.c (.int .i64 1))) .unit,
  .p (.mv 4 (.t 13)) .unit])))
noncomputable def L_laws_toItemS_1 : Nat → (List (Int × Int × Int × List UInt8)) × (List (Int × Int × Int × List UInt8)) × Int → Option ((List (Int × Int × Int × List UInt8)) ⊕ (List (Int × Int × Int × List UInt8))) := evL [fn_laws_toItem] (finT [.t 2] [] [.cell (.sl true (.pair (.int .i64) (.pair (.int .i64) (.pair (.int .i64) .str))))]) 0 ⟨[(0, true), (3, false), (4, false)], [.cell (.sl false (.pair (.int .i64) (.pair (.int .i64) (.pair (.int .i64) .str)))), .cell (.sl true (.pair (.int .i64) (.pair (.int .i64) (.pair (.int .i64) .str)))), .cell (.int .i64)]⟩ ⟨[(3, false)], [.cell (.sl true (.pair (.int .i64) (.pair (.int .i64) (.pair (.int .i64) .str))))]⟩ B_laws_toItemS_1
def F_laws_toItemS : TF := ⟨(.seq (.reg none [.p (.mvN 2 4) .unit])
 (.seq (.reg none [.p (.mv 5 (.t 0)) .unit,
  .p (.lenB 6 (.t 5)) .unit,
  .p (.mkS 7 40 [(.lit (.int .i64 0)), (.lit (.int .i64 0)), (.lit (.int .i64 0)), (.lit (.string (ba [])))] (.t 6) (.t 6)) (.pair (.int .i64) (.pair (.int .i64) (.pair (.int .i64) .str))),
  .p (.mvT 3 7) .unit])
 (.seq (.seq (.reg none [.p (.mv 4 (.c (.int .i64 0))) .unit])
 (.jl 0 ⟨[(0, true), (3, false), (4, false)], [.cell (.sl false (.pair (.int .i64) (.pair (.int .i64) (.pair (.int .i64) .str)))), .cell (.sl true (.pair (.int .i64) (.pair (.int .i64) (.pair (.int .i64) .str)))), .cell (.int .i64)]⟩ ⟨[(3, false)], [.cell (.sl true (.pair (.int .i64) (.pair (.int .i64) (.pair (.int .i64) .str))))]⟩ B_laws_toItemS_1))
 (.seq (.reg none [.p (.mvT 22 3) .unit,
  .p (.mvT 2 22) .unit])
 .ret)))),
 23, 1, [.t 2]⟩
theorem m_laws_toItemS : mH Tryz.prog 120 [(1, 3, .t), (5, 0, .v), (6, 0, .t), (6, 1, .t)] = some (F_laws_toItemS.code.x, F_laws_toItemS.N, F_laws_toItemS.np, F_laws_toItemS.res) := by kernel_rfl
noncomputable def T_laws_toItemS : List (Int × Int × Int × List UInt8) → Option (List (Int × Int × Int × List UInt8)) := evF [fn_laws_toItem] F_laws_toItemS [.cell (.sl false (.pair (.int .i64) (.pair (.int .i64) (.pair (.int .i64) .str))))] [] [.cell (.sl true (.pair (.int .i64) (.pair (.int .i64) (.pair (.int .i64) .str))))] []
noncomputable def fn_laws_toItemS : TFn := ⟨120, [.cell (.sl false (.pair (.int .i64) (.pair (.int .i64) (.pair (.int .i64) .str))))], [], [.cell (.sl true (.pair (.int .i64) (.pair (.int .i64) (.pair (.int .i64) .str))))], [], T_laws_toItemS⟩
theorem ok_laws_toItemS : FnOk Tryz.prog fn_laws_toItemS := evF_ok mixed (allOk_cons ok_laws_toItem allOk_nil) m_laws_toItemS (by decide)
def B_laws_toStringS_1 : TC := (.seq (.seq (.reg none [.p (.mv 8 (.t 4)) .unit,
  .p (.mv 9 (.t 0)) .unit,
  .p (.lenB 10 (.t 9)) .unit,
  .p (.bin 11 false .lss (.t 8) (.t 10)) .unit])
 (.cond (.t 11) .skip (.exit 0)))
 (.seq (.block 1 (.reg none [.p (.mvA 14 3) .unit,
  .p (.mv 15 (.t 4)) .unit,
  .p (.mv 16 (.t 0)) .unit,
  .p (.mv 17 (.t 4)) .unit,
  .p (.iadr 18 1 (.t 16) (.t 17)) .unit,
  .p (.load 19 (.t 18) 1 false) .unit,
  .p (.iadr 20 1 (.t 14) (.t 15)) .unit,
  .p (.store (.t 20) (.t 19) 1) .unit]))
 (.reg none [.p (.mv 12 (.t 4)) .unit,
  .p (.bin 13 false .add (.t 12) (.c (.int .i64 1))) .unit,
  .p (.mv 4 (.t 13)) .unit])))
noncomputable def L_laws_toStringS_1 : Nat → (List (List UInt8)) × (List (List UInt8)) × Int → Option ((List (List UInt8)) ⊕ (List (List UInt8))) := evL [] (finT [.t 2] [] [.cell (.sl true .str)]) 0 ⟨[(0, true), (3, false), (4, false)], [.cell (.sl false .str), .cell (.sl true .str), .cell (.int .i64)]⟩ ⟨[(3, false)], [.cell (.sl true .str)]⟩ B_laws_toStringS_1
def F_laws_toStringS : TF := ⟨(.seq (.reg none [.p (.mvN 2 1) .unit])
 (.seq (.reg none [.p (.mv 5 (.t 0)) .unit,
  .p (.lenB 6 (.t 5)) .unit,
  .p (.mkS 7 16 [(.lit (.string (ba [])))] (.t 6) (.t 6)) .str,
  .p (.mvT 3 7) .unit])
 (.seq (.seq (.reg none [.p (.mv 4 (.c (.int .i64 0))) .unit])
 (.jl 0 ⟨[(0, true), (3, false), (4, false)], [.cell (.sl false .str), .cell (.sl true .str), .cell (.int .i64)]⟩ ⟨[(3, false)], [.cell (.sl true .str)]⟩ B_laws_toStringS_1))
 (.seq (.reg none [.p (.mvT 21 3) .unit,
  .p (.mvT 2 21) .unit])
 .ret)))),
 22, 1, [.t 2]⟩
theorem m_laws_toStringS : mH Tryz.prog 84 [(1, 3, .t), (5, 0, .v), (6, 0, .t), (6, 1, .t)] = some (F_laws_toStringS.code.x, F_laws_toStringS.N, F_laws_toStringS.np, F_laws_toStringS.res) := by kernel_rfl
noncomputable def T_laws_toStringS : List (List UInt8) → Option (List (List UInt8)) := evF [] F_laws_toStringS [.cell (.sl false .str)] [] [.cell (.sl true .str)] []
noncomputable def fn_laws_toStringS : TFn := ⟨84, [.cell (.sl false .str)], [], [.cell (.sl true .str)], [], T_laws_toStringS⟩
theorem ok_laws_toStringS : FnOk Tryz.prog fn_laws_toStringS := evF_ok mixed allOk_nil m_laws_toStringS (by decide)
def F_laws_toToken : TF := ⟨(.seq (.reg none [.p (.box 1 (.t 0)) .unit,
  .p (.alloc 2 [(.lit (.int .i64 0)), (.lit (.int .i64 0)), (.lit (.int .i64 0)), (.lit (.int .i64 0)), (.lit (.int .i64 0)), (.sl true 1 [])]) .unit])
 (.seq (.reg none [.p (.alloc 3 [(.lit (.int .i64 0)), (.lit (.int .i64 0)), (.lit (.int .i64 0)), (.lit (.int .i64 0)), (.lit (.int .i64 0)), (.sl true 1 [])]) .unit])
 (.seq (.reg none [.p (.fadr 4 (.t 1) 0) .unit,
  .p (.load 5 (.t 4) 1 false) .unit,
  .p (.fadr 6 (.t 3) 0) .unit,
  .p (.store (.t 6) (.t 5) 1) .unit])
 (.seq (.reg none [.p (.fadr 7 (.t 1) 1) .unit,
  .p (.load 8 (.t 7) 1 false) .unit,
  .p (.fadr 9 (.t 3) 1) .unit,
  .p (.store (.t 9) (.t 8) 1) .unit])
 (.seq (.reg none [.p (.fadr 10 (.t 1) 2) .unit,
  .p (.load 11 (.t 10) 1 false) .unit,
  .p (.fadr 12 (.t 3) 2) .unit,
  .p (.store (.t 12) (.t 11) 1) .unit])
 (.seq (.reg none [.p (.fadr 13 (.t 1) 3) .unit,
  .p (.load 14 (.t 13) 1 false) .unit,
  .p (.fadr 15 (.t 3) 3) .unit,
  .p (.store (.t 15) (.t 14) 1) .unit])
 (.seq (.reg none [.p (.fadr 16 (.t 1) 4) .unit,
  .p (.load 17 (.t 16) 1 false) .unit,
  .p (.fadr 18 (.t 3) 4) .unit,
  .p (.store (.t 18) (.t 17) 1) .unit])
 (.seq (.reg none [.p (.fadr 19 (.t 1) 5) .unit,
  .p (.load 20 (.t 19) 1 false) .unit,
  .p (.callB 21 n_laws_toIntS [((.t 20), 0)]) .unit,
  .p (.fadr 22 (.t 3) 5) .unit,
  .p (.storeT (.t 22) 21 1) .unit])
 (.seq (.reg none [.p (.loadT 23 (.t 3) 6 true) .unit,
  .p (.storeT (.t 2) 23 6) .unit])
 .ret))))))))),
 24, 1, [.c 2 6 true]⟩
theorem m_laws_toToken : mH Tryz.prog 106 [(7, 4, .t), (8, 0, .t), (8, 1, .t)] = some (F_laws_toToken.code.x, F_laws_toToken.N, F_laws_toToken.np, F_laws_toToken.res) := by kernel_rfl
noncomputable def T_laws_toToken : Int × Int × Int × Int × Int × List (Int) → Option (Int × Int × Int × Int × Int × List (Int)) := evF [fn_laws_toIntS] F_laws_toToken [.agg (.pair (.int .i64) (.pair (.int .i64) (.pair (.int .i64) (.pair (.int .i64) (.pair (.int .i64) (.sl false (.int .i64)))))))] [] [.agg (.pair (.int .i64) (.pair (.int .i64) (.pair (.int .i64) (.pair (.int .i64) (.pair (.int .i64) (.sl true (.int .i64)))))))] []
noncomputable def fn_laws_toToken : TFn := ⟨106, [.agg (.pair (.int .i64) (.pair (.int .i64) (.pair (.int .i64) (.pair (.int .i64) (.pair (.int .i64) (.sl false (.int .i64)))))))], [], [.agg (.pair (.int .i64) (.pair (.int .i64) (.pair (.int .i64) (.pair (.int .i64) (.pair (.int .i64) (.sl true (.int .i64)))))))], [], T_laws_toToken⟩
theorem ok_laws_toToken : FnOk Tryz.prog fn_laws_toToken := evF_ok mixed (allOk_cons ok_laws_toIntS allOk_nil) m_laws_toToken (by decide)
def F_laws_toMate : TF := ⟨(.seq (.reg none [.p (.box 1 (.t 0)) .unit,
  .p (.alloc 2 [(.lit (.int .i64 0)), (.lit (.int .i64 0)), (.sl true 1 []), (.sl true 4 []), (.sl true 1 []), (.sl true 1 []), (.lit (.int .i64 0)), (.lit (.int .i64 0)), (.lit (.int .i64 0)), (.lit (.int .i64 0)), (.lit (.int .i64 0)), (.lit (.int .i64 0)), (.lit (.int .i64 0)), (.lit (.int .i64 0)), (.lit (.int .i64 0)), (.sl true 1 [])]) .unit])
 (.seq (.reg none [.p (.alloc 3 [(.lit (.int .i64 0)), (.lit (.int .i64 0)), (.sl true 1 []), (.sl true 4 []), (.sl true 1 []), (.sl true 1 []), (.lit (.int .i64 0)), (.lit (.int .i64 0)), (.lit (.int .i64 0)), (.lit (.int .i64 0)), (.lit (.int .i64 0)), (.lit (.int .i64 0)), (.lit (.int .i64 0)), (.lit (.int .i64 0)), (.lit (.int .i64 0)), (.sl true 1 [])]) .unit])
 (.seq (.reg none [.p (.fadr 4 (.t 1) 0) .unit,
  .p (.load 5 (.t 4) 1 false) .unit,
  .p (.fadr 6 (.t 3) 0) .unit,
  .p (.store (.t 6) (.t 5) 1) .unit])
 (.seq (.reg none [.p (.fadr 7 (.t 1) 1) .unit,
  .p (.load 8 (.t 7) 2 true) .unit,
  .p (.callB 9 n_laws_toRing [((.t 8), 0)]) .unit,
  .p (.fadr 10 (.t 3) 1) .unit,
  .p (.storeT (.t 10) 9 2) .unit])
 (.seq (.reg none [.p (.fadr 11 (.t 1) 3) .unit,
  .p (.load 12 (.t 11) 1 false) .unit,
  .p (.callB 13 n_laws_toItemS [((.t 12), 0)]) .unit,
  .p (.fadr 14 (.t 3) 3) .unit,
  .p (.storeT (.t 14) 13 1) .unit])
 (.seq (.reg none [.p (.fadr 15 (.t 1) 4) .unit,
  .p (.load 16 (.t 15) 1 false) .unit,
  .p (.callB 17 n_laws_toIntS [((.t 16), 0)]) .unit,
  .p (.fadr 18 (.t 3) 4) .unit,
  .p (.storeT (.t 18) 17 1) .unit])
 (.seq (.reg none [.p (.fadr 19 (.t 1) 5) .unit,
  .p (.load 20 (.t 19) 1 false) .unit,
  .p (.callB 21 n_laws_toStringS [((.t 20), 0)]) .unit,
  .p (.fadr 22 (.t 3) 5) .unit,
  .p (.storeT (.t 22) 21 1) .unit])
 (.seq (.reg none [.p (.fadr 23 (.t 1) 6) .unit,
  .p (.load 24 (.t 23) 1 false) .unit,
  .p (.fadr 25 (.t 3) 6) .unit,
  .p (.store (.t 25) (.t 24) 1) .unit])
 (.seq (.reg none [.p (.fadr 26 (.t 1) 7) .unit,
  .p (.load 27 (.t 26) 1 false) .unit,
  .p (.fadr 28 (.t 3) 7) .unit,
  .p (.store (.t 28) (.t 27) 1) .unit])
 (.seq (.reg none [.p (.fadr 29 (.t 1) 8) .unit,
  .p (.load 30 (.t 29) 1 false) .unit,
  .p (.fadr 31 (.t 3) 8) .unit,
  .p (.store (.t 31) (.t 30) 1) .unit])
 (.seq (.reg none [.p (.fadr 32 (.t 1) 9) .unit,
  .p (.load 33 (.t 32) 1 false) .unit,
  .p (.fadr 34 (.t 3) 9) .unit,
  .p (.store (.t 34) (.t 33) 1) .unit])
 (.seq (.reg none [.p (.fadr 35 (.t 1) 10) .unit,
  .p (.load 36 (.t 35) 6 true) .unit,
  .p (.callB 37 n_laws_toToken [((.t 36), 0)]) .unit,
  .p (.fadr 38 (.t 3) 10) .unit,
  .p (.storeT (.t 38) 37 6) .unit])
 (.seq (.reg none [.p (.loadT 39 (.t 3) 16 true) .unit,
  .p (.storeT (.t 2) 39 16) .unit])
 .ret))))))))))))),
 40, 1, [.c 2 16 true]⟩
theorem m_laws_toMate : mH Tryz.prog 103 [(3, 4, .t), (4, 4, .t), (5, 4, .t), (6, 4, .t), (11, 4, .t), (12, 0, .t), (12, 1, .t)] = some (F_laws_toMate.code.x, F_laws_toMate.N, F_laws_toMate.np, F_laws_toMate.res) := by kernel_rfl
noncomputable def T_laws_toMate : Int × (Int × List (Int)) × List (Int × Int × Int × List UInt8) × List (Int) × List (List UInt8) × Int × Int × Int × Int × Int × Int × Int × Int × Int × List (Int) → Option (Int × (Int × List (Int)) × List (Int × Int × Int × List UInt8) × List (Int) × List (List UInt8) × Int × Int × Int × Int × Int × Int × Int × Int × Int × List (Int)) := evF [fn_laws_toRing, fn_laws_toItemS, fn_laws_toIntS, fn_laws_toStringS, fn_laws_toToken] F_laws_toMate [.agg (.pair (.int .i64) (.pair (.pair (.int .i64) (.sl false (.int .i64))) (.pair (.sl false (.pair (.int .i64) (.pair (.int .i64) (.pair (.int .i64) .str)))) (.pair (.sl false (.int .i64)) (.pair (.sl false .str) (.pair (.int .i64) (.pair (.int .i64) (.pair (.int .i64) (.pair (.int .i64) (.pair (.int .i64) (.pair (.int .i64) (.pair (.int .i64) (.pair (.int .i64) (.pair (.int .i64) (.sl false (.int .i64))))))))))))))))] [] [.agg (.pair (.int .i64) (.pair (.pair (.int .i64) (.sl true (.int .i64))) (.pair (.sl true (.pair (.int .i64) (.pair (.int .i64) (.pair (.int .i64) .str)))) (.pair (.sl true (.int .i64)) (.pair (.sl true .str) (.pair (.int .i64) (.pair (.int .i64) (.pair (.int .i64) (.pair (.int .i64) (.pair (.int .i64) (.pair (.int .i64) (.pair (.int .i64) (.pair (.int .i64) (.pair (.int .i64) (.sl true (.int .i64))))))))))))))))] []
noncomputable def fn_laws_toMate : TFn := ⟨103, [.agg (.pair (.int .i64) (.pair (.pair (.int .i64) (.sl false (.int .i64))) (.pair (.sl false (.pair (.int .i64) (.pair (.int .i64) (.pair (.int .i64) .str)))) (.pair (.sl false (.int .i64)) (.pair (.sl false .str) (.pair (.int .i64) (.pair (.int .i64) (.pair (.int .i64) (.pair (.int .i64) (.pair (.int .i64) (.pair (.int .i64) (.pair (.int .i64) (.pair (.int .i64) (.pair (.int .i64) (.sl false (.int .i64))))))))))))))))], [], [.agg (.pair (.int .i64) (.pair (.pair (.int .i64) (.sl true (.int .i64))) (.pair (.sl true (.pair (.int .i64) (.pair (.int .i64) (.pair (.int .i64) .str)))) (.pair (.sl true (.int .i64)) (.pair (.sl true .str) (.pair (.int .i64) (.pair (.int .i64) (.pair (.int .i64) (.pair (.int .i64) (.pair (.int .i64) (.pair (.int .i64) (.pair (.int .i64) (.pair (.int .i64) (.pair (.int .i64) (.sl true (.int .i64))))))))))))))))], [], T_laws_toMate⟩
theorem ok_laws_toMate : FnOk Tryz.prog fn_laws_toMate := evF_ok mixed (allOk_cons ok_laws_toRing (allOk_cons ok_laws_toItemS (allOk_cons ok_laws_toIntS (allOk_cons ok_laws_toStringS (allOk_cons ok_laws_toToken allOk_nil))))) m_laws_toMate (by decide)
def F_laws_toBundle : TF := ⟨(.seq (.reg none [.p (.box 1 (.t 0)) .unit,
  .p (.alloc 2 [(.lit (.int .i64 0)), (.lit (.int .i64 0)), (.lit (.int .i64 0)), (.sl true 4 [])]) .unit])
 (.seq (.reg none [.p (.alloc 3 [(.lit (.int .i64 0)), (.lit (.int .i64 0)), (.lit (.int .i64 0)), (.sl true 4 [])]) .unit])
 (.seq (.reg none [.p (.fadr 4 (.t 1) 0) .unit,
  .p (.load 5 (.t 4) 1 false) .unit,
  .p (.fadr 6 (.t 3) 0) .unit,
  .p (.store (.t 6) (.t 5) 1) .unit])
 (.seq (.reg none [.p (.fadr 7 (.t 1) 1) .unit,
  .p (.load 8 (.t 7) 1 false) .unit,
  .p (.fadr 9 (.t 3) 1) .unit,
  .p (.store (.t 9) (.t 8) 1) .unit])
 (.seq (.reg none [.p (.fadr 10 (.t 1) 2) .unit,
  .p (.load 11 (.t 10) 1 false) .unit,
  .p (.fadr 12 (.t 3) 2) .unit,
  .p (.store (.t 12) (.t 11) 1) .unit])
 (.seq (.reg none [.p (.fadr 13 (.t 1) 3) .unit,
  .p (.load 14 (.t 13) 1 false) .unit,
  .p (.callB 15 n_laws_toItemS [((.t 14), 0)]) .unit,
  .p (.fadr 16 (.t 3) 3) .unit,
  .p (.storeT (.t 16) 15 1) .unit])
 (.seq (.reg none [.p (.loadT 17 (.t 3) 4 true) .unit,
  .p (.storeT (.t 2) 17 4) .unit])
 .ret))))))),
 18, 1, [.c 2 4 true]⟩
theorem m_laws_toBundle : mH Tryz.prog 107 [(5, 4, .t), (6, 0, .t), (6, 1, .t)] = some (F_laws_toBundle.code.x, F_laws_toBundle.N, F_laws_toBundle.np, F_laws_toBundle.res) := by kernel_rfl
noncomputable def T_laws_toBundle : Int × Int × Int × List (Int × Int × Int × List UInt8) → Option (Int × Int × Int × List (Int × Int × Int × List UInt8)) := evF [fn_laws_toItemS] F_laws_toBundle [.agg (.pair (.int .i64) (.pair (.int .i64) (.pair (.int .i64) (.sl false (.pair (.int .i64) (.pair (.int .i64) (.pair (.int .i64) .str)))))))] [] [.agg (.pair (.int .i64) (.pair (.int .i64) (.pair (.int .i64) (.sl true (.pair (.int .i64) (.pair (.int .i64) (.pair (.int .i64) .str)))))))] []
noncomputable def fn_laws_toBundle : TFn := ⟨107, [.agg (.pair (.int .i64) (.pair (.int .i64) (.pair (.int .i64) (.sl false (.pair (.int .i64) (.pair (.int .i64) (.pair (.int .i64) .str)))))))], [], [.agg (.pair (.int .i64) (.pair (.int .i64) (.pair (.int .i64) (.sl true (.pair (.int .i64) (.pair (.int .i64) (.pair (.int .i64) .str)))))))], [], T_laws_toBundle⟩
theorem ok_laws_toBundle : FnOk Tryz.prog fn_laws_toBundle := evF_ok mixed (allOk_cons ok_laws_toItemS allOk_nil) m_laws_toBundle (by decide)
def B_laws_toBundleS_1 : TC := (.seq (.seq (.reg none [.p (.mv 8 (.t 4)) .unit,
  .p (.mv 9 (.t 0)) .unit,
  .p (.lenB 10 (.t 9)) .unit,
  .p (.bin 11 false .lss (.t 8) (.t 10)) .unit])
 (.cond (.t 11) .skip (.exit 0)))
 (.seq (.block 1 (.reg none [.p (.mvA 14 3) .unit,
  .p (.mv 15 (.t 4)) .unit,
  .p (.mv 16 (.t 0)) .unit,
  .p (.mv 17 (.t 4)) .unit,
  .p (.iadr 18 4 (.t 16) (.t 17)) .unit,
  .p (.load 19 (.t 18) 4 true) .unit,
  .p (.callB 20 n_laws_toBundle [((.t 19), 0)]) .unit,
  .p (.iadr 21 4 (.t 14) (.t 15)) .unit,
  .p (.storeT (.t 21) 20 4) .unit]))
 (.reg none [.p (.mv 12 (.t 4)) .unit,
  .p (.bin 13 false .add (.t 12) (.c (.int .i64 1))) .unit,
  .p (.mv 4 (.t 13)) .unit])))
noncomputable def L_laws_toBundleS_1 : Nat → (List (Int × Int × Int × List (Int × Int × Int × List UInt8))) × (List (Int × Int × Int × List (Int × Int × Int × List UInt8))) × Int → Option ((List (Int × Int × Int × List (Int × Int × Int × List UInt8))) ⊕ (List (Int × Int × Int × List (Int × Int × Int × List UInt8)))) := evL [fn_laws_toBundle] (finT [.t 2] [] [.cell (.sl true (.pair (.int .i64) (.pair (.int .i64) (.pair (.int .i64) (.sl true (.pair (.int .i64) (.pair (.int .i64) (.pair (.int .i64) .str))))))))]) 0 ⟨[(0, true), (3, false), (4, false)], [.cell (.sl false (.pair (.int .i64) (.pair (.int .i64) (.pair (.int .i64) (.sl false (.pair (.int .i64) (.pair (.int .i64) (.pair (.int .i64) .str)))))))), .cell (.sl true (.pair (.int .i64) (.pair (.int .i64) (.pair (.int .i64) (.sl true (.pair (.int .i64) (.pair (.int .i64) (.pair (.int .i64) .str)))))))), .cell (.int .i64)]⟩ ⟨[(3, false)], [.cell (.sl true (.pair (.int .i64) (.pair (.int .i64) (.pair (.int .i64) (.sl true (.pair (.int .i64) (.pair (.int .i64) (.pair (.int .i64) .str))))))))]⟩ B_laws_toBundleS_1
def F_laws_toBundleS : TF := ⟨(.seq (.reg none [.p (.mvN 2 4) .unit])
 (.seq (.reg none [.p (.mv 5 (.t 0)) .unit,
  .p (.lenB 6 (.t 5)) .unit,
  .p (.mkS 7 48 [(.lit (.int .i64 0)), (.lit (.int .i64 0)), (.lit (.int .i64 0)), (.sl true 4 [])] (.t 6) (.t 6)) (.pair (.int .i64) (.pair (.int .i64) (.pair (.int .i64) (.sl true (.pair (.int .i64) (.pair (.int .i64) (.pair (.int .i64) .str))))))),
  .p (.mvT 3 7) .unit])
 (.seq (.seq (.reg none [.p (.mv 4 (.c (.int .i64 0))) .unit])
 (.jl 0 ⟨[(0, true), (3, false), (4, false)], [.cell (.sl false (.pair (.int .i64) (.pair (.int .i64) (.pair (.int .i64) (.sl false (.pair (.int .i64) (.pair (.int .i64) (.pair (.int .i64) .str)))))))), .cell (.sl true (.pair (.int .i64) (.pair (.int .i64) (.pair (.int .i64) (.sl true (.pair (.int .i64) (.pair (.int .i64) (.pair (.int .i64) .str)))))))), .cell (.int .i64)]⟩ ⟨[(3, false)], [.cell (.sl true (.pair (.int .i64) (.pair (.int .i64) (.pair (.int .i64) (.sl true (.pair (.int .i64) (.pair (.int .i64) (.pair (.int .i64) .str))))))))]⟩ B_laws_toBundleS_1))
 (.seq (.reg none [.p (.mvT 22 3) .unit,
  .p (.mvT 2 22) .unit])
 .ret)))),
 23, 1, [.t 2]⟩
theorem m_laws_toBundleS : mH Tryz.prog 104 [(1, 3, .t), (5, 0, .v), (5, 8, .t), (6, 0, .t), (6, 1, .t)] = some (F_laws_toBundleS.code.x, F_laws_toBundleS.N, F_laws_toBundleS.np, F_laws_toBundleS.res) := by kernel_rfl
noncomputable def T_laws_toBundleS : List (Int × Int × Int × List (Int × Int × Int × List UInt8)) → Option (List (Int × Int × Int × List (Int × Int × Int × List UInt8))) := evF [fn_laws_toBundle] F_laws_toBundleS [.cell (.sl false (.pair (.int .i64) (.pair (.int .i64) (.pair (.int .i64) (.sl false (.pair (.int .i64) (.pair (.int .i64) (.pair (.int .i64) .str))))))))] [] [.cell (.sl true (.pair (.int .i64) (.pair (.int .i64) (.pair (.int .i64) (.sl true (.pair (.int .i64) (.pair (.int .i64) (.pair (.int .i64) .str))))))))] []
noncomputable def fn_laws_toBundleS : TFn := ⟨104, [.cell (.sl false (.pair (.int .i64) (.pair (.int .i64) (.pair (.int .i64) (.sl false (.pair (.int .i64) (.pair (.int .i64) (.pair (.int .i64) .str))))))))], [], [.cell (.sl true (.pair (.int .i64) (.pair (.int .i64) (.pair (.int .i64) (.sl true (.pair (.int .i64) (.pair (.int .i64) (.pair (.int .i64) .str))))))))], [], T_laws_toBundleS⟩
theorem ok_laws_toBundleS : FnOk Tryz.prog fn_laws_toBundleS := evF_ok mixed (allOk_cons ok_laws_toBundle allOk_nil) m_laws_toBundleS (by decide)
def F_laws_toEvent : TF := ⟨(.seq (.reg none [.p (.box 1 (.t 0)) .unit,
  .p (.alloc 2 [(.lit (.int .i64 0)), (.lit (.int .i64 0)), (.sl true 1 []), (.lit (.int .i64 0)), (.lit (.int .i64 0)), (.lit (.int .i64 0)), (.lit (.string (ba []))), (.sl true 1 [])]) .unit])
 (.seq (.reg none [.p (.alloc 3 [(.lit (.int .i64 0)), (.lit (.int .i64 0)), (.sl true 1 []), (.lit (.int .i64 0)), (.lit (.int .i64 0)), (.lit (.int .i64 0)), (.lit (.string (ba []))), (.sl true 1 [])]) .unit])
 (.seq (.reg none [.p (.fadr 4 (.t 1) 0) .unit,
  .p (.load 5 (.t 4) 1 false) .unit,
  .p (.fadr 6 (.t 3) 0) .unit,
  .p (.store (.t 6) (.t 5) 1) .unit])
 (.seq (.reg none [.p (.fadr 7 (.t 1) 1) .unit,
  .p (.load 8 (.t 7) 2 true) .unit,
  .p (.callB 9 n_laws_toRing [((.t 8), 0)]) .unit,
  .p (.fadr 10 (.t 3) 1) .unit,
  .p (.storeT (.t 10) 9 2) .unit])
 (.seq (.reg none [.p (.fadr 11 (.t 1) 3) .unit,
  .p (.load 12 (.t 11) 4 true) .unit,
  .p (.callB 13 n_laws_toItem [((.t 12), 0)]) .unit,
  .p (.fadr 14 (.t 3) 3) .unit,
  .p (.store (.t 14) (.t 13) 4) .unit])
 (.seq (.reg none [.p (.fadr 15 (.t 1) 7) .unit,
  .p (.load 16 (.t 15) 1 false) .unit,
  .p (.callB 17 n_laws_toIntS [((.t 16), 0)]) .unit,
  .p (.fadr 18 (.t 3) 7) .unit,
  .p (.storeT (.t 18) 17 1) .unit])
 (.seq (.reg none [.p (.loadT 19 (.t 3) 8 true) .unit,
  .p (.storeT (.t 2) 19 8) .unit])
 .ret))))))),
 20, 1, [.c 2 8 true]⟩
theorem m_laws_toEvent : mH Tryz.prog 81 [(3, 4, .t), (5, 4, .t), (6, 0, .t), (6, 1, .t)] = some (F_laws_toEvent.code.x, F_laws_toEvent.N, F_laws_toEvent.np, F_laws_toEvent.res) := by kernel_rfl
noncomputable def T_laws_toEvent : Int × (Int × List (Int)) × (Int × Int × Int × List UInt8) × List (Int) → Option (Int × (Int × List (Int)) × (Int × Int × Int × List UInt8) × List (Int)) := evF [fn_laws_toRing, fn_laws_toItem, fn_laws_toIntS] F_laws_toEvent [.agg (.pair (.int .i64) (.pair (.pair (.int .i64) (.sl false (.int .i64))) (.pair (.pair (.int .i64) (.pair (.int .i64) (.pair (.int .i64) .str))) (.sl false (.int .i64)))))] [] [.agg (.pair (.int .i64) (.pair (.pair (.int .i64) (.sl true (.int .i64))) (.pair (.pair (.int .i64) (.pair (.int .i64) (.pair (.int .i64) .str))) (.sl true (.int .i64)))))] []
noncomputable def fn_laws_toEvent : TFn := ⟨81, [.agg (.pair (.int .i64) (.pair (.pair (.int .i64) (.sl false (.int .i64))) (.pair (.pair (.int .i64) (.pair (.int .i64) (.pair (.int .i64) .str))) (.sl false (.int .i64)))))], [], [.agg (.pair (.int .i64) (.pair (.pair (.int .i64) (.sl true (.int .i64))) (.pair (.pair (.int .i64) (.pair (.int .i64) (.pair (.int .i64) .str))) (.sl true (.int .i64)))))], [], T_laws_toEvent⟩
theorem ok_laws_toEvent : FnOk Tryz.prog fn_laws_toEvent := evF_ok mixed (allOk_cons ok_laws_toRing (allOk_cons ok_laws_toItem (allOk_cons ok_laws_toIntS allOk_nil))) m_laws_toEvent (by decide)
def B_laws_toEventS_1 : TC := (.seq (.seq (.reg none [.p (.mv 8 (.t 4)) .unit,
  .p (.mv 9 (.t 0)) .unit,
  .p (.lenB 10 (.t 9)) .unit,
  .p (.bin 11 false .lss (.t 8) (.t 10)) .unit])
 (.cond (.t 11) .skip (.exit 0)))
 (.seq (.block 1 (.reg none [.p (.mvA 14 3) .unit,
  .p (.mv 15 (.t 4)) .unit,
  .p (.mv 16 (.t 0)) .unit,
  .p (.mv 17 (.t 4)) .unit,
  .p (.iadr 18 8 (.t 16) (.t 17)) .unit,
  .p (.load 19 (.t 18) 8 true) .unit,
  .p (.callB 20 n_laws_toEvent [((.t 19), 0)]) .unit,
  .p (.iadr 21 8 (.t 14) (.t 15)) .unit,
  .p (.storeT (.t 21) 20 8) .unit]))
 (.reg none [.p (.mv 12 (.t 4)) .unit,
  .p (.bin 13 false .add (.t 12) (.c (.int .i64 1))) .unit,
  .p (.mv 4 (.t 13)) .unit])))
noncomputable def L_laws_toEventS_1 : Nat → (List (Int × (Int × List (Int)) × (Int × Int × Int × List UInt8) × List (Int))) × (List (Int × (Int × List (Int)) × (Int × Int × Int × List UInt8) × List (Int))) × Int → Option ((List (Int × (Int × List (Int)) × (Int × Int × Int × List UInt8) × List (Int))) ⊕ (List (Int × (Int × List (Int)) × (Int × Int × Int × List UInt8) × List (Int)))) := evL [fn_laws_toEvent] (finT [.t 2] [] [.cell (.sl true (.pair (.int .i64) (.pair (.pair (.int .i64) (.sl true (.int .i64))) (.pair (.pair (.int .i64) (.pair (.int .i64) (.pair (.int .i64) .str))) (.sl true (.int .i64))))))]) 0 ⟨[(0, true), (3, false), (4, false)], [.cell (.sl false (.pair (.int .i64) (.pair (.pair (.int .i64) (.sl false (.int .i64))) (.pair (.pair (.int .i64) (.pair (.int .i64) (.pair (.int .i64) .str))) (.sl false (.int .i64)))))), .cell (.sl true (.pair (.int .i64) (.pair (.pair (.int .i64) (.sl true (.int .i64))) (.pair (.pair (.int .i64) (.pair (.int .i64) (.pair (.int .i64) .str))) (.sl true (.int .i64)))))), .cell (.int .i64)]⟩ ⟨[(3, false)], [.cell (.sl true (.pair (.int .i64) (.pair (.pair (.int .i64) (.sl true (.int .i64))) (.pair (.pair (.int .i64) (.pair (.int .i64) (.pair (.int .i64) .str))) (.sl true (.int .i64))))))]⟩ B_laws_toEventS_1
def F_laws_toEventS : TF := ⟨(.seq (.reg none [.p (.mvN 2 8) .unit])
 (.seq (.reg none [.p (.mv 5 (.t 0)) .unit,
  .p (.lenB 6 (.t 5)) .unit,
  .p (.mkS 7 104 [(.lit (.int .i64 0)), (.lit (.int .i64 0)), (.sl true 1 []), (.lit (.int .i64 0)), (.lit (.int .i64 0)), (.lit (.int .i64 0)), (.lit (.string (ba []))), (.sl true 1 [])] (.t 6) (.t 6)) (.pair (.int .i64) (.pair (.pair (.int .i64) (.sl true (.int .i64))) (.pair (.pair (.int .i64) (.pair (.int .i64) (.pair (.int .i64) .str))) (.sl true (.int .i64))))),
  .p (.mvT 3 7) .unit])
 (.seq (.seq (.reg none [.p (.mv 4 (.c (.int .i64 0))) .unit])
 (.jl 0 ⟨[(0, true), (3, false), (4, false)], [.cell (.sl false (.pair (.int .i64) (.pair (.pair (.int .i64) (.sl false (.int .i64))) (.pair (.pair (.int .i64) (.pair (.int .i64) (.pair (.int .i64) .str))) (.sl false (.int .i64)))))), .cell (.sl true (.pair (.int .i64) (.pair (.pair (.int .i64) (.sl true (.int .i64))) (.pair (.pair (.int .i64) (.pair (.int .i64) (.pair (.int .i64) .str))) (.sl true (.int .i64)))))), .cell (.int .i64)]⟩ ⟨[(3, false)], [.cell (.sl true (.pair (.int .i64) (.pair (.pair (.int .i64) (.sl true (.int .i64))) (.pair (.pair (.int .i64) (.pair (.int .i64) (.pair (.int .i64) .str))) (.sl true (.int .i64))))))]⟩ B_laws_toEventS_1))
 (.seq (.reg none [.p (.mvT 22 3) .unit,
  .p (.mvT 2 22) .unit])
 .ret)))),
 23, 1, [.t 2]⟩
theorem m_laws_toEventS : mH Tryz.prog 53 [(1, 3, .t), (5, 0, .v), (5, 8, .t), (6, 0, .t), (6, 1, .t)] = some (F_laws_toEventS.code.x, F_laws_toEventS.N, F_laws_toEventS.np, F_laws_toEventS.res) := by kernel_rfl
noncomputable def T_laws_toEventS : List (Int × (Int × List (Int)) × (Int × Int × Int × List UInt8) × List (Int)) → Option (List (Int × (Int × List (Int)) × (Int × Int × Int × List UInt8) × List (Int))) := evF [fn_laws_toEvent] F_laws_toEventS [.cell (.sl false (.pair (.int .i64) (.pair (.pair (.int .i64) (.sl false (.int .i64))) (.pair (.pair (.int .i64) (.pair (.int .i64) (.pair (.int .i64) .str))) (.sl false (.int .i64))))))] [] [.cell (.sl true (.pair (.int .i64) (.pair (.pair (.int .i64) (.sl true (.int .i64))) (.pair (.pair (.int .i64) (.pair (.int .i64) (.pair (.int .i64) .str))) (.sl true (.int .i64))))))] []
noncomputable def fn_laws_toEventS : TFn := ⟨53, [.cell (.sl false (.pair (.int .i64) (.pair (.pair (.int .i64) (.sl false (.int .i64))) (.pair (.pair (.int .i64) (.pair (.int .i64) (.pair (.int .i64) .str))) (.sl false (.int .i64))))))], [], [.cell (.sl true (.pair (.int .i64) (.pair (.pair (.int .i64) (.sl true (.int .i64))) (.pair (.pair (.int .i64) (.pair (.int .i64) (.pair (.int .i64) .str))) (.sl true (.int .i64))))))], [], T_laws_toEventS⟩
theorem ok_laws_toEventS : FnOk Tryz.prog fn_laws_toEventS := evF_ok mixed (allOk_cons ok_laws_toEvent allOk_nil) m_laws_toEventS (by decide)
def F_laws_toDaemon : TF := ⟨(.seq (.reg none [.p (.box 1 (.t 0)) .unit,
  .p (.alloc 2 [(.lit (.int .i64 0)), (.lit (.bool false)), (.lit (.int .i64 0)), (.lit (.int .i64 0)), (.sl true 1 []), (.sl true 4 []), (.sl true 1 []), (.sl true 1 []), (.lit (.int .i64 0)), (.lit (.int .i64 0)), (.lit (.int .i64 0)), (.lit (.int .i64 0)), (.lit (.int .i64 0)), (.lit (.int .i64 0)), (.lit (.int .i64 0)), (.lit (.int .i64 0)), (.lit (.int .i64 0)), (.sl true 1 []), (.lit (.int .i64 0)), (.lit (.int .i64 0)), (.lit (.int .i64 0)), (.sl true 1 []), (.sl true 4 []), (.sl true 8 [])]) .unit])
 (.seq (.reg none [.p (.alloc 3 [(.lit (.int .i64 0)), (.lit (.bool false)), (.lit (.int .i64 0)), (.lit (.int .i64 0)), (.sl true 1 []), (.sl true 4 []), (.sl true 1 []), (.sl true 1 []), (.lit (.int .i64 0)), (.lit (.int .i64 0)), (.lit (.int .i64 0)), (.lit (.int .i64 0)), (.lit (.int .i64 0)), (.lit (.int .i64 0)), (.lit (.int .i64 0)), (.lit (.int .i64 0)), (.lit (.int .i64 0)), (.sl true 1 []), (.lit (.int .i64 0)), (.lit (.int .i64 0)), (.lit (.int .i64 0)), (.sl true 1 []), (.sl true 4 []), (.sl true 8 [])]) .unit])
 (.seq (.reg none [.p (.fadr 4 (.t 1) 0) .unit,
  .p (.load 5 (.t 4) 1 false) .unit,
  .p (.fadr 6 (.t 3) 0) .unit,
  .p (.store (.t 6) (.t 5) 1) .unit])
 (.seq (.reg none [.p (.fadr 7 (.t 1) 1) .unit,
  .p (.load 8 (.t 7) 1 false) .unit,
  .p (.fadr 9 (.t 3) 1) .unit,
  .p (.store (.t 9) (.t 8) 1) .unit])
 (.seq (.reg none [.p (.fadr 10 (.t 1) 2) .unit,
  .p (.load 11 (.t 10) 16 true) .unit,
  .p (.callB 12 n_laws_toMate [((.t 11), 0)]) .unit,
  .p (.fadr 13 (.t 3) 2) .unit,
  .p (.storeT (.t 13) 12 16) .unit])
 (.seq (.reg none [.p (.fadr 14 (.t 1) 18) .unit,
  .p (.load 15 (.t 14) 1 false) .unit,
  .p (.fadr 16 (.t 3) 18) .unit,
  .p (.store (.t 16) (.t 15) 1) .unit])
 (.seq (.reg none [.p (.fadr 17 (.t 1) 19) .unit,
  .p (.load 18 (.t 17) 1 false) .unit,
  .p (.fadr 19 (.t 3) 19) .unit,
  .p (.store (.t 19) (.t 18) 1) .unit])
 (.seq (.reg none [.p (.fadr 20 (.t 1) 20) .unit,
  .p (.load 21 (.t 20) 2 true) .unit,
  .p (.callB 22 n_laws_toRing [((.t 21), 0)]) .unit,
  .p (.fadr 23 (.t 3) 20) .unit,
  .p (.storeT (.t 23) 22 2) .unit])
 (.seq (.reg none [.p (.fadr 24 (.t 1) 22) .unit,
  .p (.load 25 (.t 24) 1 false) .unit,
  .p (.callB 26 n_laws_toBundleS [((.t 25), 0)]) .unit,
  .p (.fadr 27 (.t 3) 22) .unit,
  .p (.storeT (.t 27) 26 1) .unit])
 (.seq (.reg none [.p (.fadr 28 (.t 1) 23) .unit,
  .p (.load 29 (.t 28) 1 false) .unit,
  .p (.callB 30 n_laws_toEventS [((.t 29), 0)]) .unit,
  .p (.fadr 31 (.t 3) 23) .unit,
  .p (.storeT (.t 31) 30 1) .unit])
 (.seq (.reg none [.p (.loadT 32 (.t 3) 24 true) .unit,
  .p (.storeT (.t 2) 32 24) .unit])
 .ret))))))))))),
 33, 1, [.c 2 24 true]⟩
theorem m_laws_toDaemon : mH Tryz.prog 79 [(4, 4, .t), (7, 4, .t), (8, 4, .t), (9, 4, .t), (10, 0, .t), (10, 1, .t)] = some (F_laws_toDaemon.code.x, F_laws_toDaemon.N, F_laws_toDaemon.np, F_laws_toDaemon.res) := by kernel_rfl
noncomputable def T_laws_toDaemon : Int × Bool × (Int × (Int × List (Int)) × List (Int × Int × Int × List UInt8) × List (Int) × List (List UInt8) × Int × Int × Int × Int × Int × Int × Int × Int × Int × List (Int)) × Int × Int × (Int × List (Int)) × List (Int × Int × Int × List (Int × Int × Int × List UInt8)) × List (Int × (Int × List (Int)) × (Int × Int × Int × List UInt8) × List (Int)) → Option (Int × Bool × (Int × (Int × List (Int)) × List (Int × Int × Int × List UInt8) × List (Int) × List (List UInt8) × Int × Int × Int × Int × Int × Int × Int × Int × Int × List (Int)) × Int × Int × (Int × List (Int)) × List (Int × Int × Int × List (Int × Int × Int × List UInt8)) × List (Int × (Int × List (Int)) × (Int × Int × Int × List UInt8) × List (Int))) := evF [fn_laws_toMate, fn_laws_toRing, fn_laws_toBundleS, fn_laws_toEventS] F_laws_toDaemon [.agg (.pair (.int .i64) (.pair .bool (.pair (.pair (.int .i64) (.pair (.pair (.int .i64) (.sl false (.int .i64))) (.pair (.sl false (.pair (.int .i64) (.pair (.int .i64) (.pair (.int .i64) .str)))) (.pair (.sl false (.int .i64)) (.pair (.sl false .str) (.pair (.int .i64) (.pair (.int .i64) (.pair (.int .i64) (.pair (.int .i64) (.pair (.int .i64) (.pair (.int .i64) (.pair (.int .i64) (.pair (.int .i64) (.pair (.int .i64) (.sl false (.int .i64)))))))))))))))) (.pair (.int .i64) (.pair (.int .i64) (.pair (.pair (.int .i64) (.sl false (.int .i64))) (.pair (.sl false (.pair (.int .i64) (.pair (.int .i64) (.pair (.int .i64) (.sl false (.pair (.int .i64) (.pair (.int .i64) (.pair (.int .i64) .str)))))))) (.sl false (.pair (.int .i64) (.pair (.pair (.int .i64) (.sl false (.int .i64))) (.pair (.pair (.int .i64) (.pair (.int .i64) (.pair (.int .i64) .str))) (.sl false (.int .i64)))))))))))))] [] [.agg (.pair (.int .i64) (.pair .bool (.pair (.pair (.int .i64) (.pair (.pair (.int .i64) (.sl true (.int .i64))) (.pair (.sl true (.pair (.int .i64) (.pair (.int .i64) (.pair (.int .i64) .str)))) (.pair (.sl true (.int .i64)) (.pair (.sl true .str) (.pair (.int .i64) (.pair (.int .i64) (.pair (.int .i64) (.pair (.int .i64) (.pair (.int .i64) (.pair (.int .i64) (.pair (.int .i64) (.pair (.int .i64) (.pair (.int .i64) (.sl true (.int .i64)))))))))))))))) (.pair (.int .i64) (.pair (.int .i64) (.pair (.pair (.int .i64) (.sl true (.int .i64))) (.pair (.sl true (.pair (.int .i64) (.pair (.int .i64) (.pair (.int .i64) (.sl true (.pair (.int .i64) (.pair (.int .i64) (.pair (.int .i64) .str)))))))) (.sl true (.pair (.int .i64) (.pair (.pair (.int .i64) (.sl true (.int .i64))) (.pair (.pair (.int .i64) (.pair (.int .i64) (.pair (.int .i64) .str))) (.sl true (.int .i64)))))))))))))] []
noncomputable def fn_laws_toDaemon : TFn := ⟨79, [.agg (.pair (.int .i64) (.pair .bool (.pair (.pair (.int .i64) (.pair (.pair (.int .i64) (.sl false (.int .i64))) (.pair (.sl false (.pair (.int .i64) (.pair (.int .i64) (.pair (.int .i64) .str)))) (.pair (.sl false (.int .i64)) (.pair (.sl false .str) (.pair (.int .i64) (.pair (.int .i64) (.pair (.int .i64) (.pair (.int .i64) (.pair (.int .i64) (.pair (.int .i64) (.pair (.int .i64) (.pair (.int .i64) (.pair (.int .i64) (.sl false (.int .i64)))))))))))))))) (.pair (.int .i64) (.pair (.int .i64) (.pair (.pair (.int .i64) (.sl false (.int .i64))) (.pair (.sl false (.pair (.int .i64) (.pair (.int .i64) (.pair (.int .i64) (.sl false (.pair (.int .i64) (.pair (.int .i64) (.pair (.int .i64) .str)))))))) (.sl false (.pair (.int .i64) (.pair (.pair (.int .i64) (.sl false (.int .i64))) (.pair (.pair (.int .i64) (.pair (.int .i64) (.pair (.int .i64) .str))) (.sl false (.int .i64)))))))))))))], [], [.agg (.pair (.int .i64) (.pair .bool (.pair (.pair (.int .i64) (.pair (.pair (.int .i64) (.sl true (.int .i64))) (.pair (.sl true (.pair (.int .i64) (.pair (.int .i64) (.pair (.int .i64) .str)))) (.pair (.sl true (.int .i64)) (.pair (.sl true .str) (.pair (.int .i64) (.pair (.int .i64) (.pair (.int .i64) (.pair (.int .i64) (.pair (.int .i64) (.pair (.int .i64) (.pair (.int .i64) (.pair (.int .i64) (.pair (.int .i64) (.sl true (.int .i64)))))))))))))))) (.pair (.int .i64) (.pair (.int .i64) (.pair (.pair (.int .i64) (.sl true (.int .i64))) (.pair (.sl true (.pair (.int .i64) (.pair (.int .i64) (.pair (.int .i64) (.sl true (.pair (.int .i64) (.pair (.int .i64) (.pair (.int .i64) .str)))))))) (.sl true (.pair (.int .i64) (.pair (.pair (.int .i64) (.sl true (.int .i64))) (.pair (.pair (.int .i64) (.pair (.int .i64) (.pair (.int .i64) .str))) (.sl true (.int .i64)))))))))))))], [], T_laws_toDaemon⟩
theorem ok_laws_toDaemon : FnOk Tryz.prog fn_laws_toDaemon := evF_ok mixed (allOk_cons ok_laws_toMate (allOk_cons ok_laws_toRing (allOk_cons ok_laws_toBundleS (allOk_cons ok_laws_toEventS allOk_nil)))) m_laws_toDaemon (by decide)
def B_laws_toDaemonS_1 : TC := (.seq (.seq (.reg none [.p (.mv 8 (.t 4)) .unit,
  .p (.mv 9 (.t 0)) .unit,
  .p (.lenB 10 (.t 9)) .unit,
  .p (.bin 11 false .lss (.t 8) (.t 10)) .unit])
 (.cond (.t 11) .skip (.exit 0)))
 (.seq (.block 1 (.reg none [.p (.mvA 14 3) .unit,
  .p (.mv 15 (.t 4)) .unit,
  .p (.mv 16 (.t 0)) .unit,
  .p (.mv 17 (.t 4)) .unit,
  .p (.iadr 18 24 (.t 16) (.t 17)) .unit,
  .p (.load 19 (.t 18) 24 true) .unit,
  .p (.callB 20 n_laws_toDaemon [((.t 19), 0)]) .unit,
  .p (.iadr 21 24 (.t 14) (.t 15)) .unit,
  .p (.storeT (.t 21) 20 24) .unit]))
 (.reg none [.p (.mv 12 (.t 4)) .unit,
  .p (.bin 13 false .add (.t 12) (.c (.int .i64 1))) .unit,
  .p (.mv 4 (.t 13)) .unit])))
noncomputable def L_laws_toDaemonS_1 : Nat → (List (Int × Bool × (Int × (Int × List (Int)) × List (Int × Int × Int × List UInt8) × List (Int) × List (List UInt8) × Int × Int × Int × Int × Int × Int × Int × Int × Int × List (Int)) × Int × Int × (Int × List (Int)) × List (Int × Int × Int × List (Int × Int × Int × List UInt8)) × List (Int × (Int × List (Int)) × (Int × Int × Int × List UInt8) × List (Int)))) × (List (Int × Bool × (Int × (Int × List (Int)) × List (Int × Int × Int × List UInt8) × List (Int) × List (List UInt8) × Int × Int × Int × Int × Int × Int × Int × Int × Int × List (Int)) × Int × Int × (Int × List (Int)) × List (Int × Int × Int × List (Int × Int × Int × List UInt8)) × List (Int × (Int × List (Int)) × (Int × Int × Int × List UInt8) × List (Int)))) × Int → Option ((List (Int × Bool × (Int × (Int × List (Int)) × List (Int × Int × Int × List UInt8) × List (Int) × List (List UInt8) × Int × Int × Int × Int × Int × Int × Int × Int × Int × List (Int)) × Int × Int × (Int × List (Int)) × List (Int × Int × Int × List (Int × Int × Int × List UInt8)) × List (Int × (Int × List (Int)) × (Int × Int × Int × List UInt8) × List (Int)))) ⊕ (List (Int × Bool × (Int × (Int × List (Int)) × List (Int × Int × Int × List UInt8) × List (Int) × List (List UInt8) × Int × Int × Int × Int × Int × Int × Int × Int × Int × List (Int)) × Int × Int × (Int × List (Int)) × List (Int × Int × Int × List (Int × Int × Int × List UInt8)) × List (Int × (Int × List (Int)) × (Int × Int × Int × List UInt8) × List (Int))))) := evL [fn_laws_toDaemon] (finT [.t 2] [] [.cell (.sl true (.pair (.int .i64) (.pair .bool (.pair (.pair (.int .i64) (.pair (.pair (.int .i64) (.sl true (.int .i64))) (.pair (.sl true (.pair (.int .i64) (.pair (.int .i64) (.pair (.int .i64) .str)))) (.pair (.sl true (.int .i64)) (.pair (.sl true .str) (.pair (.int .i64) (.pair (.int .i64) (.pair (.int .i64) (.pair (.int .i64) (.pair (.int .i64) (.pair (.int .i64) (.pair (.int .i64) (.pair (.int .i64) (.pair (.int .i64) (.sl true (.int .i64)))))))))))))))) (.pair (.int .i64) (.pair (.int .i64) (.pair (.pair (.int .i64) (.sl true (.int .i64))) (.pair (.sl true (.pair (.int .i64) (.pair (.int .i64) (.pair (.int .i64) (.sl true (.pair (.int .i64) (.pair (.int .i64) (.pair (.int .i64) .str)))))))) (.sl true (.pair (.int .i64) (.pair (.pair (.int .i64) (.sl true (.int .i64))) (.pair (.pair (.int .i64) (.pair (.int .i64) (.pair (.int .i64) .str))) (.sl true (.int .i64))))))))))))))]) 0 ⟨[(0, true), (3, false), (4, false)], [.cell (.sl false (.pair (.int .i64) (.pair .bool (.pair (.pair (.int .i64) (.pair (.pair (.int .i64) (.sl false (.int .i64))) (.pair (.sl false (.pair (.int .i64) (.pair (.int .i64) (.pair (.int .i64) .str)))) (.pair (.sl false (.int .i64)) (.pair (.sl false .str) (.pair (.int .i64) (.pair (.int .i64) (.pair (.int .i64) (.pair (.int .i64) (.pair (.int .i64) (.pair (.int .i64) (.pair (.int .i64) (.pair (.int .i64) (.pair (.int .i64) (.sl false (.int .i64)))))))))))))))) (.pair (.int .i64) (.pair (.int .i64) (.pair (.pair (.int .i64) (.sl false (.int .i64))) (.pair (.sl false (.pair (.int .i64) (.pair (.int .i64) (.pair (.int .i64) (.sl false (.pair (.int .i64) (.pair (.int .i64) (.pair (.int .i64) .str)))))))) (.sl false (.pair (.int .i64) (.pair (.pair (.int .i64) (.sl false (.int .i64))) (.pair (.pair (.int .i64) (.pair (.int .i64) (.pair (.int .i64) .str))) (.sl false (.int .i64)))))))))))))), .cell (.sl true (.pair (.int .i64) (.pair .bool (.pair (.pair (.int .i64) (.pair (.pair (.int .i64) (.sl true (.int .i64))) (.pair (.sl true (.pair (.int .i64) (.pair (.int .i64) (.pair (.int .i64) .str)))) (.pair (.sl true (.int .i64)) (.pair (.sl true .str) (.pair (.int .i64) (.pair (.int .i64) (.pair (.int .i64) (.pair (.int .i64) (.pair (.int .i64) (.pair (.int .i64) (.pair (.int .i64) (.pair (.int .i64) (.pair (.int .i64) (.sl true (.int .i64)))))))))))))))) (.pair (.int .i64) (.pair (.int .i64) (.pair (.pair (.int .i64) (.sl true (.int .i64))) (.pair (.sl true (.pair (.int .i64) (.pair (.int .i64) (.pair (.int .i64) (.sl true (.pair (.int .i64) (.pair (.int .i64) (.pair (.int .i64) .str)))))))) (.sl true (.pair (.int .i64) (.pair (.pair (.int .i64) (.sl true (.int .i64))) (.pair (.pair (.int .i64) (.pair (.int .i64) (.pair (.int .i64) .str))) (.sl true (.int .i64)))))))))))))), .cell (.int .i64)]⟩ ⟨[(3, false)], [.cell (.sl true (.pair (.int .i64) (.pair .bool (.pair (.pair (.int .i64) (.pair (.pair (.int .i64) (.sl true (.int .i64))) (.pair (.sl true (.pair (.int .i64) (.pair (.int .i64) (.pair (.int .i64) .str)))) (.pair (.sl true (.int .i64)) (.pair (.sl true .str) (.pair (.int .i64) (.pair (.int .i64) (.pair (.int .i64) (.pair (.int .i64) (.pair (.int .i64) (.pair (.int .i64) (.pair (.int .i64) (.pair (.int .i64) (.pair (.int .i64) (.sl true (.int .i64)))))))))))))))) (.pair (.int .i64) (.pair (.int .i64) (.pair (.pair (.int .i64) (.sl true (.int .i64))) (.pair (.sl true (.pair (.int .i64) (.pair (.int .i64) (.pair (.int .i64) (.sl true (.pair (.int .i64) (.pair (.int .i64) (.pair (.int .i64) .str)))))))) (.sl true (.pair (.int .i64) (.pair (.pair (.int .i64) (.sl true (.int .i64))) (.pair (.pair (.int .i64) (.pair (.int .i64) (.pair (.int .i64) .str))) (.sl true (.int .i64))))))))))))))]⟩ B_laws_toDaemonS_1
def F_laws_toDaemonS : TF := ⟨(.seq (.reg none [.p (.mvN 2 24) .unit])
 (.seq (.reg none [.p (.mv 5 (.t 0)) .unit,
  .p (.lenB 6 (.t 5)) .unit,
  .p (.mkS 7 320 [(.lit (.int .i64 0)), (.lit (.bool false)), (.lit (.int .i64 0)), (.lit (.int .i64 0)), (.sl true 1 []), (.sl true 4 []), (.sl true 1 []), (.sl true 1 []), (.lit (.int .i64 0)), (.lit (.int .i64 0)), (.lit (.int .i64 0)), (.lit (.int .i64 0)), (.lit (.int .i64 0)), (.lit (.int .i64 0)), (.lit (.int .i64 0)), (.lit (.int .i64 0)), (.lit (.int .i64 0)), (.sl true 1 []), (.lit (.int .i64 0)), (.lit (.int .i64 0)), (.lit (.int .i64 0)), (.sl true 1 []), (.sl true 4 []), (.sl true 8 [])] (.t 6) (.t 6)) (.pair (.int .i64) (.pair .bool (.pair (.pair (.int .i64) (.pair (.pair (.int .i64) (.sl true (.int .i64))) (.pair (.sl true (.pair (.int .i64) (.pair (.int .i64) (.pair (.int .i64) .str)))) (.pair (.sl true (.int .i64)) (.pair (.sl true .str) (.pair (.int .i64) (.pair (.int .i64) (.pair (.int .i64) (.pair (.int .i64) (.pair (.int .i64) (.pair (.int .i64) (.pair (.int .i64) (.pair (.int .i64) (.pair (.int .i64) (.sl true (.int .i64)))))))))))))))) (.pair (.int .i64) (.pair (.int .i64) (.pair (.pair (.int .i64) (.sl true (.int .i64))) (.pair (.sl true (.pair (.int .i64) (.pair (.int .i64) (.pair (.int .i64) (.sl true (.pair (.int .i64) (.pair (.int .i64) (.pair (.int .i64) .str)))))))) (.sl true (.pair (.int .i64) (.pair (.pair (.int .i64) (.sl true (.int .i64))) (.pair (.pair (.int .i64) (.pair (.int .i64) (.pair (.int .i64) .str))) (.sl true (.int .i64))))))))))))),
  .p (.mvT 3 7) .unit])
 (.seq (.seq (.reg none [.p (.mv 4 (.c (.int .i64 0))) .unit])
 (.jl 0 ⟨[(0, true), (3, false), (4, false)], [.cell (.sl false (.pair (.int .i64) (.pair .bool (.pair (.pair (.int .i64) (.pair (.pair (.int .i64) (.sl false (.int .i64))) (.pair (.sl false (.pair (.int .i64) (.pair (.int .i64) (.pair (.int .i64) .str)))) (.pair (.sl false (.int .i64)) (.pair (.sl false .str) (.pair (.int .i64) (.pair (.int .i64) (.pair (.int .i64) (.pair (.int .i64) (.pair (.int .i64) (.pair (.int .i64) (.pair (.int .i64) (.pair (.int .i64) (.pair (.int .i64) (.sl false (.int .i64)))))))))))))))) (.pair (.int .i64) (.pair (.int .i64) (.pair (.pair (.int .i64) (.sl false (.int .i64))) (.pair (.sl false (.pair (.int .i64) (.pair (.int .i64) (.pair (.int .i64) (.sl false (.pair (.int .i64) (.pair (.int .i64) (.pair (.int .i64) .str)))))))) (.sl false (.pair (.int .i64) (.pair (.pair (.int .i64) (.sl false (.int .i64))) (.pair (.pair (.int .i64) (.pair (.int .i64) (.pair (.int .i64) .str))) (.sl false (.int .i64)))))))))))))), .cell (.sl true (.pair (.int .i64) (.pair .bool (.pair (.pair (.int .i64) (.pair (.pair (.int .i64) (.sl true (.int .i64))) (.pair (.sl true (.pair (.int .i64) (.pair (.int .i64) (.pair (.int .i64) .str)))) (.pair (.sl true (.int .i64)) (.pair (.sl true .str) (.pair (.int .i64) (.pair (.int .i64) (.pair (.int .i64) (.pair (.int .i64) (.pair (.int .i64) (.pair (.int .i64) (.pair (.int .i64) (.pair (.int .i64) (.pair (.int .i64) (.sl true (.int .i64)))))))))))))))) (.pair (.int .i64) (.pair (.int .i64) (.pair (.pair (.int .i64) (.sl true (.int .i64))) (.pair (.sl true (.pair (.int .i64) (.pair (.int .i64) (.pair (.int .i64) (.sl true (.pair (.int .i64) (.pair (.int .i64) (.pair (.int .i64) .str)))))))) (.sl true (.pair (.int .i64) (.pair (.pair (.int .i64) (.sl true (.int .i64))) (.pair (.pair (.int .i64) (.pair (.int .i64) (.pair (.int .i64) .str))) (.sl true (.int .i64)))))))))))))), .cell (.int .i64)]⟩ ⟨[(3, false)], [.cell (.sl true (.pair (.int .i64) (.pair .bool (.pair (.pair (.int .i64) (.pair (.pair (.int .i64) (.sl true (.int .i64))) (.pair (.sl true (.pair (.int .i64) (.pair (.int .i64) (.pair (.int .i64) .str)))) (.pair (.sl true (.int .i64)) (.pair (.sl true .str) (.pair (.int .i64) (.pair (.int .i64) (.pair (.int .i64) (.pair (.int .i64) (.pair (.int .i64) (.pair (.int .i64) (.pair (.int .i64) (.pair (.int .i64) (.pair (.int .i64) (.sl true (.int .i64)))))))))))))))) (.pair (.int .i64) (.pair (.int .i64) (.pair (.pair (.int .i64) (.sl true (.int .i64))) (.pair (.sl true (.pair (.int .i64) (.pair (.int .i64) (.pair (.int .i64) (.sl true (.pair (.int .i64) (.pair (.int .i64) (.pair (.int .i64) .str)))))))) (.sl true (.pair (.int .i64) (.pair (.pair (.int .i64) (.sl true (.int .i64))) (.pair (.pair (.int .i64) (.pair (.int .i64) (.pair (.int .i64) .str))) (.sl true (.int .i64))))))))))))))]⟩ B_laws_toDaemonS_1))
 (.seq (.reg none [.p (.mvT 22 3) .unit,
  .p (.mvT 2 22) .unit])
 .ret)))),
 23, 1, [.t 2]⟩
theorem m_laws_toDaemonS : mH Tryz.prog 51 [(1, 3, .t), (5, 0, .v), (5, 8, .t), (6, 0, .t), (6, 1, .t)] = some (F_laws_toDaemonS.code.x, F_laws_toDaemonS.N, F_laws_toDaemonS.np, F_laws_toDaemonS.res) := by kernel_rfl
noncomputable def T_laws_toDaemonS : List (Int × Bool × (Int × (Int × List (Int)) × List (Int × Int × Int × List UInt8) × List (Int) × List (List UInt8) × Int × Int × Int × Int × Int × Int × Int × Int × Int × List (Int)) × Int × Int × (Int × List (Int)) × List (Int × Int × Int × List (Int × Int × Int × List UInt8)) × List (Int × (Int × List (Int)) × (Int × Int × Int × List UInt8) × List (Int))) → Option (List (Int × Bool × (Int × (Int × List (Int)) × List (Int × Int × Int × List UInt8) × List (Int) × List (List UInt8) × Int × Int × Int × Int × Int × Int × Int × Int × Int × List (Int)) × Int × Int × (Int × List (Int)) × List (Int × Int × Int × List (Int × Int × Int × List UInt8)) × List (Int × (Int × List (Int)) × (Int × Int × Int × List UInt8) × List (Int)))) := evF [fn_laws_toDaemon] F_laws_toDaemonS [.cell (.sl false (.pair (.int .i64) (.pair .bool (.pair (.pair (.int .i64) (.pair (.pair (.int .i64) (.sl false (.int .i64))) (.pair (.sl false (.pair (.int .i64) (.pair (.int .i64) (.pair (.int .i64) .str)))) (.pair (.sl false (.int .i64)) (.pair (.sl false .str) (.pair (.int .i64) (.pair (.int .i64) (.pair (.int .i64) (.pair (.int .i64) (.pair (.int .i64) (.pair (.int .i64) (.pair (.int .i64) (.pair (.int .i64) (.pair (.int .i64) (.sl false (.int .i64)))))))))))))))) (.pair (.int .i64) (.pair (.int .i64) (.pair (.pair (.int .i64) (.sl false (.int .i64))) (.pair (.sl false (.pair (.int .i64) (.pair (.int .i64) (.pair (.int .i64) (.sl false (.pair (.int .i64) (.pair (.int .i64) (.pair (.int .i64) .str)))))))) (.sl false (.pair (.int .i64) (.pair (.pair (.int .i64) (.sl false (.int .i64))) (.pair (.pair (.int .i64) (.pair (.int .i64) (.pair (.int .i64) .str))) (.sl false (.int .i64))))))))))))))] [] [.cell (.sl true (.pair (.int .i64) (.pair .bool (.pair (.pair (.int .i64) (.pair (.pair (.int .i64) (.sl true (.int .i64))) (.pair (.sl true (.pair (.int .i64) (.pair (.int .i64) (.pair (.int .i64) .str)))) (.pair (.sl true (.int .i64)) (.pair (.sl true .str) (.pair (.int .i64) (.pair (.int .i64) (.pair (.int .i64) (.pair (.int .i64) (.pair (.int .i64) (.pair (.int .i64) (.pair (.int .i64) (.pair (.int .i64) (.pair (.int .i64) (.sl true (.int .i64)))))))))))))))) (.pair (.int .i64) (.pair (.int .i64) (.pair (.pair (.int .i64) (.sl true (.int .i64))) (.pair (.sl true (.pair (.int .i64) (.pair (.int .i64) (.pair (.int .i64) (.sl true (.pair (.int .i64) (.pair (.int .i64) (.pair (.int .i64) .str)))))))) (.sl true (.pair (.int .i64) (.pair (.pair (.int .i64) (.sl true (.int .i64))) (.pair (.pair (.int .i64) (.pair (.int .i64) (.pair (.int .i64) .str))) (.sl true (.int .i64))))))))))))))] []
noncomputable def fn_laws_toDaemonS : TFn := ⟨51, [.cell (.sl false (.pair (.int .i64) (.pair .bool (.pair (.pair (.int .i64) (.pair (.pair (.int .i64) (.sl false (.int .i64))) (.pair (.sl false (.pair (.int .i64) (.pair (.int .i64) (.pair (.int .i64) .str)))) (.pair (.sl false (.int .i64)) (.pair (.sl false .str) (.pair (.int .i64) (.pair (.int .i64) (.pair (.int .i64) (.pair (.int .i64) (.pair (.int .i64) (.pair (.int .i64) (.pair (.int .i64) (.pair (.int .i64) (.pair (.int .i64) (.sl false (.int .i64)))))))))))))))) (.pair (.int .i64) (.pair (.int .i64) (.pair (.pair (.int .i64) (.sl false (.int .i64))) (.pair (.sl false (.pair (.int .i64) (.pair (.int .i64) (.pair (.int .i64) (.sl false (.pair (.int .i64) (.pair (.int .i64) (.pair (.int .i64) .str)))))))) (.sl false (.pair (.int .i64) (.pair (.pair (.int .i64) (.sl false (.int .i64))) (.pair (.pair (.int .i64) (.pair (.int .i64) (.pair (.int .i64) .str))) (.sl false (.int .i64))))))))))))))], [], [.cell (.sl true (.pair (.int .i64) (.pair .bool (.pair (.pair (.int .i64) (.pair (.pair (.int .i64) (.sl true (.int .i64))) (.pair (.sl true (.pair (.int .i64) (.pair (.int .i64) (.pair (.int .i64) .str)))) (.pair (.sl true (.int .i64)) (.pair (.sl true .str) (.pair (.int .i64) (.pair (.int .i64) (.pair (.int .i64) (.pair (.int .i64) (.pair (.int .i64) (.pair (.int .i64) (.pair (.int .i64) (.pair (.int .i64) (.pair (.int .i64) (.sl true (.int .i64)))))))))))))))) (.pair (.int .i64) (.pair (.int .i64) (.pair (.pair (.int .i64) (.sl true (.int .i64))) (.pair (.sl true (.pair (.int .i64) (.pair (.int .i64) (.pair (.int .i64) (.sl true (.pair (.int .i64) (.pair (.int .i64) (.pair (.int .i64) .str)))))))) (.sl true (.pair (.int .i64) (.pair (.pair (.int .i64) (.sl true (.int .i64))) (.pair (.pair (.int .i64) (.pair (.int .i64) (.pair (.int .i64) .str))) (.sl true (.int .i64))))))))))))))], [], T_laws_toDaemonS⟩
theorem ok_laws_toDaemonS : FnOk Tryz.prog fn_laws_toDaemonS := evF_ok mixed (allOk_cons ok_laws_toDaemon allOk_nil) m_laws_toDaemonS (by decide)
def F_laws_toLetter : TF := ⟨(.seq (.reg none [.p (.box 1 (.t 0)) .unit,
  .p (.alloc 2 [(.lit (.int .i64 0)), (.lit (.int .i64 0)), (.lit (.int .i64 0)), (.lit (.int .i64 0)), (.lit (.int .i64 0)), (.lit (.int .i64 0)), (.lit (.string (ba []))), (.lit (.int .i64 0)), (.lit (.int .i64 0)), (.lit (.int .i64 0)), (.lit (.int .i64 0)), (.lit (.int .i64 0)), (.sl true 1 []), (.lit (.int .i64 0)), (.lit (.int .i64 0)), (.lit (.int .i64 0)), (.sl true 4 [])]) .unit])
 (.seq (.reg none [.p (.alloc 3 [(.lit (.int .i64 0)), (.lit (.int .i64 0)), (.lit (.int .i64 0)), (.lit (.int .i64 0)), (.lit (.int .i64 0)), (.lit (.int .i64 0)), (.lit (.string (ba []))), (.lit (.int .i64 0)), (.lit (.int .i64 0)), (.lit (.int .i64 0)), (.lit (.int .i64 0)), (.lit (.int .i64 0)), (.sl true 1 []), (.lit (.int .i64 0)), (.lit (.int .i64 0)), (.lit (.int .i64 0)), (.sl true 4 [])]) .unit])
 (.seq (.reg none [.p (.fadr 4 (.t 1) 0) .unit,
  .p (.load 5 (.t 4) 1 false) .unit,
  .p (.fadr 6 (.t 3) 0) .unit,
  .p (.store (.t 6) (.t 5) 1) .unit])
 (.seq (.reg none [.p (.fadr 7 (.t 1) 1) .unit,
  .p (.load 8 (.t 7) 1 false) .unit,
  .p (.fadr 9 (.t 3) 1) .unit,
  .p (.store (.t 9) (.t 8) 1) .unit])
 (.seq (.reg none [.p (.fadr 10 (.t 1) 2) .unit,
  .p (.load 11 (.t 10) 1 false) .unit,
  .p (.fadr 12 (.t 3) 2) .unit,
  .p (.store (.t 12) (.t 11) 1) .unit])
 (.seq (.reg none [.p (.fadr 13 (.t 1) 3) .unit,
  .p (.load 14 (.t 13) 4 true) .unit,
  .p (.callB 15 n_laws_toItem [((.t 14), 0)]) .unit,
  .p (.fadr 16 (.t 3) 3) .unit,
  .p (.store (.t 16) (.t 15) 4) .unit])
 (.seq (.reg none [.p (.fadr 17 (.t 1) 7) .unit,
  .p (.load 18 (.t 17) 6 true) .unit,
  .p (.callB 19 n_laws_toToken [((.t 18), 0)]) .unit,
  .p (.fadr 20 (.t 3) 7) .unit,
  .p (.storeT (.t 20) 19 6) .unit])
 (.seq (.reg none [.p (.fadr 21 (.t 1) 13) .unit,
  .p (.load 22 (.t 21) 4 true) .unit,
  .p (.callB 23 n_laws_toBundle [((.t 22), 0)]) .unit,
  .p (.fadr 24 (.t 3) 13) .unit,
  .p (.storeT (.t 24) 23 4) .unit])
 (.seq (.reg none [.p (.loadT 25 (.t 3) 17 true) .unit,
  .p (.storeT (.t 2) 25 17) .unit])
 .ret))))))))),
 26, 1, [.c 2 17 true]⟩
theorem m_laws_toLetter : mH Tryz.prog 80 [(6, 4, .t), (7, 4, .t), (8, 0, .t), (8, 1, .t)] = some (F_laws_toLetter.code.x, F_laws_toLetter.N, F_laws_toLetter.np, F_laws_toLetter.res) := by kernel_rfl
noncomputable def T_laws_toLetter : Int × Int × Int × (Int × Int × Int × List UInt8) × (Int × Int × Int × Int × Int × List (Int)) × Int × Int × Int × List (Int × Int × Int × List UInt8) → Option (Int × Int × Int × (Int × Int × Int × List UInt8) × (Int × Int × Int × Int × Int × List (Int)) × Int × Int × Int × List (Int × Int × Int × List UInt8)) := evF [fn_laws_toItem, fn_laws_toToken, fn_laws_toBundle] F_laws_toLetter [.agg (.pair (.int .i64) (.pair (.int .i64) (.pair (.int .i64) (.pair (.pair (.int .i64) (.pair (.int .i64) (.pair (.int .i64) .str))) (.pair (.pair (.int .i64) (.pair (.int .i64) (.pair (.int .i64) (.pair (.int .i64) (.pair (.int .i64) (.sl false (.int .i64))))))) (.pair (.int .i64) (.pair (.int .i64) (.pair (.int .i64) (.sl false (.pair (.int .i64) (.pair (.int .i64) (.pair (.int .i64) .str))))))))))))] [] [.agg (.pair (.int .i64) (.pair (.int .i64) (.pair (.int .i64) (.pair (.pair (.int .i64) (.pair (.int .i64) (.pair (.int .i64) .str))) (.pair (.pair (.int .i64) (.pair (.int .i64) (.pair (.int .i64) (.pair (.int .i64) (.pair (.int .i64) (.sl true (.int .i64))))))) (.pair (.int .i64) (.pair (.int .i64) (.pair (.int .i64) (.sl true (.pair (.int .i64) (.pair (.int .i64) (.pair (.int .i64) .str))))))))))))] []
noncomputable def fn_laws_toLetter : TFn := ⟨80, [.agg (.pair (.int .i64) (.pair (.int .i64) (.pair (.int .i64) (.pair (.pair (.int .i64) (.pair (.int .i64) (.pair (.int .i64) .str))) (.pair (.pair (.int .i64) (.pair (.int .i64) (.pair (.int .i64) (.pair (.int .i64) (.pair (.int .i64) (.sl false (.int .i64))))))) (.pair (.int .i64) (.pair (.int .i64) (.pair (.int .i64) (.sl false (.pair (.int .i64) (.pair (.int .i64) (.pair (.int .i64) .str))))))))))))], [], [.agg (.pair (.int .i64) (.pair (.int .i64) (.pair (.int .i64) (.pair (.pair (.int .i64) (.pair (.int .i64) (.pair (.int .i64) .str))) (.pair (.pair (.int .i64) (.pair (.int .i64) (.pair (.int .i64) (.pair (.int .i64) (.pair (.int .i64) (.sl true (.int .i64))))))) (.pair (.int .i64) (.pair (.int .i64) (.pair (.int .i64) (.sl true (.pair (.int .i64) (.pair (.int .i64) (.pair (.int .i64) .str))))))))))))], [], T_laws_toLetter⟩
theorem ok_laws_toLetter : FnOk Tryz.prog fn_laws_toLetter := evF_ok mixed (allOk_cons ok_laws_toItem (allOk_cons ok_laws_toToken (allOk_cons ok_laws_toBundle allOk_nil))) m_laws_toLetter (by decide)
def B_laws_toLetterS_1 : TC := (.seq (.seq (.reg none [.p (.mv 8 (.t 4)) .unit,
  .p (.mv 9 (.t 0)) .unit,
  .p (.lenB 10 (.t 9)) .unit,
  .p (.bin 11 false .lss (.t 8) (.t 10)) .unit])
 (.cond (.t 11) .skip (.exit 0)))
 (.seq (.block 1 (.reg none [.p (.mvA 14 3) .unit,
  .p (.mv 15 (.t 4)) .unit,
  .p (.mv 16 (.t 0)) .unit,
  .p (.mv 17 (.t 4)) .unit,
  .p (.iadr 18 17 (.t 16) (.t 17)) .unit,
  .p (.load 19 (.t 18) 17 true) .unit,
  .p (.callB 20 n_laws_toLetter [((.t 19), 0)]) .unit,
  .p (.iadr 21 17 (.t 14) (.t 15)) .unit,
  .p (.storeT (.t 21) 20 17) .unit]))
 (.reg none [.p (.mv 12 (.t 4)) .unit,
  .p (.bin 13 false .add (.t 12) (.c (.int .i64 1))) .unit,
  .p (.mv 4 (.t 13)) .unit])))
noncomputable def L_laws_toLetterS_1 : Nat → (List (Int × Int × Int × (Int × Int × Int × List UInt8) × (Int × Int × Int × Int × Int × List (Int)) × Int × Int × Int × List (Int × Int × Int × List UInt8))) × (List (Int × Int × Int × (Int × Int × Int × List UInt8) × (Int × Int × Int × Int × Int × List (Int)) × Int × Int × Int × List (Int × Int × Int × List UInt8))) × Int → Option ((List (Int × Int × Int × (Int × Int × Int × List UInt8) × (Int × Int × Int × Int × Int × List (Int)) × Int × Int × Int × List (Int × Int × Int × List UInt8))) ⊕ (List (Int × Int × Int × (Int × Int × Int × List UInt8) × (Int × Int × Int × Int × Int × List (Int)) × Int × Int × Int × List (Int × Int × Int × List UInt8)))) := evL [fn_laws_toLetter] (finT [.t 2] [] [.cell (.sl true (.pair (.int .i64) (.pair (.int .i64) (.pair (.int .i64) (.pair (.pair (.int .i64) (.pair (.int .i64) (.pair (.int .i64) .str))) (.pair (.pair (.int .i64) (.pair (.int .i64) (.pair (.int .i64) (.pair (.int .i64) (.pair (.int .i64) (.sl true (.int .i64))))))) (.pair (.int .i64) (.pair (.int .i64) (.pair (.int .i64) (.sl true (.pair (.int .i64) (.pair (.int .i64) (.pair (.int .i64) .str)))))))))))))]) 0 ⟨[(0, true), (3, false), (4, false)], [.cell (.sl false (.pair (.int .i64) (.pair (.int .i64) (.pair (.int .i64) (.pair (.pair (.int .i64) (.pair (.int .i64) (.pair (.int .i64) .str))) (.pair (.pair (.int .i64) (.pair (.int .i64) (.pair (.int .i64) (.pair (.int .i64) (.pair (.int .i64) (.sl false (.int .i64))))))) (.pair (.int .i64) (.pair (.int .i64) (.pair (.int .i64) (.sl false (.pair (.int .i64) (.pair (.int .i64) (.pair (.int .i64) .str))))))))))))), .cell (.sl true (.pair (.int .i64) (.pair (.int .i64) (.pair (.int .i64) (.pair (.pair (.int .i64) (.pair (.int .i64) (.pair (.int .i64) .str))) (.pair (.pair (.int .i64) (.pair (.int .i64) (.pair (.int .i64) (.pair (.int .i64) (.pair (.int .i64) (.sl true (.int .i64))))))) (.pair (.int .i64) (.pair (.int .i64) (.pair (.int .i64) (.sl true (.pair (.int .i64) (.pair (.int .i64) (.pair (.int .i64) .str))))))))))))), .cell (.int .i64)]⟩ ⟨[(3, false)], [.cell (.sl true (.pair (.int .i64) (.pair (.int .i64) (.pair (.int .i64) (.pair (.pair (.int .i64) (.pair (.int .i64) (.pair (.int .i64) .str))) (.pair (.pair (.int .i64) (.pair (.int .i64) (.pair (.int .i64) (.pair (.int .i64) (.pair (.int .i64) (.sl true (.int .i64))))))) (.pair (.int .i64) (.pair (.int .i64) (.pair (.int .i64) (.sl true (.pair (.int .i64) (.pair (.int .i64) (.pair (.int .i64) .str)))))))))))))]⟩ B_laws_toLetterS_1
def F_laws_toLetterS : TF := ⟨(.seq (.reg none [.p (.mvN 2 17) .unit])
 (.seq (.reg none [.p (.mv 5 (.t 0)) .unit,
  .p (.lenB 6 (.t 5)) .unit,
  .p (.mkS 7 176 [(.lit (.int .i64 0)), (.lit (.int .i64 0)), (.lit (.int .i64 0)), (.lit (.int .i64 0)), (.lit (.int .i64 0)), (.lit (.int .i64 0)), (.lit (.string (ba []))), (.lit (.int .i64 0)), (.lit (.int .i64 0)), (.lit (.int .i64 0)), (.lit (.int .i64 0)), (.lit (.int .i64 0)), (.sl true 1 []), (.lit (.int .i64 0)), (.lit (.int .i64 0)), (.lit (.int .i64 0)), (.sl true 4 [])] (.t 6) (.t 6)) (.pair (.int .i64) (.pair (.int .i64) (.pair (.int .i64) (.pair (.pair (.int .i64) (.pair (.int .i64) (.pair (.int .i64) .str))) (.pair (.pair (.int .i64) (.pair (.int .i64) (.pair (.int .i64) (.pair (.int .i64) (.pair (.int .i64) (.sl true (.int .i64))))))) (.pair (.int .i64) (.pair (.int .i64) (.pair (.int .i64) (.sl true (.pair (.int .i64) (.pair (.int .i64) (.pair (.int .i64) .str)))))))))))),
  .p (.mvT 3 7) .unit])
 (.seq (.seq (.reg none [.p (.mv 4 (.c (.int .i64 0))) .unit])
 (.jl 0 ⟨[(0, true), (3, false), (4, false)], [.cell (.sl false (.pair (.int .i64) (.pair (.int .i64) (.pair (.int .i64) (.pair (.pair (.int .i64) (.pair (.int .i64) (.pair (.int .i64) .str))) (.pair (.pair (.int .i64) (.pair (.int .i64) (.pair (.int .i64) (.pair (.int .i64) (.pair (.int .i64) (.sl false (.int .i64))))))) (.pair (.int .i64) (.pair (.int .i64) (.pair (.int .i64) (.sl false (.pair (.int .i64) (.pair (.int .i64) (.pair (.int .i64) .str))))))))))))), .cell (.sl true (.pair (.int .i64) (.pair (.int .i64) (.pair (.int .i64) (.pair (.pair (.int .i64) (.pair (.int .i64) (.pair (.int .i64) .str))) (.pair (.pair (.int .i64) (.pair (.int .i64) (.pair (.int .i64) (.pair (.int .i64) (.pair (.int .i64) (.sl true (.int .i64))))))) (.pair (.int .i64) (.pair (.int .i64) (.pair (.int .i64) (.sl true (.pair (.int .i64) (.pair (.int .i64) (.pair (.int .i64) .str))))))))))))), .cell (.int .i64)]⟩ ⟨[(3, false)], [.cell (.sl true (.pair (.int .i64) (.pair (.int .i64) (.pair (.int .i64) (.pair (.pair (.int .i64) (.pair (.int .i64) (.pair (.int .i64) .str))) (.pair (.pair (.int .i64) (.pair (.int .i64) (.pair (.int .i64) (.pair (.int .i64) (.pair (.int .i64) (.sl true (.int .i64))))))) (.pair (.int .i64) (.pair (.int .i64) (.pair (.int .i64) (.sl true (.pair (.int .i64) (.pair (.int .i64) (.pair (.int .i64) .str)))))))))))))]⟩ B_laws_toLetterS_1))
 (.seq (.reg none [.p (.mvT 22 3) .unit,
  .p (.mvT 2 22) .unit])
 .ret)))),
 23, 1, [.t 2]⟩
theorem m_laws_toLetterS : mH Tryz.prog 52 [(1, 3, .t), (5, 0, .v), (5, 8, .t), (6, 0, .t), (6, 1, .t)] = some (F_laws_toLetterS.code.x, F_laws_toLetterS.N, F_laws_toLetterS.np, F_laws_toLetterS.res) := by kernel_rfl
noncomputable def T_laws_toLetterS : List (Int × Int × Int × (Int × Int × Int × List UInt8) × (Int × Int × Int × Int × Int × List (Int)) × Int × Int × Int × List (Int × Int × Int × List UInt8)) → Option (List (Int × Int × Int × (Int × Int × Int × List UInt8) × (Int × Int × Int × Int × Int × List (Int)) × Int × Int × Int × List (Int × Int × Int × List UInt8))) := evF [fn_laws_toLetter] F_laws_toLetterS [.cell (.sl false (.pair (.int .i64) (.pair (.int .i64) (.pair (.int .i64) (.pair (.pair (.int .i64) (.pair (.int .i64) (.pair (.int .i64) .str))) (.pair (.pair (.int .i64) (.pair (.int .i64) (.pair (.int .i64) (.pair (.int .i64) (.pair (.int .i64) (.sl false (.int .i64))))))) (.pair (.int .i64) (.pair (.int .i64) (.pair (.int .i64) (.sl false (.pair (.int .i64) (.pair (.int .i64) (.pair (.int .i64) .str)))))))))))))] [] [.cell (.sl true (.pair (.int .i64) (.pair (.int .i64) (.pair (.int .i64) (.pair (.pair (.int .i64) (.pair (.int .i64) (.pair (.int .i64) .str))) (.pair (.pair (.int .i64) (.pair (.int .i64) (.pair (.int .i64) (.pair (.int .i64) (.pair (.int .i64) (.sl true (.int .i64))))))) (.pair (.int .i64) (.pair (.int .i64) (.pair (.int .i64) (.sl true (.pair (.int .i64) (.pair (.int .i64) (.pair (.int .i64) .str)))))))))))))] []
noncomputable def fn_laws_toLetterS : TFn := ⟨52, [.cell (.sl false (.pair (.int .i64) (.pair (.int .i64) (.pair (.int .i64) (.pair (.pair (.int .i64) (.pair (.int .i64) (.pair (.int .i64) .str))) (.pair (.pair (.int .i64) (.pair (.int .i64) (.pair (.int .i64) (.pair (.int .i64) (.pair (.int .i64) (.sl false (.int .i64))))))) (.pair (.int .i64) (.pair (.int .i64) (.pair (.int .i64) (.sl false (.pair (.int .i64) (.pair (.int .i64) (.pair (.int .i64) .str)))))))))))))], [], [.cell (.sl true (.pair (.int .i64) (.pair (.int .i64) (.pair (.int .i64) (.pair (.pair (.int .i64) (.pair (.int .i64) (.pair (.int .i64) .str))) (.pair (.pair (.int .i64) (.pair (.int .i64) (.pair (.int .i64) (.pair (.int .i64) (.pair (.int .i64) (.sl true (.int .i64))))))) (.pair (.int .i64) (.pair (.int .i64) (.pair (.int .i64) (.sl true (.pair (.int .i64) (.pair (.int .i64) (.pair (.int .i64) .str)))))))))))))], [], T_laws_toLetterS⟩
theorem ok_laws_toLetterS : FnOk Tryz.prog fn_laws_toLetterS := evF_ok mixed (allOk_cons ok_laws_toLetter allOk_nil) m_laws_toLetterS (by decide)
def F_laws_toWorld : TF := ⟨(.seq (.reg none [.p (.box 1 (.t 0)) .unit,
  .p (.alloc 2 [(.sl true 2 []), (.sl true 24 []), (.sl true 17 []), (.sl true 8 [])]) .unit])
 (.seq (.reg none [.p (.alloc 3 [(.sl true 2 []), (.sl true 24 []), (.sl true 17 []), (.sl true 8 [])]) .unit])
 (.seq (.reg none [.p (.fadr 4 (.t 1) 0) .unit,
  .p (.load 5 (.t 4) 1 false) .unit,
  .p (.callB 6 n_laws_toRingS [((.t 5), 0)]) .unit,
  .p (.fadr 7 (.t 3) 0) .unit,
  .p (.storeT (.t 7) 6 1) .unit])
 (.seq (.reg none [.p (.fadr 8 (.t 1) 1) .unit,
  .p (.load 9 (.t 8) 1 false) .unit,
  .p (.callB 10 n_laws_toDaemonS [((.t 9), 0)]) .unit,
  .p (.fadr 11 (.t 3) 1) .unit,
  .p (.storeT (.t 11) 10 1) .unit])
 (.seq (.reg none [.p (.fadr 12 (.t 1) 2) .unit,
  .p (.load 13 (.t 12) 1 false) .unit,
  .p (.callB 14 n_laws_toLetterS [((.t 13), 0)]) .unit,
  .p (.fadr 15 (.t 3) 2) .unit,
  .p (.storeT (.t 15) 14 1) .unit])
 (.seq (.reg none [.p (.fadr 16 (.t 1) 3) .unit,
  .p (.load 17 (.t 16) 1 false) .unit,
  .p (.callB 18 n_laws_toEventS [((.t 17), 0)]) .unit,
  .p (.fadr 19 (.t 3) 3) .unit,
  .p (.storeT (.t 19) 18 1) .unit])
 (.seq (.reg none [.p (.loadT 20 (.t 3) 4 true) .unit,
  .p (.storeT (.t 2) 20 4) .unit])
 .ret))))))),
 21, 1, [.c 2 4 true]⟩
theorem m_laws_toWorld : mH Tryz.prog 23 [(2, 4, .t), (3, 4, .t), (4, 4, .t), (5, 4, .t), (6, 0, .t), (6, 1, .t)] = some (F_laws_toWorld.code.x, F_laws_toWorld.N, F_laws_toWorld.np, F_laws_toWorld.res) := by kernel_rfl
noncomputable def T_laws_toWorld : List (Int × List (Int)) × List (Int × Bool × (Int × (Int × List (Int)) × List (Int × Int × Int × List UInt8) × List (Int) × List (List UInt8) × Int × Int × Int × Int × Int × Int × Int × Int × Int × List (Int)) × Int × Int × (Int × List (Int)) × List (Int × Int × Int × List (Int × Int × Int × List UInt8)) × List (Int × (Int × List (Int)) × (Int × Int × Int × List UInt8) × List (Int))) × List (Int × Int × Int × (Int × Int × Int × List UInt8) × (Int × Int × Int × Int × Int × List (Int)) × Int × Int × Int × List (Int × Int × Int × List UInt8)) × List (Int × (Int × List (Int)) × (Int × Int × Int × List UInt8) × List (Int)) → Option (List (Int × List (Int)) × List (Int × Bool × (Int × (Int × List (Int)) × List (Int × Int × Int × List UInt8) × List (Int) × List (List UInt8) × Int × Int × Int × Int × Int × Int × Int × Int × Int × List (Int)) × Int × Int × (Int × List (Int)) × List (Int × Int × Int × List (Int × Int × Int × List UInt8)) × List (Int × (Int × List (Int)) × (Int × Int × Int × List UInt8) × List (Int))) × List (Int × Int × Int × (Int × Int × Int × List UInt8) × (Int × Int × Int × Int × Int × List (Int)) × Int × Int × Int × List (Int × Int × Int × List UInt8)) × List (Int × (Int × List (Int)) × (Int × Int × Int × List UInt8) × List (Int))) := evF [fn_laws_toRingS, fn_laws_toDaemonS, fn_laws_toLetterS, fn_laws_toEventS] F_laws_toWorld [.agg (.pair (.sl false (.pair (.int .i64) (.sl false (.int .i64)))) (.pair (.sl false (.pair (.int .i64) (.pair .bool (.pair (.pair (.int .i64) (.pair (.pair (.int .i64) (.sl false (.int .i64))) (.pair (.sl false (.pair (.int .i64) (.pair (.int .i64) (.pair (.int .i64) .str)))) (.pair (.sl false (.int .i64)) (.pair (.sl false .str) (.pair (.int .i64) (.pair (.int .i64) (.pair (.int .i64) (.pair (.int .i64) (.pair (.int .i64) (.pair (.int .i64) (.pair (.int .i64) (.pair (.int .i64) (.pair (.int .i64) (.sl false (.int .i64)))))))))))))))) (.pair (.int .i64) (.pair (.int .i64) (.pair (.pair (.int .i64) (.sl false (.int .i64))) (.pair (.sl false (.pair (.int .i64) (.pair (.int .i64) (.pair (.int .i64) (.sl false (.pair (.int .i64) (.pair (.int .i64) (.pair (.int .i64) .str)))))))) (.sl false (.pair (.int .i64) (.pair (.pair (.int .i64) (.sl false (.int .i64))) (.pair (.pair (.int .i64) (.pair (.int .i64) (.pair (.int .i64) .str))) (.sl false (.int .i64)))))))))))))) (.pair (.sl false (.pair (.int .i64) (.pair (.int .i64) (.pair (.int .i64) (.pair (.pair (.int .i64) (.pair (.int .i64) (.pair (.int .i64) .str))) (.pair (.pair (.int .i64) (.pair (.int .i64) (.pair (.int .i64) (.pair (.int .i64) (.pair (.int .i64) (.sl false (.int .i64))))))) (.pair (.int .i64) (.pair (.int .i64) (.pair (.int .i64) (.sl false (.pair (.int .i64) (.pair (.int .i64) (.pair (.int .i64) .str))))))))))))) (.sl false (.pair (.int .i64) (.pair (.pair (.int .i64) (.sl false (.int .i64))) (.pair (.pair (.int .i64) (.pair (.int .i64) (.pair (.int .i64) .str))) (.sl false (.int .i64)))))))))] [] [.agg (.pair (.sl true (.pair (.int .i64) (.sl true (.int .i64)))) (.pair (.sl true (.pair (.int .i64) (.pair .bool (.pair (.pair (.int .i64) (.pair (.pair (.int .i64) (.sl true (.int .i64))) (.pair (.sl true (.pair (.int .i64) (.pair (.int .i64) (.pair (.int .i64) .str)))) (.pair (.sl true (.int .i64)) (.pair (.sl true .str) (.pair (.int .i64) (.pair (.int .i64) (.pair (.int .i64) (.pair (.int .i64) (.pair (.int .i64) (.pair (.int .i64) (.pair (.int .i64) (.pair (.int .i64) (.pair (.int .i64) (.sl true (.int .i64)))))))))))))))) (.pair (.int .i64) (.pair (.int .i64) (.pair (.pair (.int .i64) (.sl true (.int .i64))) (.pair (.sl true (.pair (.int .i64) (.pair (.int .i64) (.pair (.int .i64) (.sl true (.pair (.int .i64) (.pair (.int .i64) (.pair (.int .i64) .str)))))))) (.sl true (.pair (.int .i64) (.pair (.pair (.int .i64) (.sl true (.int .i64))) (.pair (.pair (.int .i64) (.pair (.int .i64) (.pair (.int .i64) .str))) (.sl true (.int .i64)))))))))))))) (.pair (.sl true (.pair (.int .i64) (.pair (.int .i64) (.pair (.int .i64) (.pair (.pair (.int .i64) (.pair (.int .i64) (.pair (.int .i64) .str))) (.pair (.pair (.int .i64) (.pair (.int .i64) (.pair (.int .i64) (.pair (.int .i64) (.pair (.int .i64) (.sl true (.int .i64))))))) (.pair (.int .i64) (.pair (.int .i64) (.pair (.int .i64) (.sl true (.pair (.int .i64) (.pair (.int .i64) (.pair (.int .i64) .str))))))))))))) (.sl true (.pair (.int .i64) (.pair (.pair (.int .i64) (.sl true (.int .i64))) (.pair (.pair (.int .i64) (.pair (.int .i64) (.pair (.int .i64) .str))) (.sl true (.int .i64)))))))))] []
noncomputable def fn_laws_toWorld : TFn := ⟨23, [.agg (.pair (.sl false (.pair (.int .i64) (.sl false (.int .i64)))) (.pair (.sl false (.pair (.int .i64) (.pair .bool (.pair (.pair (.int .i64) (.pair (.pair (.int .i64) (.sl false (.int .i64))) (.pair (.sl false (.pair (.int .i64) (.pair (.int .i64) (.pair (.int .i64) .str)))) (.pair (.sl false (.int .i64)) (.pair (.sl false .str) (.pair (.int .i64) (.pair (.int .i64) (.pair (.int .i64) (.pair (.int .i64) (.pair (.int .i64) (.pair (.int .i64) (.pair (.int .i64) (.pair (.int .i64) (.pair (.int .i64) (.sl false (.int .i64)))))))))))))))) (.pair (.int .i64) (.pair (.int .i64) (.pair (.pair (.int .i64) (.sl false (.int .i64))) (.pair (.sl false (.pair (.int .i64) (.pair (.int .i64) (.pair (.int .i64) (.sl false (.pair (.int .i64) (.pair (.int .i64) (.pair (.int .i64) .str)))))))) (.sl false (.pair (.int .i64) (.pair (.pair (.int .i64) (.sl false (.int .i64))) (.pair (.pair (.int .i64) (.pair (.int .i64) (.pair (.int .i64) .str))) (.sl false (.int .i64)))))))))))))) (.pair (.sl false (.pair (.int .i64) (.pair (.int .i64) (.pair (.int .i64) (.pair (.pair (.int .i64) (.pair (.int .i64) (.pair (.int .i64) .str))) (.pair (.pair (.int .i64) (.pair (.int .i64) (.pair (.int .i64) (.pair (.int .i64) (.pair (.int .i64) (.sl false (.int .i64))))))) (.pair (.int .i64) (.pair (.int .i64) (.pair (.int .i64) (.sl false (.pair (.int .i64) (.pair (.int .i64) (.pair (.int .i64) .str))))))))))))) (.sl false (.pair (.int .i64) (.pair (.pair (.int .i64) (.sl false (.int .i64))) (.pair (.pair (.int .i64) (.pair (.int .i64) (.pair (.int .i64) .str))) (.sl false (.int .i64)))))))))], [], [.agg (.pair (.sl true (.pair (.int .i64) (.sl true (.int .i64)))) (.pair (.sl true (.pair (.int .i64) (.pair .bool (.pair (.pair (.int .i64) (.pair (.pair (.int .i64) (.sl true (.int .i64))) (.pair (.sl true (.pair (.int .i64) (.pair (.int .i64) (.pair (.int .i64) .str)))) (.pair (.sl true (.int .i64)) (.pair (.sl true .str) (.pair (.int .i64) (.pair (.int .i64) (.pair (.int .i64) (.pair (.int .i64) (.pair (.int .i64) (.pair (.int .i64) (.pair (.int .i64) (.pair (.int .i64) (.pair (.int .i64) (.sl true (.int .i64)))))))))))))))) (.pair (.int .i64) (.pair (.int .i64) (.pair (.pair (.int .i64) (.sl true (.int .i64))) (.pair (.sl true (.pair (.int .i64) (.pair (.int .i64) (.pair (.int .i64) (.sl true (.pair (.int .i64) (.pair (.int .i64) (.pair (.int .i64) .str)))))))) (.sl true (.pair (.int .i64) (.pair (.pair (.int .i64) (.sl true (.int .i64))) (.pair (.pair (.int .i64) (.pair (.int .i64) (.pair (.int .i64) .str))) (.sl true (.int .i64)))))))))))))) (.pair (.sl true (.pair (.int .i64) (.pair (.int .i64) (.pair (.int .i64) (.pair (.pair (.int .i64) (.pair (.int .i64) (.pair (.int .i64) .str))) (.pair (.pair (.int .i64) (.pair (.int .i64) (.pair (.int .i64) (.pair (.int .i64) (.pair (.int .i64) (.sl true (.int .i64))))))) (.pair (.int .i64) (.pair (.int .i64) (.pair (.int .i64) (.sl true (.pair (.int .i64) (.pair (.int .i64) (.pair (.int .i64) .str))))))))))))) (.sl true (.pair (.int .i64) (.pair (.pair (.int .i64) (.sl true (.int .i64))) (.pair (.pair (.int .i64) (.pair (.int .i64) (.pair (.int .i64) .str))) (.sl true (.int .i64)))))))))], [], T_laws_toWorld⟩
theorem ok_laws_toWorld : FnOk Tryz.prog fn_laws_toWorld := evF_ok mixed (allOk_cons ok_laws_toRingS (allOk_cons ok_laws_toDaemonS (allOk_cons ok_laws_toLetterS (allOk_cons ok_laws_toEventS allOk_nil)))) m_laws_toWorld (by decide)
def F_laws_toReader : TF := ⟨(.seq (.reg none [.p (.box 1 (.t 0)) .unit,
  .p (.alloc 2 [(.lit (.string (ba []))), (.lit (.bool false))]) .unit])
 (.seq (.reg none [.p (.alloc 3 [(.lit (.string (ba []))), (.lit (.bool false))]) .unit])
 (.seq (.reg none [.p (.fadr 4 (.t 1) 0) .unit,
  .p (.load 5 (.t 4) 1 false) .unit,
  .p (.fadr 6 (.t 3) 0) .unit,
  .p (.store (.t 6) (.t 5) 1) .unit])
 (.seq (.reg none [.p (.fadr 7 (.t 1) 1) .unit,
  .p (.load 8 (.t 7) 1 false) .unit,
  .p (.fadr 9 (.t 3) 1) .unit,
  .p (.store (.t 9) (.t 8) 1) .unit])
 (.seq (.reg none [.p (.load 10 (.t 3) 2 true) .unit,
  .p (.store (.t 2) (.t 10) 2) .unit])
 .ret))))),
 11, 1, [.c 2 2 true]⟩
theorem m_laws_toReader : mH Tryz.prog 108 [] = some (F_laws_toReader.code.x, F_laws_toReader.N, F_laws_toReader.np, F_laws_toReader.res) := by kernel_rfl
noncomputable def T_laws_toReader : List UInt8 × Bool → Option (List UInt8 × Bool) := evF [] F_laws_toReader [.agg (.pair .str .bool)] [] [.agg (.pair .str .bool)] []
noncomputable def fn_laws_toReader : TFn := ⟨108, [.agg (.pair .str .bool)], [], [.agg (.pair .str .bool)], [], T_laws_toReader⟩
theorem ok_laws_toReader : FnOk Tryz.prog fn_laws_toReader := evF_ok mixed allOk_nil m_laws_toReader (by decide)
def F_laws_toSession : TF := ⟨(.seq (.reg none [.p (.box 1 (.t 0)) .unit,
  .p (.alloc 2 [(.lit (.int .i64 0)), (.lit (.string (ba []))), (.lit (.string (ba []))), (.lit (.bool false)), (.lit (.bool false)), (.sl true 1 [])]) .unit])
 (.seq (.reg none [.p (.alloc 3 [(.lit (.int .i64 0)), (.lit (.string (ba []))), (.lit (.string (ba []))), (.lit (.bool false)), (.lit (.bool false)), (.sl true 1 [])]) .unit])
 (.seq (.reg none [.p (.fadr 4 (.t 1) 0) .unit,
  .p (.load 5 (.t 4) 1 false) .unit,
  .p (.fadr 6 (.t 3) 0) .unit,
  .p (.store (.t 6) (.t 5) 1) .unit])
 (.seq (.reg none [.p (.fadr 7 (.t 1) 1) .unit,
  .p (.load 8 (.t 7) 1 false) .unit,
  .p (.fadr 9 (.t 3) 1) .unit,
  .p (.store (.t 9) (.t 8) 1) .unit])
 (.seq (.reg none [.p (.fadr 10 (.t 1) 2) .unit,
  .p (.load 11 (.t 10) 2 true) .unit,
  .p (.callB 12 n_laws_toReader [((.t 11), 0)]) .unit,
  .p (.fadr 13 (.t 3) 2) .unit,
  .p (.store (.t 13) (.t 12) 2) .unit])
 (.seq (.reg none [.p (.fadr 14 (.t 1) 4) .unit,
  .p (.load 15 (.t 14) 1 false) .unit,
  .p (.fadr 16 (.t 3) 4) .unit,
  .p (.store (.t 16) (.t 15) 1) .unit])
 (.seq (.reg none [.p (.fadr 17 (.t 1) 5) .unit,
  .p (.load 18 (.t 17) 1 false) .unit,
  .p (.callB 19 n_laws_toStringS [((.t 18), 0)]) .unit,
  .p (.fadr 20 (.t 3) 5) .unit,
  .p (.storeT (.t 20) 19 1) .unit])
 (.seq (.reg none [.p (.loadT 21 (.t 3) 6 true) .unit,
  .p (.storeT (.t 2) 21 6) .unit])
 .ret)))))))),
 22, 1, [.c 2 6 true]⟩
theorem m_laws_toSession : mH Tryz.prog 82 [(6, 4, .t), (7, 0, .t), (7, 1, .t)] = some (F_laws_toSession.code.x, F_laws_toSession.N, F_laws_toSession.np, F_laws_toSession.res) := by kernel_rfl
noncomputable def T_laws_toSession : Int × List UInt8 × (List UInt8 × Bool) × Bool × List (List UInt8) → Option (Int × List UInt8 × (List UInt8 × Bool) × Bool × List (List UInt8)) := evF [fn_laws_toReader, fn_laws_toStringS] F_laws_toSession [.agg (.pair (.int .i64) (.pair .str (.pair (.pair .str .bool) (.pair .bool (.sl false .str)))))] [] [.agg (.pair (.int .i64) (.pair .str (.pair (.pair .str .bool) (.pair .bool (.sl true .str)))))] []
noncomputable def fn_laws_toSession : TFn := ⟨82, [.agg (.pair (.int .i64) (.pair .str (.pair (.pair .str .bool) (.pair .bool (.sl false .str)))))], [], [.agg (.pair (.int .i64) (.pair .str (.pair (.pair .str .bool) (.pair .bool (.sl true .str)))))], [], T_laws_toSession⟩
theorem ok_laws_toSession : FnOk Tryz.prog fn_laws_toSession := evF_ok mixed (allOk_cons ok_laws_toReader (allOk_cons ok_laws_toStringS allOk_nil)) m_laws_toSession (by decide)
def F_laws_toBox : TF := ⟨(.seq (.reg none [.p (.box 1 (.t 0)) .unit,
  .p (.alloc 2 [(.lit (.string (ba []))), (.sl true 1 []), (.lit (.bool false))]) .unit])
 (.seq (.reg none [.p (.alloc 3 [(.lit (.string (ba []))), (.sl true 1 []), (.lit (.bool false))]) .unit])
 (.seq (.reg none [.p (.fadr 4 (.t 1) 0) .unit,
  .p (.load 5 (.t 4) 1 false) .unit,
  .p (.fadr 6 (.t 3) 0) .unit,
  .p (.store (.t 6) (.t 5) 1) .unit])
 (.seq (.reg none [.p (.fadr 7 (.t 1) 1) .unit,
  .p (.load 8 (.t 7) 1 false) .unit,
  .p (.callB 9 n_laws_toStringS [((.t 8), 0)]) .unit,
  .p (.fadr 10 (.t 3) 1) .unit,
  .p (.storeT (.t 10) 9 1) .unit])
 (.seq (.reg none [.p (.fadr 11 (.t 1) 2) .unit,
  .p (.load 12 (.t 11) 1 false) .unit,
  .p (.fadr 13 (.t 3) 2) .unit,
  .p (.store (.t 13) (.t 12) 1) .unit])
 (.seq (.reg none [.p (.loadT 14 (.t 3) 3 true) .unit,
  .p (.storeT (.t 2) 14 3) .unit])
 .ret)))))),
 15, 1, [.c 2 3 true]⟩
theorem m_laws_toBox : mH Tryz.prog 83 [(3, 4, .t), (5, 0, .t), (5, 1, .t)] = some (F_laws_toBox.code.x, F_laws_toBox.N, F_laws_toBox.np, F_laws_toBox.res) := by kernel_rfl
noncomputable def T_laws_toBox : List UInt8 × List (List UInt8) × Bool → Option (List UInt8 × List (List UInt8) × Bool) := evF [fn_laws_toStringS] F_laws_toBox [.agg (.pair .str (.pair (.sl false .str) .bool))] [] [.agg (.pair .str (.pair (.sl true .str) .bool))] []
noncomputable def fn_laws_toBox : TFn := ⟨83, [.agg (.pair .str (.pair (.sl false .str) .bool))], [], [.agg (.pair .str (.pair (.sl true .str) .bool))], [], T_laws_toBox⟩
theorem ok_laws_toBox : FnOk Tryz.prog fn_laws_toBox := evF_ok mixed (allOk_cons ok_laws_toStringS allOk_nil) m_laws_toBox (by decide)
def F_laws_toCaller : TF := ⟨(.seq (.reg none [.p (.box 1 (.t 0)) .unit,
  .p (.alloc 2 [(.lit (.int .i64 0)), (.lit (.string (ba []))), (.lit (.string (ba []))), (.lit (.bool false)), (.lit (.bool false)), (.sl true 1 []), (.lit (.string (ba []))), (.sl true 1 []), (.lit (.bool false)), (.lit (.string (ba []))), (.sl true 1 [])]) .unit])
 (.seq (.reg none [.p (.alloc 3 [(.lit (.int .i64 0)), (.lit (.string (ba []))), (.lit (.string (ba []))), (.lit (.bool false)), (.lit (.bool false)), (.sl true 1 []), (.lit (.string (ba []))), (.sl true 1 []), (.lit (.bool false)), (.lit (.string (ba []))), (.sl true 1 [])]) .unit])
 (.seq (.reg none [.p (.fadr 4 (.t 1) 0) .unit,
  .p (.load 5 (.t 4) 6 true) .unit,
  .p (.callB 6 n_laws_toSession [((.t 5), 0)]) .unit,
  .p (.fadr 7 (.t 3) 0) .unit,
  .p (.storeT (.t 7) 6 6) .unit])
 (.seq (.reg none [.p (.fadr 8 (.t 1) 6) .unit,
  .p (.load 9 (.t 8) 3 true) .unit,
  .p (.callB 10 n_laws_toBox [((.t 9), 0)]) .unit,
  .p (.fadr 11 (.t 3) 6) .unit,
  .p (.storeT (.t 11) 10 3) .unit])
 (.seq (.reg none [.p (.fadr 12 (.t 1) 9) .unit,
  .p (.load 13 (.t 12) 1 false) .unit,
  .p (.fadr 14 (.t 3) 9) .unit,
  .p (.store (.t 14) (.t 13) 1) .unit])
 (.seq (.reg none [.p (.fadr 15 (.t 1) 10) .unit,
  .p (.load 16 (.t 15) 1 false) .unit,
  .p (.callB 17 n_laws_toStringS [((.t 16), 0)]) .unit,
  .p (.fadr 18 (.t 3) 10) .unit,
  .p (.storeT (.t 18) 17 1) .unit])
 (.seq (.reg none [.p (.loadT 19 (.t 3) 11 true) .unit,
  .p (.storeT (.t 2) 19 11) .unit])
 .ret))))))),
 20, 1, [.c 2 11 true]⟩
theorem m_laws_toCaller : mH Tryz.prog 54 [(2, 4, .t), (3, 4, .t), (5, 4, .t), (6, 0, .t), (6, 1, .t)] = some (F_laws_toCaller.code.x, F_laws_toCaller.N, F_laws_toCaller.np, F_laws_toCaller.res) := by kernel_rfl
noncomputable def T_laws_toCaller : (Int × List UInt8 × (List UInt8 × Bool) × Bool × List (List UInt8)) × (List UInt8 × List (List UInt8) × Bool) × List UInt8 × List (List UInt8) → Option ((Int × List UInt8 × (List UInt8 × Bool) × Bool × List (List UInt8)) × (List UInt8 × List (List UInt8) × Bool) × List UInt8 × List (List UInt8)) := evF [fn_laws_toSession, fn_laws_toBox, fn_laws_toStringS] F_laws_toCaller [.agg (.pair (.pair (.int .i64) (.pair .str (.pair (.pair .str .bool) (.pair .bool (.sl false .str))))) (.pair (.pair .str (.pair (.sl false .str) .bool)) (.pair .str (.sl false .str))))] [] [.agg (.pair (.pair (.int .i64) (.pair .str (.pair (.pair .str .bool) (.pair .bool (.sl true .str))))) (.pair (.pair .str (.pair (.sl true .str) .bool)) (.pair .str (.sl true .str))))] []
noncomputable def fn_laws_toCaller : TFn := ⟨54, [.agg (.pair (.pair (.int .i64) (.pair .str (.pair (.pair .str .bool) (.pair .bool (.sl false .str))))) (.pair (.pair .str (.pair (.sl false .str) .bool)) (.pair .str (.sl false .str))))], [], [.agg (.pair (.pair (.int .i64) (.pair .str (.pair (.pair .str .bool) (.pair .bool (.sl true .str))))) (.pair (.pair .str (.pair (.sl true .str) .bool)) (.pair .str (.sl true .str))))], [], T_laws_toCaller⟩
theorem ok_laws_toCaller : FnOk Tryz.prog fn_laws_toCaller := evF_ok mixed (allOk_cons ok_laws_toSession (allOk_cons ok_laws_toBox (allOk_cons ok_laws_toStringS allOk_nil))) m_laws_toCaller (by decide)
def B_laws_toCallerS_1 : TC := (.seq (.seq (.reg none [.p (.mv 8 (.t 4)) .unit,
  .p (.mv 9 (.t 0)) .unit,
  .p (.lenB 10 (.t 9)) .unit,
  .p (.bin 11 false .lss (.t 8) (.t 10)) .unit])
 (.cond (.t 11) .skip (.exit 0)))
 (.seq (.block 1 (.reg none [.p (.mvA 14 3) .unit,
  .p (.mv 15 (.t 4)) .unit,
  .p (.mv 16 (.t 0)) .unit,
  .p (.mv 17 (.t 4)) .unit,
  .p (.iadr 18 11 (.t 16) (.t 17)) .unit,
  .p (.load 19 (.t 18) 11 true) .unit,
  .p (.callB 20 n_laws_toCaller [((.t 19), 0)]) .unit,
  .p (.iadr 21 11 (.t 14) (.t 15)) .unit,
  .p (.storeT (.t 21) 20 11) .unit]))
 (.reg none [.p (.mv 12 (.t 4)) .unit,
  .p (.bin 13 false .add (.t 12) (.c (.int .i64 1))) .unit,
  .p (.mv 4 (.t 13)) .unit])))
noncomputable def L_laws_toCallerS_1 : Nat → (List ((Int × List UInt8 × (List UInt8 × Bool) × Bool × List (List UInt8)) × (List UInt8 × List (List UInt8) × Bool) × List UInt8 × List (List UInt8))) × (List ((Int × List UInt8 × (List UInt8 × Bool) × Bool × List (List UInt8)) × (List UInt8 × List (List UInt8) × Bool) × List UInt8 × List (List UInt8))) × Int → Option ((List ((Int × List UInt8 × (List UInt8 × Bool) × Bool × List (List UInt8)) × (List UInt8 × List (List UInt8) × Bool) × List UInt8 × List (List UInt8))) ⊕ (List ((Int × List UInt8 × (List UInt8 × Bool) × Bool × List (List UInt8)) × (List UInt8 × List (List UInt8) × Bool) × List UInt8 × List (List UInt8)))) := evL [fn_laws_toCaller] (finT [.t 2] [] [.cell (.sl true (.pair (.pair (.int .i64) (.pair .str (.pair (.pair .str .bool) (.pair .bool (.sl true .str))))) (.pair (.pair .str (.pair (.sl true .str) .bool)) (.pair .str (.sl true .str)))))]) 0 ⟨[(0, true), (3, false), (4, false)], [.cell (.sl false (.pair (.pair (.int .i64) (.pair .str (.pair (.pair .str .bool) (.pair .bool (.sl false .str))))) (.pair (.pair .str (.pair (.sl false .str) .bool)) (.pair .str (.sl false .str))))), .cell (.sl true (.pair (.pair (.int .i64) (.pair .str (.pair (.pair .str .bool) (.pair .bool (.sl true .str))))) (.pair (.pair .str (.pair (.sl true .str) .bool)) (.pair .str (.sl true .str))))), .cell (.int .i64)]⟩ ⟨[(3, false)], [.cell (.sl true (.pair (.pair (.int .i64) (.pair .str (.pair (.pair .str .bool) (.pair .bool (.sl true .str))))) (.pair (.pair .str (.pair (.sl true .str) .bool)) (.pair .str (.sl true .str)))))]⟩ B_laws_toCallerS_1
def F_laws_toCallerS : TF := ⟨(.seq (.reg none [.p (.mvN 2 11) .unit])
 (.seq (.reg none [.p (.mv 5 (.t 0)) .unit,
  .p (.lenB 6 (.t 5)) .unit,
  .p (.mkS 7 168 [(.lit (.int .i64 0)), (.lit (.string (ba []))), (.lit (.string (ba []))), (.lit (.bool false)), (.lit (.bool false)), (.sl true 1 []), (.lit (.string (ba []))), (.sl true 1 []), (.lit (.bool false)), (.lit (.string (ba []))), (.sl true 1 [])] (.t 6) (.t 6)) (.pair (.pair (.int .i64) (.pair .str (.pair (.pair .str .bool) (.pair .bool (.sl true .str))))) (.pair (.pair .str (.pair (.sl true .str) .bool)) (.pair .str (.sl true .str)))),
  .p (.mvT 3 7) .unit])
 (.seq (.seq (.reg none [.p (.mv 4 (.c (.int .i64 0))) .unit])
 (.jl 0 ⟨[(0, true), (3, false), (4, false)], [.cell (.sl false (.pair (.pair (.int .i64) (.pair .str (.pair (.pair .str .bool) (.pair .bool (.sl false .str))))) (.pair (.pair .str (.pair (.sl false .str) .bool)) (.pair .str (.sl false .str))))), .cell (.sl true (.pair (.pair (.int .i64) (.pair .str (.pair (.pair .str .bool) (.pair .bool (.sl true .str))))) (.pair (.pair .str (.pair (.sl true .str) .bool)) (.pair .str (.sl true .str))))), .cell (.int .i64)]⟩ ⟨[(3, false)], [.cell (.sl true (.pair (.pair (.int .i64) (.pair .str (.pair (.pair .str .bool) (.pair .bool (.sl true .str))))) (.pair (.pair .str (.pair (.sl true .str) .bool)) (.pair .str (.sl true .str)))))]⟩ B_laws_toCallerS_1))
 (.seq (.reg none [.p (.mvT 22 3) .unit,
  .p (.mvT 2 22) .unit])
 .ret)))),
 23, 1, [.t 2]⟩
theorem m_laws_toCallerS : mH Tryz.prog 24 [(1, 3, .t), (5, 0, .v), (5, 8, .t), (6, 0, .t), (6, 1, .t)] = some (F_laws_toCallerS.code.x, F_laws_toCallerS.N, F_laws_toCallerS.np, F_laws_toCallerS.res) := by kernel_rfl
noncomputable def T_laws_toCallerS : List ((Int × List UInt8 × (List UInt8 × Bool) × Bool × List (List UInt8)) × (List UInt8 × List (List UInt8) × Bool) × List UInt8 × List (List UInt8)) → Option (List ((Int × List UInt8 × (List UInt8 × Bool) × Bool × List (List UInt8)) × (List UInt8 × List (List UInt8) × Bool) × List UInt8 × List (List UInt8))) := evF [fn_laws_toCaller] F_laws_toCallerS [.cell (.sl false (.pair (.pair (.int .i64) (.pair .str (.pair (.pair .str .bool) (.pair .bool (.sl false .str))))) (.pair (.pair .str (.pair (.sl false .str) .bool)) (.pair .str (.sl false .str)))))] [] [.cell (.sl true (.pair (.pair (.int .i64) (.pair .str (.pair (.pair .str .bool) (.pair .bool (.sl true .str))))) (.pair (.pair .str (.pair (.sl true .str) .bool)) (.pair .str (.sl true .str)))))] []
noncomputable def fn_laws_toCallerS : TFn := ⟨24, [.cell (.sl false (.pair (.pair (.int .i64) (.pair .str (.pair (.pair .str .bool) (.pair .bool (.sl false .str))))) (.pair (.pair .str (.pair (.sl false .str) .bool)) (.pair .str (.sl false .str)))))], [], [.cell (.sl true (.pair (.pair (.int .i64) (.pair .str (.pair (.pair .str .bool) (.pair .bool (.sl true .str))))) (.pair (.pair .str (.pair (.sl true .str) .bool)) (.pair .str (.sl true .str)))))], [], T_laws_toCallerS⟩
theorem ok_laws_toCallerS : FnOk Tryz.prog fn_laws_toCallerS := evF_ok mixed (allOk_cons ok_laws_toCaller allOk_nil) m_laws_toCallerS (by decide)
def F_laws_toGroup : TF := ⟨(.seq (.reg none [.p (.box 1 (.t 0)) .unit,
  .p (.alloc 2 [(.lit (.string (ba []))), (.sl true 1 [])]) .unit])
 (.seq (.reg none [.p (.alloc 3 [(.lit (.string (ba []))), (.sl true 1 [])]) .unit])
 (.seq (.reg none [.p (.fadr 4 (.t 1) 0) .unit,
  .p (.load 5 (.t 4) 1 false) .unit,
  .p (.fadr 6 (.t 3) 0) .unit,
  .p (.store (.t 6) (.t 5) 1) .unit])
 (.seq (.reg none [.p (.fadr 7 (.t 1) 1) .unit,
  .p (.load 8 (.t 7) 1 false) .unit,
  .p (.callB 9 n_laws_toStringS [((.t 8), 0)]) .unit,
  .p (.fadr 10 (.t 3) 1) .unit,
  .p (.storeT (.t 10) 9 1) .unit])
 (.seq (.reg none [.p (.loadT 11 (.t 3) 2 true) .unit,
  .p (.storeT (.t 2) 11 2) .unit])
 .ret))))),
 12, 1, [.c 2 2 true]⟩
theorem m_laws_toGroup : mH Tryz.prog 109 [(3, 4, .t), (4, 0, .t), (4, 1, .t)] = some (F_laws_toGroup.code.x, F_laws_toGroup.N, F_laws_toGroup.np, F_laws_toGroup.res) := by kernel_rfl
noncomputable def T_laws_toGroup : List UInt8 × List (List UInt8) → Option (List UInt8 × List (List UInt8)) := evF [fn_laws_toStringS] F_laws_toGroup [.agg (.pair .str (.sl false .str))] [] [.agg (.pair .str (.sl true .str))] []
noncomputable def fn_laws_toGroup : TFn := ⟨109, [.agg (.pair .str (.sl false .str))], [], [.agg (.pair .str (.sl true .str))], [], T_laws_toGroup⟩
theorem ok_laws_toGroup : FnOk Tryz.prog fn_laws_toGroup := evF_ok mixed (allOk_cons ok_laws_toStringS allOk_nil) m_laws_toGroup (by decide)
def B_laws_toGroupS_1 : TC := (.seq (.seq (.reg none [.p (.mv 8 (.t 4)) .unit,
  .p (.mv 9 (.t 0)) .unit,
  .p (.lenB 10 (.t 9)) .unit,
  .p (.bin 11 false .lss (.t 8) (.t 10)) .unit])
 (.cond (.t 11) .skip (.exit 0)))
 (.seq (.block 1 (.reg none [.p (.mvA 14 3) .unit,
  .p (.mv 15 (.t 4)) .unit,
  .p (.mv 16 (.t 0)) .unit,
  .p (.mv 17 (.t 4)) .unit,
  .p (.iadr 18 2 (.t 16) (.t 17)) .unit,
  .p (.load 19 (.t 18) 2 true) .unit,
  .p (.callB 20 n_laws_toGroup [((.t 19), 0)]) .unit,
  .p (.iadr 21 2 (.t 14) (.t 15)) .unit,
  .p (.storeT (.t 21) 20 2) .unit]))
 (.reg none [.p (.mv 12 (.t 4)) .unit,
  .p (.bin 13 false .add (.t 12) (.c (.int .i64 1))) .unit,
  .p (.mv 4 (.t 13)) .unit])))
noncomputable def L_laws_toGroupS_1 : Nat → (List (List UInt8 × List (List UInt8))) × (List (List UInt8 × List (List UInt8))) × Int → Option ((List (List UInt8 × List (List UInt8))) ⊕ (List (List UInt8 × List (List UInt8)))) := evL [fn_laws_toGroup] (finT [.t 2] [] [.cell (.sl true (.pair .str (.sl true .str)))]) 0 ⟨[(0, true), (3, false), (4, false)], [.cell (.sl false (.pair .str (.sl false .str))), .cell (.sl true (.pair .str (.sl true .str))), .cell (.int .i64)]⟩ ⟨[(3, false)], [.cell (.sl true (.pair .str (.sl true .str)))]⟩ B_laws_toGroupS_1
def F_laws_toGroupS : TF := ⟨(.seq (.reg none [.p (.mvN 2 2) .unit])
 (.seq (.reg none [.p (.mv 5 (.t 0)) .unit,
  .p (.lenB 6 (.t 5)) .unit,
  .p (.mkS 7 40 [(.lit (.string (ba []))), (.sl true 1 [])] (.t 6) (.t 6)) (.pair .str (.sl true .str)),
  .p (.mvT 3 7) .unit])
 (.seq (.seq (.reg none [.p (.mv 4 (.c (.int .i64 0))) .unit])
 (.jl 0 ⟨[(0, true), (3, false), (4, false)], [.cell (.sl false (.pair .str (.sl false .str))), .cell (.sl true (.pair .str (.sl true .str))), .cell (.int .i64)]⟩ ⟨[(3, false)], [.cell (.sl true (.pair .str (.sl true .str)))]⟩ B_laws_toGroupS_1))
 (.seq (.reg none [.p (.mvT 22 3) .unit,
  .p (.mvT 2 22) .unit])
 .ret)))),
 23, 1, [.t 2]⟩
theorem m_laws_toGroupS : mH Tryz.prog 85 [(1, 3, .t), (5, 0, .v), (5, 8, .t), (6, 0, .t), (6, 1, .t)] = some (F_laws_toGroupS.code.x, F_laws_toGroupS.N, F_laws_toGroupS.np, F_laws_toGroupS.res) := by kernel_rfl
noncomputable def T_laws_toGroupS : List (List UInt8 × List (List UInt8)) → Option (List (List UInt8 × List (List UInt8))) := evF [fn_laws_toGroup] F_laws_toGroupS [.cell (.sl false (.pair .str (.sl false .str)))] [] [.cell (.sl true (.pair .str (.sl true .str)))] []
noncomputable def fn_laws_toGroupS : TFn := ⟨85, [.cell (.sl false (.pair .str (.sl false .str)))], [], [.cell (.sl true (.pair .str (.sl true .str)))], [], T_laws_toGroupS⟩
theorem ok_laws_toGroupS : FnOk Tryz.prog fn_laws_toGroupS := evF_ok mixed (allOk_cons ok_laws_toGroup allOk_nil) m_laws_toGroupS (by decide)
def F_laws_toTable : TF := ⟨(.seq (.reg none [.p (.box 1 (.t 0)) .unit,
  .p (.alloc 2 [(.sl true 2 [])]) .unit])
 (.seq (.reg none [.p (.alloc 3 [(.sl true 2 [])]) .unit])
 (.seq (.reg none [.p (.fadr 4 (.t 1) 0) .unit,
  .p (.load 5 (.t 4) 1 false) .unit,
  .p (.callB 6 n_laws_toGroupS [((.t 5), 0)]) .unit,
  .p (.fadr 7 (.t 3) 0) .unit,
  .p (.storeT (.t 7) 6 1) .unit])
 (.seq (.reg none [.p (.loadT 8 (.t 3) 1 true) .unit,
  .p (.storeT (.t 2) 8 1) .unit])
 .ret)))),
 9, 1, [.c 2 1 true]⟩
theorem m_laws_toTable : mH Tryz.prog 55 [(2, 4, .t), (3, 0, .t), (3, 1, .t)] = some (F_laws_toTable.code.x, F_laws_toTable.N, F_laws_toTable.np, F_laws_toTable.res) := by kernel_rfl
noncomputable def T_laws_toTable : List (List UInt8 × List (List UInt8)) → Option (List (List UInt8 × List (List UInt8))) := evF [fn_laws_toGroupS] F_laws_toTable [.agg (.sl false (.pair .str (.sl false .str)))] [] [.agg (.sl true (.pair .str (.sl true .str)))] []
noncomputable def fn_laws_toTable : TFn := ⟨55, [.agg (.sl false (.pair .str (.sl false .str)))], [], [.agg (.sl true (.pair .str (.sl true .str)))], [], T_laws_toTable⟩
theorem ok_laws_toTable : FnOk Tryz.prog fn_laws_toTable := evF_ok mixed (allOk_cons ok_laws_toGroupS allOk_nil) m_laws_toTable (by decide)
def B_laws_toTableS_1 : TC := (.seq (.seq (.reg none [.p (.mv 8 (.t 4)) .unit,
  .p (.mv 9 (.t 0)) .unit,
  .p (.lenB 10 (.t 9)) .unit,
  .p (.bin 11 false .lss (.t 8) (.t 10)) .unit])
 (.cond (.t 11) .skip (.exit 0)))
 (.seq (.block 1 (.reg none [.p (.mvA 14 3) .unit,
  .p (.mv 15 (.t 4)) .unit,
  .p (.mv 16 (.t 0)) .unit,
  .p (.mv 17 (.t 4)) .unit,
  .p (.iadr 18 1 (.t 16) (.t 17)) .unit,
  .p (.load 19 (.t 18) 1 true) .unit,
  .p (.callB 20 n_laws_toTable [((.t 19), 0)]) .unit,
  .p (.iadr 21 1 (.t 14) (.t 15)) .unit,
  .p (.storeT (.t 21) 20 1) .unit]))
 (.reg none [.p (.mv 12 (.t 4)) .unit,
  .p (.bin 13 false .add (.t 12) (.c (.int .i64 1))) .unit,
  .p (.mv 4 (.t 13)) .unit])))
noncomputable def L_laws_toTableS_1 : Nat → (List (List (List UInt8 × List (List UInt8)))) × (List (List (List UInt8 × List (List UInt8)))) × Int → Option ((List (List (List UInt8 × List (List UInt8)))) ⊕ (List (List (List UInt8 × List (List UInt8))))) := evL [fn_laws_toTable] (finT [.t 2] [] [.cell (.sl true (.sl true (.pair .str (.sl true .str))))]) 0 ⟨[(0, true), (3, false), (4, false)], [.cell (.sl false (.sl false (.pair .str (.sl false .str)))), .cell (.sl true (.sl true (.pair .str (.sl true .str)))), .cell (.int .i64)]⟩ ⟨[(3, false)], [.cell (.sl true (.sl true (.pair .str (.sl true .str))))]⟩ B_laws_toTableS_1
def F_laws_toTableS : TF := ⟨(.seq (.reg none [.p (.mvN 2 1) .unit])
 (.seq (.reg none [.p (.mv 5 (.t 0)) .unit,
  .p (.lenB 6 (.t 5)) .unit,
  .p (.mkS 7 24 [(.sl true 2 [])] (.t 6) (.t 6)) (.sl true (.pair .str (.sl true .str))),
  .p (.mvT 3 7) .unit])
 (.seq (.seq (.reg none [.p (.mv 4 (.c (.int .i64 0))) .unit])
 (.jl 0 ⟨[(0, true), (3, false), (4, false)], [.cell (.sl false (.sl false (.pair .str (.sl false .str)))), .cell (.sl true (.sl true (.pair .str (.sl true .str)))), .cell (.int .i64)]⟩ ⟨[(3, false)], [.cell (.sl true (.sl true (.pair .str (.sl true .str))))]⟩ B_laws_toTableS_1))
 (.seq (.reg none [.p (.mvT 22 3) .unit,
  .p (.mvT 2 22) .unit])
 .ret)))),
 23, 1, [.t 2]⟩
theorem m_laws_toTableS : mH Tryz.prog 25 [(1, 3, .t), (5, 0, .v), (5, 8, .t), (6, 0, .t), (6, 1, .t)] = some (F_laws_toTableS.code.x, F_laws_toTableS.N, F_laws_toTableS.np, F_laws_toTableS.res) := by kernel_rfl
noncomputable def T_laws_toTableS : List (List (List UInt8 × List (List UInt8))) → Option (List (List (List UInt8 × List (List UInt8)))) := evF [fn_laws_toTable] F_laws_toTableS [.cell (.sl false (.sl false (.pair .str (.sl false .str))))] [] [.cell (.sl true (.sl true (.pair .str (.sl true .str))))] []
noncomputable def fn_laws_toTableS : TFn := ⟨25, [.cell (.sl false (.sl false (.pair .str (.sl false .str))))], [], [.cell (.sl true (.sl true (.pair .str (.sl true .str))))], [], T_laws_toTableS⟩
theorem ok_laws_toTableS : FnOk Tryz.prog fn_laws_toTableS := evF_ok mixed (allOk_cons ok_laws_toTable allOk_nil) m_laws_toTableS (by decide)
def F_laws_toHall : TF := ⟨(.seq (.reg none [.p (.box 1 (.t 0)) .unit,
  .p (.alloc 2 [(.sl true 2 []), (.sl true 24 []), (.sl true 17 []), (.sl true 8 []), (.sl true 11 []), (.sl true 1 []), (.sl true 1 [])]) .unit])
 (.seq (.reg none [.p (.alloc 3 [(.sl true 2 []), (.sl true 24 []), (.sl true 17 []), (.sl true 8 []), (.sl true 11 []), (.sl true 1 []), (.sl true 1 [])]) .unit])
 (.seq (.reg none [.p (.fadr 4 (.t 1) 0) .unit,
  .p (.load 5 (.t 4) 4 true) .unit,
  .p (.callB 6 n_laws_toWorld [((.t 5), 0)]) .unit,
  .p (.fadr 7 (.t 3) 0) .unit,
  .p (.storeT (.t 7) 6 4) .unit])
 (.seq (.reg none [.p (.fadr 8 (.t 1) 4) .unit,
  .p (.load 9 (.t 8) 1 false) .unit,
  .p (.callB 10 n_laws_toCallerS [((.t 9), 0)]) .unit,
  .p (.fadr 11 (.t 3) 4) .unit,
  .p (.storeT (.t 11) 10 1) .unit])
 (.seq (.reg none [.p (.fadr 12 (.t 1) 5) .unit,
  .p (.load 13 (.t 12) 1 false) .unit,
  .p (.callB 14 n_laws_toTableS [((.t 13), 0)]) .unit,
  .p (.fadr 15 (.t 3) 5) .unit,
  .p (.storeT (.t 15) 14 1) .unit])
 (.seq (.reg none [.p (.fadr 16 (.t 1) 6) .unit,
  .p (.load 17 (.t 16) 1 false) .unit,
  .p (.callB 18 n_laws_toIntS [((.t 17), 0)]) .unit,
  .p (.fadr 19 (.t 3) 6) .unit,
  .p (.storeT (.t 19) 18 1) .unit])
 (.seq (.reg none [.p (.loadT 20 (.t 3) 7 true) .unit,
  .p (.storeT (.t 2) 20 7) .unit])
 .ret))))))),
 21, 1, [.c 2 7 true]⟩
theorem m_laws_toHall : mH Tryz.prog 7 [(2, 4, .t), (3, 4, .t), (4, 4, .t), (5, 4, .t), (6, 0, .t), (6, 1, .t)] = some (F_laws_toHall.code.x, F_laws_toHall.N, F_laws_toHall.np, F_laws_toHall.res) := by kernel_rfl
noncomputable def T_laws_toHall : (List (Int × List (Int)) × List (Int × Bool × (Int × (Int × List (Int)) × List (Int × Int × Int × List UInt8) × List (Int) × List (List UInt8) × Int × Int × Int × Int × Int × Int × Int × Int × Int × List (Int)) × Int × Int × (Int × List (Int)) × List (Int × Int × Int × List (Int × Int × Int × List UInt8)) × List (Int × (Int × List (Int)) × (Int × Int × Int × List UInt8) × List (Int))) × List (Int × Int × Int × (Int × Int × Int × List UInt8) × (Int × Int × Int × Int × Int × List (Int)) × Int × Int × Int × List (Int × Int × Int × List UInt8)) × List (Int × (Int × List (Int)) × (Int × Int × Int × List UInt8) × List (Int))) × List ((Int × List UInt8 × (List UInt8 × Bool) × Bool × List (List UInt8)) × (List UInt8 × List (List UInt8) × Bool) × List UInt8 × List (List UInt8)) × List (List (List UInt8 × List (List UInt8))) × List (Int) → Option ((List (Int × List (Int)) × List (Int × Bool × (Int × (Int × List (Int)) × List (Int × Int × Int × List UInt8) × List (Int) × List (List UInt8) × Int × Int × Int × Int × Int × Int × Int × Int × Int × List (Int)) × Int × Int × (Int × List (Int)) × List (Int × Int × Int × List (Int × Int × Int × List UInt8)) × List (Int × (Int × List (Int)) × (Int × Int × Int × List UInt8) × List (Int))) × List (Int × Int × Int × (Int × Int × Int × List UInt8) × (Int × Int × Int × Int × Int × List (Int)) × Int × Int × Int × List (Int × Int × Int × List UInt8)) × List (Int × (Int × List (Int)) × (Int × Int × Int × List UInt8) × List (Int))) × List ((Int × List UInt8 × (List UInt8 × Bool) × Bool × List (List UInt8)) × (List UInt8 × List (List UInt8) × Bool) × List UInt8 × List (List UInt8)) × List (List (List UInt8 × List (List UInt8))) × List (Int)) := evF [fn_laws_toWorld, fn_laws_toCallerS, fn_laws_toTableS, fn_laws_toIntS] F_laws_toHall [.agg (.pair (.pair (.sl false (.pair (.int .i64) (.sl false (.int .i64)))) (.pair (.sl false (.pair (.int .i64) (.pair .bool (.pair (.pair (.int .i64) (.pair (.pair (.int .i64) (.sl false (.int .i64))) (.pair (.sl false (.pair (.int .i64) (.pair (.int .i64) (.pair (.int .i64) .str)))) (.pair (.sl false (.int .i64)) (.pair (.sl false .str) (.pair (.int .i64) (.pair (.int .i64) (.pair (.int .i64) (.pair (.int .i64) (.pair (.int .i64) (.pair (.int .i64) (.pair (.int .i64) (.pair (.int .i64) (.pair (.int .i64) (.sl false (.int .i64)))))))))))))))) (.pair (.int .i64) (.pair (.int .i64) (.pair (.pair (.int .i64) (.sl false (.int .i64))) (.pair (.sl false (.pair (.int .i64) (.pair (.int .i64) (.pair (.int .i64) (.sl false (.pair (.int .i64) (.pair (.int .i64) (.pair (.int .i64) .str)))))))) (.sl false (.pair (.int .i64) (.pair (.pair (.int .i64) (.sl false (.int .i64))) (.pair (.pair (.int .i64) (.pair (.int .i64) (.pair (.int .i64) .str))) (.sl false (.int .i64)))))))))))))) (.pair (.sl false (.pair (.int .i64) (.pair (.int .i64) (.pair (.int .i64) (.pair (.pair (.int .i64) (.pair (.int .i64) (.pair (.int .i64) .str))) (.pair (.pair (.int .i64) (.pair (.int .i64) (.pair (.int .i64) (.pair (.int .i64) (.pair (.int .i64) (.sl false (.int .i64))))))) (.pair (.int .i64) (.pair (.int .i64) (.pair (.int .i64) (.sl false (.pair (.int .i64) (.pair (.int .i64) (.pair (.int .i64) .str))))))))))))) (.sl false (.pair (.int .i64) (.pair (.pair (.int .i64) (.sl false (.int .i64))) (.pair (.pair (.int .i64) (.pair (.int .i64) (.pair (.int .i64) .str))) (.sl false (.int .i64))))))))) (.pair (.sl false (.pair (.pair (.int .i64) (.pair .str (.pair (.pair .str .bool) (.pair .bool (.sl false .str))))) (.pair (.pair .str (.pair (.sl false .str) .bool)) (.pair .str (.sl false .str))))) (.pair (.sl false (.sl false (.pair .str (.sl false .str)))) (.sl false (.int .i64)))))] [] [.agg (.pair (.pair (.sl true (.pair (.int .i64) (.sl true (.int .i64)))) (.pair (.sl true (.pair (.int .i64) (.pair .bool (.pair (.pair (.int .i64) (.pair (.pair (.int .i64) (.sl true (.int .i64))) (.pair (.sl true (.pair (.int .i64) (.pair (.int .i64) (.pair (.int .i64) .str)))) (.pair (.sl true (.int .i64)) (.pair (.sl true .str) (.pair (.int .i64) (.pair (.int .i64) (.pair (.int .i64) (.pair (.int .i64) (.pair (.int .i64) (.pair (.int .i64) (.pair (.int .i64) (.pair (.int .i64) (.pair (.int .i64) (.sl true (.int .i64)))))))))))))))) (.pair (.int .i64) (.pair (.int .i64) (.pair (.pair (.int .i64) (.sl true (.int .i64))) (.pair (.sl true (.pair (.int .i64) (.pair (.int .i64) (.pair (.int .i64) (.sl true (.pair (.int .i64) (.pair (.int .i64) (.pair (.int .i64) .str)))))))) (.sl true (.pair (.int .i64) (.pair (.pair (.int .i64) (.sl true (.int .i64))) (.pair (.pair (.int .i64) (.pair (.int .i64) (.pair (.int .i64) .str))) (.sl true (.int .i64)))))))))))))) (.pair (.sl true (.pair (.int .i64) (.pair (.int .i64) (.pair (.int .i64) (.pair (.pair (.int .i64) (.pair (.int .i64) (.pair (.int .i64) .str))) (.pair (.pair (.int .i64) (.pair (.int .i64) (.pair (.int .i64) (.pair (.int .i64) (.pair (.int .i64) (.sl true (.int .i64))))))) (.pair (.int .i64) (.pair (.int .i64) (.pair (.int .i64) (.sl true (.pair (.int .i64) (.pair (.int .i64) (.pair (.int .i64) .str))))))))))))) (.sl true (.pair (.int .i64) (.pair (.pair (.int .i64) (.sl true (.int .i64))) (.pair (.pair (.int .i64) (.pair (.int .i64) (.pair (.int .i64) .str))) (.sl true (.int .i64))))))))) (.pair (.sl true (.pair (.pair (.int .i64) (.pair .str (.pair (.pair .str .bool) (.pair .bool (.sl true .str))))) (.pair (.pair .str (.pair (.sl true .str) .bool)) (.pair .str (.sl true .str))))) (.pair (.sl true (.sl true (.pair .str (.sl true .str)))) (.sl true (.int .i64)))))] []
noncomputable def fn_laws_toHall : TFn := ⟨7, [.agg (.pair (.pair (.sl false (.pair (.int .i64) (.sl false (.int .i64)))) (.pair (.sl false (.pair (.int .i64) (.pair .bool (.pair (.pair (.int .i64) (.pair (.pair (.int .i64) (.sl false (.int .i64))) (.pair (.sl false (.pair (.int .i64) (.pair (.int .i64) (.pair (.int .i64) .str)))) (.pair (.sl false (.int .i64)) (.pair (.sl false .str) (.pair (.int .i64) (.pair (.int .i64) (.pair (.int .i64) (.pair (.int .i64) (.pair (.int .i64) (.pair (.int .i64) (.pair (.int .i64) (.pair (.int .i64) (.pair (.int .i64) (.sl false (.int .i64)))))))))))))))) (.pair (.int .i64) (.pair (.int .i64) (.pair (.pair (.int .i64) (.sl false (.int .i64))) (.pair (.sl false (.pair (.int .i64) (.pair (.int .i64) (.pair (.int .i64) (.sl false (.pair (.int .i64) (.pair (.int .i64) (.pair (.int .i64) .str)))))))) (.sl false (.pair (.int .i64) (.pair (.pair (.int .i64) (.sl false (.int .i64))) (.pair (.pair (.int .i64) (.pair (.int .i64) (.pair (.int .i64) .str))) (.sl false (.int .i64)))))))))))))) (.pair (.sl false (.pair (.int .i64) (.pair (.int .i64) (.pair (.int .i64) (.pair (.pair (.int .i64) (.pair (.int .i64) (.pair (.int .i64) .str))) (.pair (.pair (.int .i64) (.pair (.int .i64) (.pair (.int .i64) (.pair (.int .i64) (.pair (.int .i64) (.sl false (.int .i64))))))) (.pair (.int .i64) (.pair (.int .i64) (.pair (.int .i64) (.sl false (.pair (.int .i64) (.pair (.int .i64) (.pair (.int .i64) .str))))))))))))) (.sl false (.pair (.int .i64) (.pair (.pair (.int .i64) (.sl false (.int .i64))) (.pair (.pair (.int .i64) (.pair (.int .i64) (.pair (.int .i64) .str))) (.sl false (.int .i64))))))))) (.pair (.sl false (.pair (.pair (.int .i64) (.pair .str (.pair (.pair .str .bool) (.pair .bool (.sl false .str))))) (.pair (.pair .str (.pair (.sl false .str) .bool)) (.pair .str (.sl false .str))))) (.pair (.sl false (.sl false (.pair .str (.sl false .str)))) (.sl false (.int .i64)))))], [], [.agg (.pair (.pair (.sl true (.pair (.int .i64) (.sl true (.int .i64)))) (.pair (.sl true (.pair (.int .i64) (.pair .bool (.pair (.pair (.int .i64) (.pair (.pair (.int .i64) (.sl true (.int .i64))) (.pair (.sl true (.pair (.int .i64) (.pair (.int .i64) (.pair (.int .i64) .str)))) (.pair (.sl true (.int .i64)) (.pair (.sl true .str) (.pair (.int .i64) (.pair (.int .i64) (.pair (.int .i64) (.pair (.int .i64) (.pair (.int .i64) (.pair (.int .i64) (.pair (.int .i64) (.pair (.int .i64) (.pair (.int .i64) (.sl true (.int .i64)))))))))))))))) (.pair (.int .i64) (.pair (.int .i64) (.pair (.pair (.int .i64) (.sl true (.int .i64))) (.pair (.sl true (.pair (.int .i64) (.pair (.int .i64) (.pair (.int .i64) (.sl true (.pair (.int .i64) (.pair (.int .i64) (.pair (.int .i64) .str)))))))) (.sl true (.pair (.int .i64) (.pair (.pair (.int .i64) (.sl true (.int .i64))) (.pair (.pair (.int .i64) (.pair (.int .i64) (.pair (.int .i64) .str))) (.sl true (.int .i64)))))))))))))) (.pair (.sl true (.pair (.int .i64) (.pair (.int .i64) (.pair (.int .i64) (.pair (.pair (.int .i64) (.pair (.int .i64) (.pair (.int .i64) .str))) (.pair (.pair (.int .i64) (.pair (.int .i64) (.pair (.int .i64) (.pair (.int .i64) (.pair (.int .i64) (.sl true (.int .i64))))))) (.pair (.int .i64) (.pair (.int .i64) (.pair (.int .i64) (.sl true (.pair (.int .i64) (.pair (.int .i64) (.pair (.int .i64) .str))))))))))))) (.sl true (.pair (.int .i64) (.pair (.pair (.int .i64) (.sl true (.int .i64))) (.pair (.pair (.int .i64) (.pair (.int .i64) (.pair (.int .i64) .str))) (.sl true (.int .i64))))))))) (.pair (.sl true (.pair (.pair (.int .i64) (.pair .str (.pair (.pair .str .bool) (.pair .bool (.sl true .str))))) (.pair (.pair .str (.pair (.sl true .str) .bool)) (.pair .str (.sl true .str))))) (.pair (.sl true (.sl true (.pair .str (.sl true .str)))) (.sl true (.int .i64)))))], [], T_laws_toHall⟩
theorem ok_laws_toHall : FnOk Tryz.prog fn_laws_toHall := evF_ok mixed (allOk_cons ok_laws_toWorld (allOk_cons ok_laws_toCallerS (allOk_cons ok_laws_toTableS (allOk_cons ok_laws_toIntS allOk_nil)))) m_laws_toHall (by decide)
end Xs
end Go.Proofs.YtkjpdhdmjjepfaaGreat
