/- The typed code of the functions, printed by program. -/
import Derived.Test.YtlblgfhdndpmfaaT7
import Derived.Test.YtlblgfhdndpmfaaProg
import Derived.KernelRfl


namespace Go.Proofs.Ytlblgfhdndpmfaa
open Go Vm
namespace Xs
theorem mixed : Try.prog.follows .mixedOrders = true := by kernel_rfl
abbrev n_laws_FnExactSaidFirst : Nat := 10
abbrev n_laws_eqToken : Nat := 21
abbrev n_laws_eqBundle : Nat := 31
abbrev n_laws_szWorld : Nat := 53
abbrev n_spec_SaidFirst : Nat := 54
abbrev n_laws_toWorld : Nat := 55
abbrev n_impl_SaidFirst : Nat := 56
abbrev n_laws_eqWorld : Nat := 57
abbrev n_laws_eqIntS : Nat := 78
abbrev n_laws_eqStringS : Nat := 83
abbrev n_laws_eqItemS : Nat := 86
abbrev n_laws_szRingS : Nat := 110
abbrev n_laws_szDaemonS : Nat := 111
abbrev n_laws_szLetterS : Nat := 112
abbrev n_laws_szEventS : Nat := 113
abbrev n_laws_toRingS : Nat := 114
abbrev n_laws_toDaemonS : Nat := 115
abbrev n_laws_toLetterS : Nat := 116
abbrev n_laws_toEventS : Nat := 117
abbrev n_impl_wasNumbered : Nat := 118
abbrev n_laws_eqRingS : Nat := 119
abbrev n_laws_eqDaemonS : Nat := 120
abbrev n_laws_eqLetterS : Nat := 121
abbrev n_laws_eqEventS : Nat := 122
abbrev n_laws_eqItem : Nat := 136
abbrev n_laws_szRing : Nat := 144
abbrev n_laws_szDaemon : Nat := 145
abbrev n_laws_szLetter : Nat := 146
abbrev n_laws_szEvent : Nat := 147
abbrev n_laws_toRing : Nat := 148
abbrev n_laws_toDaemon : Nat := 149
abbrev n_laws_toLetter : Nat := 150
abbrev n_laws_toEvent : Nat := 151
abbrev n_slices_ContainsFunc___impl_Event_impl_Event_ : Nat := 152
abbrev n_impl_wasNumbered_1 : Nat := 153
abbrev n_laws_eqRing : Nat := 154
abbrev n_laws_eqDaemon : Nat := 155
abbrev n_laws_eqLetter : Nat := 156
abbrev n_laws_eqEvent : Nat := 157
abbrev n_laws_szIntS : Nat := 166
abbrev n_laws_szMate : Nat := 167
abbrev n_laws_szBundleS : Nat := 168
abbrev n_laws_szItem : Nat := 169
abbrev n_laws_szToken : Nat := 170
abbrev n_laws_szBundle : Nat := 171
abbrev n_laws_toIntS : Nat := 172
abbrev n_laws_toMate : Nat := 173
abbrev n_laws_toBundleS : Nat := 174
abbrev n_laws_toItem : Nat := 175
abbrev n_laws_toToken : Nat := 176
abbrev n_laws_toBundle : Nat := 177
abbrev n_slices_IndexFunc___impl_Event_impl_Event_ : Nat := 178
abbrev n_laws_eqMate : Nat := 179
abbrev n_laws_eqBundleS : Nat := 180
abbrev n_laws_szItemS : Nat := 184
abbrev n_laws_szStringS : Nat := 185
abbrev n_laws_toItemS : Nat := 186
abbrev n_laws_toStringS : Nat := 187
def F_laws_szIntS : TF := ⟨(.seq (.reg none [.p (.mv 4 (.c (.int .i64 0))) .unit])
 (.seq (.reg none [.p (.mv 5 (.t 1)) .unit,
  .p (.mv 6 (.t 0)) .unit,
  .p (.lenB 7 (.t 6)) .unit,
  .p (.bin 8 false .sub (.t 5) (.t 7)) .unit,
  .p (.mv 1 (.t 8)) .unit])
 (.seq (.seq (.reg none [.p (.mv 9 (.t 1)) .unit,
  .p (.bin 10 false .lss (.t 9) (.c (.int .i64 0))) .unit])
 (.cond (.t 10) (.seq (.reg none [.p (.mv 4 (.c (.int .i64 (-1)))) .unit])
 .ret) .skip))
 (.seq (.reg none [.p (.mv 11 (.t 1)) .unit,
  .p (.mv 4 (.t 11)) .unit])
 .ret)))),
 12, 2, [.t 4]⟩
theorem m_laws_szIntS : mH Try.prog 166 [] = some (F_laws_szIntS.code.x, F_laws_szIntS.N, F_laws_szIntS.np, F_laws_szIntS.res) := by kernel_rfl
noncomputable def T_laws_szIntS : (List (Int)) × Int → Option (Int) := evF [] F_laws_szIntS [.cell (.sl false (.int .i64)), .cell (.int .i64)] [] [.cell (.int .i64)] []
noncomputable def fn_laws_szIntS : TFn := ⟨166, [.cell (.sl false (.int .i64)), .cell (.int .i64)], [], [.cell (.int .i64)], [], T_laws_szIntS⟩
theorem ok_laws_szIntS : FnOk Try.prog fn_laws_szIntS := evF_ok mixed allOk_nil m_laws_szIntS (by decide)
def F_laws_szRing : TF := ⟨(.seq (.reg none [.p (.box 2 (.t 0)) .unit,
  .p (.mv 4 (.c (.int .i64 0))) .unit])
 (.seq (.reg none [.p (.fadr 5 (.t 2) 1) .unit,
  .p (.load 6 (.t 5) 1 false) .unit,
  .p (.mv 7 (.t 1)) .unit,
  .p (.callB 8 n_laws_szIntS [((.t 6), 0), ((.t 7), 0)]) .unit,
  .p (.mv 1 (.t 8)) .unit])
 (.seq (.seq (.reg none [.p (.mv 9 (.t 1)) .unit,
  .p (.bin 10 false .lss (.t 9) (.c (.int .i64 0))) .unit])
 (.cond (.t 10) (.seq (.reg none [.p (.mv 4 (.c (.int .i64 (-1)))) .unit])
 .ret) .skip))
 (.seq (.reg none [.p (.mv 11 (.t 1)) .unit,
  .p (.mv 4 (.t 11)) .unit])
 .ret)))),
 12, 2, [.t 4]⟩
theorem m_laws_szRing : mH Try.prog 144 [] = some (F_laws_szRing.code.x, F_laws_szRing.N, F_laws_szRing.np, F_laws_szRing.res) := by kernel_rfl
noncomputable def T_laws_szRing : (Int × List (Int)) × Int → Option (Int) := evF [fn_laws_szIntS] F_laws_szRing [.agg (.pair (.int .i64) (.sl false (.int .i64))), .cell (.int .i64)] [] [.cell (.int .i64)] []
noncomputable def fn_laws_szRing : TFn := ⟨144, [.agg (.pair (.int .i64) (.sl false (.int .i64))), .cell (.int .i64)], [], [.cell (.int .i64)], [], T_laws_szRing⟩
theorem ok_laws_szRing : FnOk Try.prog fn_laws_szRing := evF_ok mixed (allOk_cons ok_laws_szIntS allOk_nil) m_laws_szRing (by decide)
def B_laws_szRingS_1 : TC := (.seq (.seq (.reg none [.p (.mv 12 (.t 5)) .unit,
  .p (.mv 13 (.t 0)) .unit,
  .p (.lenB 14 (.t 13)) .unit,
  .p (.bin 15 false .lss (.t 12) (.t 14)) .unit])
 (.cond (.t 15) .skip (.exit 0)))
 (.seq (.block 1 (.seq (.reg none [.p (.mv 18 (.t 0)) .unit,
  .p (.mv 19 (.t 5)) .unit,
  .p (.iadr 20 2 (.t 18) (.t 19)) .unit,
  .p (.load 21 (.t 20) 2 true) .unit,
  .p (.mv 22 (.t 1)) .unit,
  .p (.callB 23 n_laws_szRing [((.t 21), 0), ((.t 22), 0)]) .unit,
  .p (.mv 1 (.t 23)) .unit])
 (.seq (.reg none [.p (.mv 24 (.t 1)) .unit,
  .p (.bin 25 false .lss (.t 24) (.c (.int .i64 0))) .unit])
 (.cond (.t 25) (.seq (.reg none [.p (.mv 4 (.c (.int .i64 (-1)))) .unit])
 .ret) .skip))))
 (.reg none [.p (.mv 16 (.t 5)) .unit,
  .p (.bin 17 false .add (.t 16) (.c (.int .i64 1))) .unit,
  .p (.mv 5 (.t 17)) .unit])))
noncomputable def L_laws_szRingS_1 : Nat → (List (Int × List (Int))) × (Int) × Int → Option ((Int) ⊕ (Int)) := evL [fn_laws_szRing] (finT [.t 4] [] [.cell (.int .i64)]) 0 ⟨[(0, true), (1, false), (5, false)], [.cell (.sl false (.pair (.int .i64) (.sl false (.int .i64)))), .cell (.int .i64), .cell (.int .i64)]⟩ ⟨[(1, false)], [.cell (.int .i64)]⟩ B_laws_szRingS_1
def F_laws_szRingS : TF := ⟨(.seq (.reg none [.p (.mv 4 (.c (.int .i64 0))) .unit])
 (.seq (.reg none [.p (.mv 6 (.t 1)) .unit,
  .p (.mv 7 (.t 0)) .unit,
  .p (.lenB 8 (.t 7)) .unit,
  .p (.bin 9 false .sub (.t 6) (.t 8)) .unit,
  .p (.mv 1 (.t 9)) .unit])
 (.seq (.seq (.reg none [.p (.mv 10 (.t 1)) .unit,
  .p (.bin 11 false .lss (.t 10) (.c (.int .i64 0))) .unit])
 (.cond (.t 11) (.seq (.reg none [.p (.mv 4 (.c (.int .i64 (-1)))) .unit])
 .ret) .skip))
 (.seq (.seq (.reg none [.p (.mv 5 (.c (.int .i64 0))) .unit])
 (.jl 0 ⟨[(0, true), (1, false), (5, false)], [.cell (.sl false (.pair (.int .i64) (.sl false (.int .i64)))), .cell (.int .i64), .cell (.int .i64)]⟩ ⟨[(1, false)], [.cell (.int .i64)]⟩ B_laws_szRingS_1))
 (.seq (.reg none [.p (.mv 26 (.t 1)) .unit,
  .p (.mv 4 (.t 26)) .unit])
 .ret))))),
 27, 2, [.t 4]⟩
theorem m_laws_szRingS : mH Try.prog 110 [] = some (F_laws_szRingS.code.x, F_laws_szRingS.N, F_laws_szRingS.np, F_laws_szRingS.res) := by kernel_rfl
noncomputable def T_laws_szRingS : (List (Int × List (Int))) × Int → Option (Int) := evF [fn_laws_szRing] F_laws_szRingS [.cell (.sl false (.pair (.int .i64) (.sl false (.int .i64)))), .cell (.int .i64)] [] [.cell (.int .i64)] []
noncomputable def fn_laws_szRingS : TFn := ⟨110, [.cell (.sl false (.pair (.int .i64) (.sl false (.int .i64)))), .cell (.int .i64)], [], [.cell (.int .i64)], [], T_laws_szRingS⟩
theorem ok_laws_szRingS : FnOk Try.prog fn_laws_szRingS := evF_ok mixed (allOk_cons ok_laws_szRing allOk_nil) m_laws_szRingS (by decide)
def F_laws_szItem : TF := ⟨(.seq (.reg none [.p (.box 2 (.t 0)) .unit,
  .p (.mv 4 (.c (.int .i64 0))) .unit])
 (.seq (.reg none [.p (.mv 5 (.t 1)) .unit,
  .p (.fadr 6 (.t 2) 3) .unit,
  .p (.load 7 (.t 6) 1 false) .unit,
  .p (.lenS 8 (.t 7)) .unit,
  .p (.bin 9 false .sub (.t 5) (.t 8)) .unit,
  .p (.mv 1 (.t 9)) .unit])
 (.seq (.seq (.reg none [.p (.mv 10 (.t 1)) .unit,
  .p (.bin 11 false .lss (.t 10) (.c (.int .i64 0))) .unit])
 (.cond (.t 11) (.seq (.reg none [.p (.mv 4 (.c (.int .i64 (-1)))) .unit])
 .ret) .skip))
 (.seq (.reg none [.p (.mv 12 (.t 1)) .unit,
  .p (.mv 4 (.t 12)) .unit])
 .ret)))),
 13, 2, [.t 4]⟩
theorem m_laws_szItem : mH Try.prog 169 [] = some (F_laws_szItem.code.x, F_laws_szItem.N, F_laws_szItem.np, F_laws_szItem.res) := by kernel_rfl
noncomputable def T_laws_szItem : (Int × Int × Int × List UInt8) × Int → Option (Int) := evF [] F_laws_szItem [.agg (.pair (.int .i64) (.pair (.int .i64) (.pair (.int .i64) .str))), .cell (.int .i64)] [] [.cell (.int .i64)] []
noncomputable def fn_laws_szItem : TFn := ⟨169, [.agg (.pair (.int .i64) (.pair (.int .i64) (.pair (.int .i64) .str))), .cell (.int .i64)], [], [.cell (.int .i64)], [], T_laws_szItem⟩
theorem ok_laws_szItem : FnOk Try.prog fn_laws_szItem := evF_ok mixed allOk_nil m_laws_szItem (by decide)
def B_laws_szItemS_1 : TC := (.seq (.seq (.reg none [.p (.mv 12 (.t 5)) .unit,
  .p (.mv 13 (.t 0)) .unit,
  .p (.lenB 14 (.t 13)) .unit,
  .p (.bin 15 false .lss (.t 12) (.t 14)) .unit])
 (.cond (.t 15) .skip (.exit 0)))
 (.seq (.block 1 (.seq (.reg none [.p (.mv 18 (.t 0)) .unit,
  .p (.mv 19 (.t 5)) .unit,
  .p (.iadr 20 4 (.t 18) (.t 19)) .unit,
  .p (.load 21 (.t 20) 4 true) .unit,
  .p (.mv 22 (.t 1)) .unit,
  .p (.callB 23 n_laws_szItem [((.t 21), 0), ((.t 22), 0)]) .unit,
  .p (.mv 1 (.t 23)) .unit])
 (.seq (.reg none [.p (.mv 24 (.t 1)) .unit,
  .p (.bin 25 false .lss (.t 24) (.c (.int .i64 0))) .unit])
 (.cond (.t 25) (.seq (.reg none [.p (.mv 4 (.c (.int .i64 (-1)))) .unit])
 .ret) .skip))))
 (.reg none [.p (.mv 16 (.t 5)) .unit,
  .p (.bin 17 false .add (.t 16) (.c (.int .i64 1))) .unit,
  .p (.mv 5 (.t 17)) .unit])))
noncomputable def L_laws_szItemS_1 : Nat → (List (Int × Int × Int × List UInt8)) × (Int) × Int → Option ((Int) ⊕ (Int)) := evL [fn_laws_szItem] (finT [.t 4] [] [.cell (.int .i64)]) 0 ⟨[(0, true), (1, false), (5, false)], [.cell (.sl false (.pair (.int .i64) (.pair (.int .i64) (.pair (.int .i64) .str)))), .cell (.int .i64), .cell (.int .i64)]⟩ ⟨[(1, false)], [.cell (.int .i64)]⟩ B_laws_szItemS_1
def F_laws_szItemS : TF := ⟨(.seq (.reg none [.p (.mv 4 (.c (.int .i64 0))) .unit])
 (.seq (.reg none [.p (.mv 6 (.t 1)) .unit,
  .p (.mv 7 (.t 0)) .unit,
  .p (.lenB 8 (.t 7)) .unit,
  .p (.bin 9 false .sub (.t 6) (.t 8)) .unit,
  .p (.mv 1 (.t 9)) .unit])
 (.seq (.seq (.reg none [.p (.mv 10 (.t 1)) .unit,
  .p (.bin 11 false .lss (.t 10) (.c (.int .i64 0))) .unit])
 (.cond (.t 11) (.seq (.reg none [.p (.mv 4 (.c (.int .i64 (-1)))) .unit])
 .ret) .skip))
 (.seq (.seq (.reg none [.p (.mv 5 (.c (.int .i64 0))) .unit])
 (.jl 0 ⟨[(0, true), (1, false), (5, false)], [.cell (.sl false (.pair (.int .i64) (.pair (.int .i64) (.pair (.int .i64) .str)))), .cell (.int .i64), .cell (.int .i64)]⟩ ⟨[(1, false)], [.cell (.int .i64)]⟩ B_laws_szItemS_1))
 (.seq (.reg none [.p (.mv 26 (.t 1)) .unit,
  .p (.mv 4 (.t 26)) .unit])
 .ret))))),
 27, 2, [.t 4]⟩
theorem m_laws_szItemS : mH Try.prog 184 [] = some (F_laws_szItemS.code.x, F_laws_szItemS.N, F_laws_szItemS.np, F_laws_szItemS.res) := by kernel_rfl
noncomputable def T_laws_szItemS : (List (Int × Int × Int × List UInt8)) × Int → Option (Int) := evF [fn_laws_szItem] F_laws_szItemS [.cell (.sl false (.pair (.int .i64) (.pair (.int .i64) (.pair (.int .i64) .str)))), .cell (.int .i64)] [] [.cell (.int .i64)] []
noncomputable def fn_laws_szItemS : TFn := ⟨184, [.cell (.sl false (.pair (.int .i64) (.pair (.int .i64) (.pair (.int .i64) .str)))), .cell (.int .i64)], [], [.cell (.int .i64)], [], T_laws_szItemS⟩
theorem ok_laws_szItemS : FnOk Try.prog fn_laws_szItemS := evF_ok mixed (allOk_cons ok_laws_szItem allOk_nil) m_laws_szItemS (by decide)
def B_laws_szStringS_1 : TC := (.seq (.seq (.reg none [.p (.mv 12 (.t 5)) .unit,
  .p (.mv 13 (.t 0)) .unit,
  .p (.lenB 14 (.t 13)) .unit,
  .p (.bin 15 false .lss (.t 12) (.t 14)) .unit])
 (.cond (.t 15) .skip (.exit 0)))
 (.seq (.block 1 (.seq (.reg none [.p (.mv 18 (.t 1)) .unit,
  .p (.mv 19 (.t 0)) .unit,
  .p (.mv 20 (.t 5)) .unit,
  .p (.iadr 21 1 (.t 19) (.t 20)) .unit,
  .p (.load 22 (.t 21) 1 false) .unit,
  .p (.lenS 23 (.t 22)) .unit,
  .p (.bin 24 false .sub (.t 18) (.t 23)) .unit,
  .p (.mv 1 (.t 24)) .unit])
 (.seq (.reg none [.p (.mv 25 (.t 1)) .unit,
  .p (.bin 26 false .lss (.t 25) (.c (.int .i64 0))) .unit])
 (.cond (.t 26) (.seq (.reg none [.p (.mv 4 (.c (.int .i64 (-1)))) .unit])
 .ret) .skip))))
 (.reg none [.p (.mv 16 (.t 5)) .unit,
  .p (.bin 17 false .add (.t 16) (.c (.int .i64 1))) .unit,
  .p (.mv 5 (.t 17)) .unit])))
noncomputable def L_laws_szStringS_1 : Nat → (List (List UInt8)) × (Int) × Int → Option ((Int) ⊕ (Int)) := evL [] (finT [.t 4] [] [.cell (.int .i64)]) 0 ⟨[(0, true), (1, false), (5, false)], [.cell (.sl false .str), .cell (.int .i64), .cell (.int .i64)]⟩ ⟨[(1, false)], [.cell (.int .i64)]⟩ B_laws_szStringS_1
def F_laws_szStringS : TF := ⟨(.seq (.reg none [.p (.mv 4 (.c (.int .i64 0))) .unit])
 (.seq (.reg none [.p (.mv 6 (.t 1)) .unit,
  .p (.mv 7 (.t 0)) .unit,
  .p (.lenB 8 (.t 7)) .unit,
  .p (.bin 9 false .sub (.t 6) (.t 8)) .unit,
  .p (.mv 1 (.t 9)) .unit])
 (.seq (.seq (.reg none [.p (.mv 10 (.t 1)) .unit,
  .p (.bin 11 false .lss (.t 10) (.c (.int .i64 0))) .unit])
 (.cond (.t 11) (.seq (.reg none [.p (.mv 4 (.c (.int .i64 (-1)))) .unit])
 .ret) .skip))
 (.seq (.seq (.reg none [.p (.mv 5 (.c (.int .i64 0))) .unit])
 (.jl 0 ⟨[(0, true), (1, false), (5, false)], [.cell (.sl false .str), .cell (.int .i64), .cell (.int .i64)]⟩ ⟨[(1, false)], [.cell (.int .i64)]⟩ B_laws_szStringS_1))
 (.seq (.reg none [.p (.mv 27 (.t 1)) .unit,
  .p (.mv 4 (.t 27)) .unit])
 .ret))))),
 28, 2, [.t 4]⟩
theorem m_laws_szStringS : mH Try.prog 185 [] = some (F_laws_szStringS.code.x, F_laws_szStringS.N, F_laws_szStringS.np, F_laws_szStringS.res) := by kernel_rfl
noncomputable def T_laws_szStringS : (List (List UInt8)) × Int → Option (Int) := evF [] F_laws_szStringS [.cell (.sl false .str), .cell (.int .i64)] [] [.cell (.int .i64)] []
noncomputable def fn_laws_szStringS : TFn := ⟨185, [.cell (.sl false .str), .cell (.int .i64)], [], [.cell (.int .i64)], [], T_laws_szStringS⟩
theorem ok_laws_szStringS : FnOk Try.prog fn_laws_szStringS := evF_ok mixed allOk_nil m_laws_szStringS (by decide)
def F_laws_szToken : TF := ⟨(.seq (.reg none [.p (.box 2 (.t 0)) .unit,
  .p (.mv 4 (.c (.int .i64 0))) .unit])
 (.seq (.reg none [.p (.fadr 5 (.t 2) 5) .unit,
  .p (.load 6 (.t 5) 1 false) .unit,
  .p (.mv 7 (.t 1)) .unit,
  .p (.callB 8 n_laws_szIntS [((.t 6), 0), ((.t 7), 0)]) .unit,
  .p (.mv 1 (.t 8)) .unit])
 (.seq (.seq (.reg none [.p (.mv 9 (.t 1)) .unit,
  .p (.bin 10 false .lss (.t 9) (.c (.int .i64 0))) .unit])
 (.cond (.t 10) (.seq (.reg none [.p (.mv 4 (.c (.int .i64 (-1)))) .unit])
 .ret) .skip))
 (.seq (.reg none [.p (.mv 11 (.t 1)) .unit,
  .p (.mv 4 (.t 11)) .unit])
 .ret)))),
 12, 2, [.t 4]⟩
theorem m_laws_szToken : mH Try.prog 170 [] = some (F_laws_szToken.code.x, F_laws_szToken.N, F_laws_szToken.np, F_laws_szToken.res) := by kernel_rfl
noncomputable def T_laws_szToken : (Int × Int × Int × Int × Int × List (Int)) × Int → Option (Int) := evF [fn_laws_szIntS] F_laws_szToken [.agg (.pair (.int .i64) (.pair (.int .i64) (.pair (.int .i64) (.pair (.int .i64) (.pair (.int .i64) (.sl false (.int .i64))))))), .cell (.int .i64)] [] [.cell (.int .i64)] []
noncomputable def fn_laws_szToken : TFn := ⟨170, [.agg (.pair (.int .i64) (.pair (.int .i64) (.pair (.int .i64) (.pair (.int .i64) (.pair (.int .i64) (.sl false (.int .i64))))))), .cell (.int .i64)], [], [.cell (.int .i64)], [], T_laws_szToken⟩
theorem ok_laws_szToken : FnOk Try.prog fn_laws_szToken := evF_ok mixed (allOk_cons ok_laws_szIntS allOk_nil) m_laws_szToken (by decide)
def F_laws_szMate : TF := ⟨(.seq (.reg none [.p (.box 2 (.t 0)) .unit,
  .p (.mv 4 (.c (.int .i64 0))) .unit])
 (.seq (.reg none [.p (.fadr 5 (.t 2) 1) .unit,
  .p (.load 6 (.t 5) 2 true) .unit,
  .p (.mv 7 (.t 1)) .unit,
  .p (.callB 8 n_laws_szRing [((.t 6), 0), ((.t 7), 0)]) .unit,
  .p (.mv 1 (.t 8)) .unit])
 (.seq (.seq (.reg none [.p (.mv 9 (.t 1)) .unit,
  .p (.bin 10 false .lss (.t 9) (.c (.int .i64 0))) .unit])
 (.cond (.t 10) (.seq (.reg none [.p (.mv 4 (.c (.int .i64 (-1)))) .unit])
 .ret) .skip))
 (.seq (.reg none [.p (.fadr 11 (.t 2) 3) .unit,
  .p (.load 12 (.t 11) 1 false) .unit,
  .p (.mv 13 (.t 1)) .unit,
  .p (.callB 14 n_laws_szItemS [((.t 12), 0), ((.t 13), 0)]) .unit,
  .p (.mv 1 (.t 14)) .unit])
 (.seq (.seq (.reg none [.p (.mv 15 (.t 1)) .unit,
  .p (.bin 16 false .lss (.t 15) (.c (.int .i64 0))) .unit])
 (.cond (.t 16) (.seq (.reg none [.p (.mv 4 (.c (.int .i64 (-1)))) .unit])
 .ret) .skip))
 (.seq (.reg none [.p (.fadr 17 (.t 2) 4) .unit,
  .p (.load 18 (.t 17) 1 false) .unit,
  .p (.mv 19 (.t 1)) .unit,
  .p (.callB 20 n_laws_szIntS [((.t 18), 0), ((.t 19), 0)]) .unit,
  .p (.mv 1 (.t 20)) .unit])
 (.seq (.seq (.reg none [.p (.mv 21 (.t 1)) .unit,
  .p (.bin 22 false .lss (.t 21) (.c (.int .i64 0))) .unit])
 (.cond (.t 22) (.seq (.reg none [.p (.mv 4 (.c (.int .i64 (-1)))) .unit])
 .ret) .skip))
 (.seq (.reg none [.p (.fadr 23 (.t 2) 5) .unit,
  .p (.load 24 (.t 23) 1 false) .unit,
  .p (.mv 25 (.t 1)) .unit,
  .p (.callB 26 n_laws_szStringS [((.t 24), 0), ((.t 25), 0)]) .unit,
  .p (.mv 1 (.t 26)) .unit])
 (.seq (.seq (.reg none [.p (.mv 27 (.t 1)) .unit,
  .p (.bin 28 false .lss (.t 27) (.c (.int .i64 0))) .unit])
 (.cond (.t 28) (.seq (.reg none [.p (.mv 4 (.c (.int .i64 (-1)))) .unit])
 .ret) .skip))
 (.seq (.reg none [.p (.fadr 29 (.t 2) 10) .unit,
  .p (.load 30 (.t 29) 6 true) .unit,
  .p (.mv 31 (.t 1)) .unit,
  .p (.callB 32 n_laws_szToken [((.t 30), 0), ((.t 31), 0)]) .unit,
  .p (.mv 1 (.t 32)) .unit])
 (.seq (.seq (.reg none [.p (.mv 33 (.t 1)) .unit,
  .p (.bin 34 false .lss (.t 33) (.c (.int .i64 0))) .unit])
 (.cond (.t 34) (.seq (.reg none [.p (.mv 4 (.c (.int .i64 (-1)))) .unit])
 .ret) .skip))
 (.seq (.reg none [.p (.mv 35 (.t 1)) .unit,
  .p (.mv 4 (.t 35)) .unit])
 .ret)))))))))))),
 36, 2, [.t 4]⟩
theorem m_laws_szMate : mH Try.prog 167 [] = some (F_laws_szMate.code.x, F_laws_szMate.N, F_laws_szMate.np, F_laws_szMate.res) := by kernel_rfl
noncomputable def T_laws_szMate : (Int × (Int × List (Int)) × List (Int × Int × Int × List UInt8) × List (Int) × List (List UInt8) × Int × Int × Int × Int × Int × Int × Int × Int × Int × List (Int)) × Int → Option (Int) := evF [fn_laws_szRing, fn_laws_szItemS, fn_laws_szIntS, fn_laws_szStringS, fn_laws_szToken] F_laws_szMate [.agg (.pair (.int .i64) (.pair (.pair (.int .i64) (.sl false (.int .i64))) (.pair (.sl false (.pair (.int .i64) (.pair (.int .i64) (.pair (.int .i64) .str)))) (.pair (.sl false (.int .i64)) (.pair (.sl false .str) (.pair (.int .i64) (.pair (.int .i64) (.pair (.int .i64) (.pair (.int .i64) (.pair (.int .i64) (.pair (.int .i64) (.pair (.int .i64) (.pair (.int .i64) (.pair (.int .i64) (.sl false (.int .i64)))))))))))))))), .cell (.int .i64)] [] [.cell (.int .i64)] []
noncomputable def fn_laws_szMate : TFn := ⟨167, [.agg (.pair (.int .i64) (.pair (.pair (.int .i64) (.sl false (.int .i64))) (.pair (.sl false (.pair (.int .i64) (.pair (.int .i64) (.pair (.int .i64) .str)))) (.pair (.sl false (.int .i64)) (.pair (.sl false .str) (.pair (.int .i64) (.pair (.int .i64) (.pair (.int .i64) (.pair (.int .i64) (.pair (.int .i64) (.pair (.int .i64) (.pair (.int .i64) (.pair (.int .i64) (.pair (.int .i64) (.sl false (.int .i64)))))))))))))))), .cell (.int .i64)], [], [.cell (.int .i64)], [], T_laws_szMate⟩
theorem ok_laws_szMate : FnOk Try.prog fn_laws_szMate := evF_ok mixed (allOk_cons ok_laws_szRing (allOk_cons ok_laws_szItemS (allOk_cons ok_laws_szIntS (allOk_cons ok_laws_szStringS (allOk_cons ok_laws_szToken allOk_nil))))) m_laws_szMate (by decide)
def F_laws_szBundle : TF := ⟨(.seq (.reg none [.p (.box 2 (.t 0)) .unit,
  .p (.mv 4 (.c (.int .i64 0))) .unit])
 (.seq (.reg none [.p (.fadr 5 (.t 2) 3) .unit,
  .p (.load 6 (.t 5) 1 false) .unit,
  .p (.mv 7 (.t 1)) .unit,
  .p (.callB 8 n_laws_szItemS [((.t 6), 0), ((.t 7), 0)]) .unit,
  .p (.mv 1 (.t 8)) .unit])
 (.seq (.seq (.reg none [.p (.mv 9 (.t 1)) .unit,
  .p (.bin 10 false .lss (.t 9) (.c (.int .i64 0))) .unit])
 (.cond (.t 10) (.seq (.reg none [.p (.mv 4 (.c (.int .i64 (-1)))) .unit])
 .ret) .skip))
 (.seq (.reg none [.p (.mv 11 (.t 1)) .unit,
  .p (.mv 4 (.t 11)) .unit])
 .ret)))),
 12, 2, [.t 4]⟩
theorem m_laws_szBundle : mH Try.prog 171 [] = some (F_laws_szBundle.code.x, F_laws_szBundle.N, F_laws_szBundle.np, F_laws_szBundle.res) := by kernel_rfl
noncomputable def T_laws_szBundle : (Int × Int × Int × List (Int × Int × Int × List UInt8)) × Int → Option (Int) := evF [fn_laws_szItemS] F_laws_szBundle [.agg (.pair (.int .i64) (.pair (.int .i64) (.pair (.int .i64) (.sl false (.pair (.int .i64) (.pair (.int .i64) (.pair (.int .i64) .str))))))), .cell (.int .i64)] [] [.cell (.int .i64)] []
noncomputable def fn_laws_szBundle : TFn := ⟨171, [.agg (.pair (.int .i64) (.pair (.int .i64) (.pair (.int .i64) (.sl false (.pair (.int .i64) (.pair (.int .i64) (.pair (.int .i64) .str))))))), .cell (.int .i64)], [], [.cell (.int .i64)], [], T_laws_szBundle⟩
theorem ok_laws_szBundle : FnOk Try.prog fn_laws_szBundle := evF_ok mixed (allOk_cons ok_laws_szItemS allOk_nil) m_laws_szBundle (by decide)
def B_laws_szBundleS_1 : TC := (.seq (.seq (.reg none [.p (.mv 12 (.t 5)) .unit,
  .p (.mv 13 (.t 0)) .unit,
  .p (.lenB 14 (.t 13)) .unit,
  .p (.bin 15 false .lss (.t 12) (.t 14)) .unit])
 (.cond (.t 15) .skip (.exit 0)))
 (.seq (.block 1 (.seq (.reg none [.p (.mv 18 (.t 0)) .unit,
  .p (.mv 19 (.t 5)) .unit,
  .p (.iadr 20 4 (.t 18) (.t 19)) .unit,
  .p (.load 21 (.t 20) 4 true) .unit,
  .p (.mv 22 (.t 1)) .unit,
  .p (.callB 23 n_laws_szBundle [((.t 21), 0), ((.t 22), 0)]) .unit,
  .p (.mv 1 (.t 23)) .unit])
 (.seq (.reg none [.p (.mv 24 (.t 1)) .unit,
  .p (.bin 25 false .lss (.t 24) (.c (.int .i64 0))) .unit])
 (.cond (.t 25) (.seq (.reg none [.p (.mv 4 (.c (.int .i64 (-1)))) .unit])
 .ret) .skip))))
 (.reg none [.p (.mv 16 (.t 5)) .unit,
  .p (.bin 17 false .add (.t 16) (.c (.int .i64 1))) .unit,
  .p (.mv 5 (.t 17)) .unit])))
noncomputable def L_laws_szBundleS_1 : Nat → (List (Int × Int × Int × List (Int × Int × Int × List UInt8))) × (Int) × Int → Option ((Int) ⊕ (Int)) := evL [fn_laws_szBundle] (finT [.t 4] [] [.cell (.int .i64)]) 0 ⟨[(0, true), (1, false), (5, false)], [.cell (.sl false (.pair (.int .i64) (.pair (.int .i64) (.pair (.int .i64) (.sl false (.pair (.int .i64) (.pair (.int .i64) (.pair (.int .i64) .str)))))))), .cell (.int .i64), .cell (.int .i64)]⟩ ⟨[(1, false)], [.cell (.int .i64)]⟩ B_laws_szBundleS_1
def F_laws_szBundleS : TF := ⟨(.seq (.reg none [.p (.mv 4 (.c (.int .i64 0))) .unit])
 (.seq (.reg none [.p (.mv 6 (.t 1)) .unit,
  .p (.mv 7 (.t 0)) .unit,
  .p (.lenB 8 (.t 7)) .unit,
  .p (.bin 9 false .sub (.t 6) (.t 8)) .unit,
  .p (.mv 1 (.t 9)) .unit])
 (.seq (.seq (.reg none [.p (.mv 10 (.t 1)) .unit,
  .p (.bin 11 false .lss (.t 10) (.c (.int .i64 0))) .unit])
 (.cond (.t 11) (.seq (.reg none [.p (.mv 4 (.c (.int .i64 (-1)))) .unit])
 .ret) .skip))
 (.seq (.seq (.reg none [.p (.mv 5 (.c (.int .i64 0))) .unit])
 (.jl 0 ⟨[(0, true), (1, false), (5, false)], [.cell (.sl false (.pair (.int .i64) (.pair (.int .i64) (.pair (.int .i64) (.sl false (.pair (.int .i64) (.pair (.int .i64) (.pair (.int .i64) .str)))))))), .cell (.int .i64), .cell (.int .i64)]⟩ ⟨[(1, false)], [.cell (.int .i64)]⟩ B_laws_szBundleS_1))
 (.seq (.reg none [.p (.mv 26 (.t 1)) .unit,
  .p (.mv 4 (.t 26)) .unit])
 .ret))))),
 27, 2, [.t 4]⟩
theorem m_laws_szBundleS : mH Try.prog 168 [] = some (F_laws_szBundleS.code.x, F_laws_szBundleS.N, F_laws_szBundleS.np, F_laws_szBundleS.res) := by kernel_rfl
noncomputable def T_laws_szBundleS : (List (Int × Int × Int × List (Int × Int × Int × List UInt8))) × Int → Option (Int) := evF [fn_laws_szBundle] F_laws_szBundleS [.cell (.sl false (.pair (.int .i64) (.pair (.int .i64) (.pair (.int .i64) (.sl false (.pair (.int .i64) (.pair (.int .i64) (.pair (.int .i64) .str)))))))), .cell (.int .i64)] [] [.cell (.int .i64)] []
noncomputable def fn_laws_szBundleS : TFn := ⟨168, [.cell (.sl false (.pair (.int .i64) (.pair (.int .i64) (.pair (.int .i64) (.sl false (.pair (.int .i64) (.pair (.int .i64) (.pair (.int .i64) .str)))))))), .cell (.int .i64)], [], [.cell (.int .i64)], [], T_laws_szBundleS⟩
theorem ok_laws_szBundleS : FnOk Try.prog fn_laws_szBundleS := evF_ok mixed (allOk_cons ok_laws_szBundle allOk_nil) m_laws_szBundleS (by decide)
def F_laws_szEvent : TF := ⟨(.seq (.reg none [.p (.box 2 (.t 0)) .unit,
  .p (.mv 4 (.c (.int .i64 0))) .unit])
 (.seq (.reg none [.p (.fadr 5 (.t 2) 1) .unit,
  .p (.load 6 (.t 5) 2 true) .unit,
  .p (.mv 7 (.t 1)) .unit,
  .p (.callB 8 n_laws_szRing [((.t 6), 0), ((.t 7), 0)]) .unit,
  .p (.mv 1 (.t 8)) .unit])
 (.seq (.seq (.reg none [.p (.mv 9 (.t 1)) .unit,
  .p (.bin 10 false .lss (.t 9) (.c (.int .i64 0))) .unit])
 (.cond (.t 10) (.seq (.reg none [.p (.mv 4 (.c (.int .i64 (-1)))) .unit])
 .ret) .skip))
 (.seq (.reg none [.p (.fadr 11 (.t 2) 3) .unit,
  .p (.load 12 (.t 11) 4 true) .unit,
  .p (.mv 13 (.t 1)) .unit,
  .p (.callB 14 n_laws_szItem [((.t 12), 0), ((.t 13), 0)]) .unit,
  .p (.mv 1 (.t 14)) .unit])
 (.seq (.seq (.reg none [.p (.mv 15 (.t 1)) .unit,
  .p (.bin 16 false .lss (.t 15) (.c (.int .i64 0))) .unit])
 (.cond (.t 16) (.seq (.reg none [.p (.mv 4 (.c (.int .i64 (-1)))) .unit])
 .ret) .skip))
 (.seq (.reg none [.p (.fadr 17 (.t 2) 7) .unit,
  .p (.load 18 (.t 17) 1 false) .unit,
  .p (.mv 19 (.t 1)) .unit,
  .p (.callB 20 n_laws_szIntS [((.t 18), 0), ((.t 19), 0)]) .unit,
  .p (.mv 1 (.t 20)) .unit])
 (.seq (.seq (.reg none [.p (.mv 21 (.t 1)) .unit,
  .p (.bin 22 false .lss (.t 21) (.c (.int .i64 0))) .unit])
 (.cond (.t 22) (.seq (.reg none [.p (.mv 4 (.c (.int .i64 (-1)))) .unit])
 .ret) .skip))
 (.seq (.reg none [.p (.mv 23 (.t 1)) .unit,
  .p (.mv 4 (.t 23)) .unit])
 .ret)))))))),
 24, 2, [.t 4]⟩
theorem m_laws_szEvent : mH Try.prog 147 [] = some (F_laws_szEvent.code.x, F_laws_szEvent.N, F_laws_szEvent.np, F_laws_szEvent.res) := by kernel_rfl
noncomputable def T_laws_szEvent : (Int × (Int × List (Int)) × (Int × Int × Int × List UInt8) × List (Int)) × Int → Option (Int) := evF [fn_laws_szRing, fn_laws_szItem, fn_laws_szIntS] F_laws_szEvent [.agg (.pair (.int .i64) (.pair (.pair (.int .i64) (.sl false (.int .i64))) (.pair (.pair (.int .i64) (.pair (.int .i64) (.pair (.int .i64) .str))) (.sl false (.int .i64))))), .cell (.int .i64)] [] [.cell (.int .i64)] []
noncomputable def fn_laws_szEvent : TFn := ⟨147, [.agg (.pair (.int .i64) (.pair (.pair (.int .i64) (.sl false (.int .i64))) (.pair (.pair (.int .i64) (.pair (.int .i64) (.pair (.int .i64) .str))) (.sl false (.int .i64))))), .cell (.int .i64)], [], [.cell (.int .i64)], [], T_laws_szEvent⟩
theorem ok_laws_szEvent : FnOk Try.prog fn_laws_szEvent := evF_ok mixed (allOk_cons ok_laws_szRing (allOk_cons ok_laws_szItem (allOk_cons ok_laws_szIntS allOk_nil))) m_laws_szEvent (by decide)
def B_laws_szEventS_1 : TC := (.seq (.seq (.reg none [.p (.mv 12 (.t 5)) .unit,
  .p (.mv 13 (.t 0)) .unit,
  .p (.lenB 14 (.t 13)) .unit,
  .p (.bin 15 false .lss (.t 12) (.t 14)) .unit])
 (.cond (.t 15) .skip (.exit 0)))
 (.seq (.block 1 (.seq (.reg none [.p (.mv 18 (.t 0)) .unit,
  .p (.mv 19 (.t 5)) .unit,
  .p (.iadr 20 8 (.t 18) (.t 19)) .unit,
  .p (.load 21 (.t 20) 8 true) .unit,
  .p (.mv 22 (.t 1)) .unit,
  .p (.callB 23 n_laws_szEvent [((.t 21), 0), ((.t 22), 0)]) .unit,
  .p (.mv 1 (.t 23)) .unit])
 (.seq (.reg none [.p (.mv 24 (.t 1)) .unit,
  .p (.bin 25 false .lss (.t 24) (.c (.int .i64 0))) .unit])
 (.cond (.t 25) (.seq (.reg none [.p (.mv 4 (.c (.int .i64 (-1)))) .unit])
 .ret) .skip))))
 (.reg none [.p (.mv 16 (.t 5)) .unit,
  .p (.bin 17 false .add (.t 16) (.c (.int .i64 1))) .unit,
  .p (.mv 5 (.t 17)) .unit])))
noncomputable def L_laws_szEventS_1 : Nat → (List (Int × (Int × List (Int)) × (Int × Int × Int × List UInt8) × List (Int))) × (Int) × Int → Option ((Int) ⊕ (Int)) := evL [fn_laws_szEvent] (finT [.t 4] [] [.cell (.int .i64)]) 0 ⟨[(0, true), (1, false), (5, false)], [.cell (.sl false (.pair (.int .i64) (.pair (.pair (.int .i64) (.sl false (.int .i64))) (.pair (.pair (.int .i64) (.pair (.int .i64) (.pair (.int .i64) .str))) (.sl false (.int .i64)))))), .cell (.int .i64), .cell (.int .i64)]⟩ ⟨[(1, false)], [.cell (.int .i64)]⟩ B_laws_szEventS_1
def F_laws_szEventS : TF := ⟨(.seq (.reg none [.p (.mv 4 (.c (.int .i64 0))) .unit])
 (.seq (.reg none [.p (.mv 6 (.t 1)) .unit,
  .p (.mv 7 (.t 0)) .unit,
  .p (.lenB 8 (.t 7)) .unit,
  .p (.bin 9 false .sub (.t 6) (.t 8)) .unit,
  .p (.mv 1 (.t 9)) .unit])
 (.seq (.seq (.reg none [.p (.mv 10 (.t 1)) .unit,
  .p (.bin 11 false .lss (.t 10) (.c (.int .i64 0))) .unit])
 (.cond (.t 11) (.seq (.reg none [.p (.mv 4 (.c (.int .i64 (-1)))) .unit])
 .ret) .skip))
 (.seq (.seq (.reg none [.p (.mv 5 (.c (.int .i64 0))) .unit])
 (.jl 0 ⟨[(0, true), (1, false), (5, false)], [.cell (.sl false (.pair (.int .i64) (.pair (.pair (.int .i64) (.sl false (.int .i64))) (.pair (.pair (.int .i64) (.pair (.int .i64) (.pair (.int .i64) .str))) (.sl false (.int .i64)))))), .cell (.int .i64), .cell (.int .i64)]⟩ ⟨[(1, false)], [.cell (.int .i64)]⟩ B_laws_szEventS_1))
 (.seq (.reg none [.p (.mv 26 (.t 1)) .unit,
  .p (.mv 4 (.t 26)) .unit])
 .ret))))),
 27, 2, [.t 4]⟩
theorem m_laws_szEventS : mH Try.prog 113 [] = some (F_laws_szEventS.code.x, F_laws_szEventS.N, F_laws_szEventS.np, F_laws_szEventS.res) := by kernel_rfl
noncomputable def T_laws_szEventS : (List (Int × (Int × List (Int)) × (Int × Int × Int × List UInt8) × List (Int))) × Int → Option (Int) := evF [fn_laws_szEvent] F_laws_szEventS [.cell (.sl false (.pair (.int .i64) (.pair (.pair (.int .i64) (.sl false (.int .i64))) (.pair (.pair (.int .i64) (.pair (.int .i64) (.pair (.int .i64) .str))) (.sl false (.int .i64)))))), .cell (.int .i64)] [] [.cell (.int .i64)] []
noncomputable def fn_laws_szEventS : TFn := ⟨113, [.cell (.sl false (.pair (.int .i64) (.pair (.pair (.int .i64) (.sl false (.int .i64))) (.pair (.pair (.int .i64) (.pair (.int .i64) (.pair (.int .i64) .str))) (.sl false (.int .i64)))))), .cell (.int .i64)], [], [.cell (.int .i64)], [], T_laws_szEventS⟩
theorem ok_laws_szEventS : FnOk Try.prog fn_laws_szEventS := evF_ok mixed (allOk_cons ok_laws_szEvent allOk_nil) m_laws_szEventS (by decide)
def F_laws_szDaemon : TF := ⟨(.seq (.reg none [.p (.box 2 (.t 0)) .unit,
  .p (.mv 4 (.c (.int .i64 0))) .unit])
 (.seq (.reg none [.p (.fadr 5 (.t 2) 2) .unit,
  .p (.load 6 (.t 5) 16 true) .unit,
  .p (.mv 7 (.t 1)) .unit,
  .p (.callB 8 n_laws_szMate [((.t 6), 0), ((.t 7), 0)]) .unit,
  .p (.mv 1 (.t 8)) .unit])
 (.seq (.seq (.reg none [.p (.mv 9 (.t 1)) .unit,
  .p (.bin 10 false .lss (.t 9) (.c (.int .i64 0))) .unit])
 (.cond (.t 10) (.seq (.reg none [.p (.mv 4 (.c (.int .i64 (-1)))) .unit])
 .ret) .skip))
 (.seq (.reg none [.p (.fadr 11 (.t 2) 20) .unit,
  .p (.load 12 (.t 11) 2 true) .unit,
  .p (.mv 13 (.t 1)) .unit,
  .p (.callB 14 n_laws_szRing [((.t 12), 0), ((.t 13), 0)]) .unit,
  .p (.mv 1 (.t 14)) .unit])
 (.seq (.seq (.reg none [.p (.mv 15 (.t 1)) .unit,
  .p (.bin 16 false .lss (.t 15) (.c (.int .i64 0))) .unit])
 (.cond (.t 16) (.seq (.reg none [.p (.mv 4 (.c (.int .i64 (-1)))) .unit])
 .ret) .skip))
 (.seq (.reg none [.p (.fadr 17 (.t 2) 22) .unit,
  .p (.load 18 (.t 17) 1 false) .unit,
  .p (.mv 19 (.t 1)) .unit,
  .p (.callB 20 n_laws_szBundleS [((.t 18), 0), ((.t 19), 0)]) .unit,
  .p (.mv 1 (.t 20)) .unit])
 (.seq (.seq (.reg none [.p (.mv 21 (.t 1)) .unit,
  .p (.bin 22 false .lss (.t 21) (.c (.int .i64 0))) .unit])
 (.cond (.t 22) (.seq (.reg none [.p (.mv 4 (.c (.int .i64 (-1)))) .unit])
 .ret) .skip))
 (.seq (.reg none [.p (.fadr 23 (.t 2) 23) .unit,
  .p (.load 24 (.t 23) 1 false) .unit,
  .p (.mv 25 (.t 1)) .unit,
  .p (.callB 26 n_laws_szEventS [((.t 24), 0), ((.t 25), 0)]) .unit,
  .p (.mv 1 (.t 26)) .unit])
 (.seq (.seq (.reg none [.p (.mv 27 (.t 1)) .unit,
  .p (.bin 28 false .lss (.t 27) (.c (.int .i64 0))) .unit])
 (.cond (.t 28) (.seq (.reg none [.p (.mv 4 (.c (.int .i64 (-1)))) .unit])
 .ret) .skip))
 (.seq (.reg none [.p (.mv 29 (.t 1)) .unit,
  .p (.mv 4 (.t 29)) .unit])
 .ret)))))))))),
 30, 2, [.t 4]⟩
theorem m_laws_szDaemon : mH Try.prog 145 [] = some (F_laws_szDaemon.code.x, F_laws_szDaemon.N, F_laws_szDaemon.np, F_laws_szDaemon.res) := by kernel_rfl
noncomputable def T_laws_szDaemon : (Int × Bool × (Int × (Int × List (Int)) × List (Int × Int × Int × List UInt8) × List (Int) × List (List UInt8) × Int × Int × Int × Int × Int × Int × Int × Int × Int × List (Int)) × Int × Int × (Int × List (Int)) × List (Int × Int × Int × List (Int × Int × Int × List UInt8)) × List (Int × (Int × List (Int)) × (Int × Int × Int × List UInt8) × List (Int))) × Int → Option (Int) := evF [fn_laws_szMate, fn_laws_szRing, fn_laws_szBundleS, fn_laws_szEventS] F_laws_szDaemon [.agg (.pair (.int .i64) (.pair .bool (.pair (.pair (.int .i64) (.pair (.pair (.int .i64) (.sl false (.int .i64))) (.pair (.sl false (.pair (.int .i64) (.pair (.int .i64) (.pair (.int .i64) .str)))) (.pair (.sl false (.int .i64)) (.pair (.sl false .str) (.pair (.int .i64) (.pair (.int .i64) (.pair (.int .i64) (.pair (.int .i64) (.pair (.int .i64) (.pair (.int .i64) (.pair (.int .i64) (.pair (.int .i64) (.pair (.int .i64) (.sl false (.int .i64)))))))))))))))) (.pair (.int .i64) (.pair (.int .i64) (.pair (.pair (.int .i64) (.sl false (.int .i64))) (.pair (.sl false (.pair (.int .i64) (.pair (.int .i64) (.pair (.int .i64) (.sl false (.pair (.int .i64) (.pair (.int .i64) (.pair (.int .i64) .str)))))))) (.sl false (.pair (.int .i64) (.pair (.pair (.int .i64) (.sl false (.int .i64))) (.pair (.pair (.int .i64) (.pair (.int .i64) (.pair (.int .i64) .str))) (.sl false (.int .i64))))))))))))), .cell (.int .i64)] [] [.cell (.int .i64)] []
noncomputable def fn_laws_szDaemon : TFn := ⟨145, [.agg (.pair (.int .i64) (.pair .bool (.pair (.pair (.int .i64) (.pair (.pair (.int .i64) (.sl false (.int .i64))) (.pair (.sl false (.pair (.int .i64) (.pair (.int .i64) (.pair (.int .i64) .str)))) (.pair (.sl false (.int .i64)) (.pair (.sl false .str) (.pair (.int .i64) (.pair (.int .i64) (.pair (.int .i64) (.pair (.int .i64) (.pair (.int .i64) (.pair (.int .i64) (.pair (.int .i64) (.pair (.int .i64) (.pair (.int .i64) (.sl false (.int .i64)))))))))))))))) (.pair (.int .i64) (.pair (.int .i64) (.pair (.pair (.int .i64) (.sl false (.int .i64))) (.pair (.sl false (.pair (.int .i64) (.pair (.int .i64) (.pair (.int .i64) (.sl false (.pair (.int .i64) (.pair (.int .i64) (.pair (.int .i64) .str)))))))) (.sl false (.pair (.int .i64) (.pair (.pair (.int .i64) (.sl false (.int .i64))) (.pair (.pair (.int .i64) (.pair (.int .i64) (.pair (.int .i64) .str))) (.sl false (.int .i64))))))))))))), .cell (.int .i64)], [], [.cell (.int .i64)], [], T_laws_szDaemon⟩
theorem ok_laws_szDaemon : FnOk Try.prog fn_laws_szDaemon := evF_ok mixed (allOk_cons ok_laws_szMate (allOk_cons ok_laws_szRing (allOk_cons ok_laws_szBundleS (allOk_cons ok_laws_szEventS allOk_nil)))) m_laws_szDaemon (by decide)
def B_laws_szDaemonS_1 : TC := (.seq (.seq (.reg none [.p (.mv 12 (.t 5)) .unit,
  .p (.mv 13 (.t 0)) .unit,
  .p (.lenB 14 (.t 13)) .unit,
  .p (.bin 15 false .lss (.t 12) (.t 14)) .unit])
 (.cond (.t 15) .skip (.exit 0)))
 (.seq (.block 1 (.seq (.reg none [.p (.mv 18 (.t 0)) .unit,
  .p (.mv 19 (.t 5)) .unit,
  .p (.iadr 20 24 (.t 18) (.t 19)) .unit,
  .p (.load 21 (.t 20) 24 true) .unit,
  .p (.mv 22 (.t 1)) .unit,
  .p (.callB 23 n_laws_szDaemon [((.t 21), 0), ((.t 22), 0)]) .unit,
  .p (.mv 1 (.t 23)) .unit])
 (.seq (.reg none [.p (.mv 24 (.t 1)) .unit,
  .p (.bin 25 false .lss (.t 24) (.c (.int .i64 0))) .unit])
 (.cond (.t 25) (.seq (.reg none [.p (.mv 4 (.c (.int .i64 (-1)))) .unit])
 .ret) .skip))))
 (.reg none [.p (.mv 16 (.t 5)) .unit,
  .p (.bin 17 false .add (.t 16) (.c (.int .i64 1))) .unit,
  .p (.mv 5 (.t 17)) .unit])))
noncomputable def L_laws_szDaemonS_1 : Nat → (List (Int × Bool × (Int × (Int × List (Int)) × List (Int × Int × Int × List UInt8) × List (Int) × List (List UInt8) × Int × Int × Int × Int × Int × Int × Int × Int × Int × List (Int)) × Int × Int × (Int × List (Int)) × List (Int × Int × Int × List (Int × Int × Int × List UInt8)) × List (Int × (Int × List (Int)) × (Int × Int × Int × List UInt8) × List (Int)))) × (Int) × Int → Option ((Int) ⊕ (Int)) := evL [fn_laws_szDaemon] (finT [.t 4] [] [.cell (.int .i64)]) 0 ⟨[(0, true), (1, false), (5, false)], [.cell (.sl false (.pair (.int .i64) (.pair .bool (.pair (.pair (.int .i64) (.pair (.pair (.int .i64) (.sl false (.int .i64))) (.pair (.sl false (.pair (.int .i64) (.pair (.int .i64) (.pair (.int .i64) .str)))) (.pair (.sl false (.int .i64)) (.pair (.sl false .str) (.pair (.int .i64) (.pair (.int .i64) (.pair (.int .i64) (.pair (.int .i64) (.pair (.int .i64) (.pair (.int .i64) (.pair (.int .i64) (.pair (.int .i64) (.pair (.int .i64) (.sl false (.int .i64)))))))))))))))) (.pair (.int .i64) (.pair (.int .i64) (.pair (.pair (.int .i64) (.sl false (.int .i64))) (.pair (.sl false (.pair (.int .i64) (.pair (.int .i64) (.pair (.int .i64) (.sl false (.pair (.int .i64) (.pair (.int .i64) (.pair (.int .i64) .str)))))))) (.sl false (.pair (.int .i64) (.pair (.pair (.int .i64) (.sl false (.int .i64))) (.pair (.pair (.int .i64) (.pair (.int .i64) (.pair (.int .i64) .str))) (.sl false (.int .i64)))))))))))))), .cell (.int .i64), .cell (.int .i64)]⟩ ⟨[(1, false)], [.cell (.int .i64)]⟩ B_laws_szDaemonS_1
def F_laws_szDaemonS : TF := ⟨(.seq (.reg none [.p (.mv 4 (.c (.int .i64 0))) .unit])
 (.seq (.reg none [.p (.mv 6 (.t 1)) .unit,
  .p (.mv 7 (.t 0)) .unit,
  .p (.lenB 8 (.t 7)) .unit,
  .p (.bin 9 false .sub (.t 6) (.t 8)) .unit,
  .p (.mv 1 (.t 9)) .unit])
 (.seq (.seq (.reg none [.p (.mv 10 (.t 1)) .unit,
  .p (.bin 11 false .lss (.t 10) (.c (.int .i64 0))) .unit])
 (.cond (.t 11) (.seq (.reg none [.p (.mv 4 (.c (.int .i64 (-1)))) .unit])
 .ret) .skip))
 (.seq (.seq (.reg none [.p (.mv 5 (.c (.int .i64 0))) .unit])
 (.jl 0 ⟨[(0, true), (1, false), (5, false)], [.cell (.sl false (.pair (.int .i64) (.pair .bool (.pair (.pair (.int .i64) (.pair (.pair (.int .i64) (.sl false (.int .i64))) (.pair (.sl false (.pair (.int .i64) (.pair (.int .i64) (.pair (.int .i64) .str)))) (.pair (.sl false (.int .i64)) (.pair (.sl false .str) (.pair (.int .i64) (.pair (.int .i64) (.pair (.int .i64) (.pair (.int .i64) (.pair (.int .i64) (.pair (.int .i64) (.pair (.int .i64) (.pair (.int .i64) (.pair (.int .i64) (.sl false (.int .i64)))))))))))))))) (.pair (.int .i64) (.pair (.int .i64) (.pair (.pair (.int .i64) (.sl false (.int .i64))) (.pair (.sl false (.pair (.int .i64) (.pair (.int .i64) (.pair (.int .i64) (.sl false (.pair (.int .i64) (.pair (.int .i64) (.pair (.int .i64) .str)))))))) (.sl false (.pair (.int .i64) (.pair (.pair (.int .i64) (.sl false (.int .i64))) (.pair (.pair (.int .i64) (.pair (.int .i64) (.pair (.int .i64) .str))) (.sl false (.int .i64)))))))))))))), .cell (.int .i64), .cell (.int .i64)]⟩ ⟨[(1, false)], [.cell (.int .i64)]⟩ B_laws_szDaemonS_1))
 (.seq (.reg none [.p (.mv 26 (.t 1)) .unit,
  .p (.mv 4 (.t 26)) .unit])
 .ret))))),
 27, 2, [.t 4]⟩
theorem m_laws_szDaemonS : mH Try.prog 111 [] = some (F_laws_szDaemonS.code.x, F_laws_szDaemonS.N, F_laws_szDaemonS.np, F_laws_szDaemonS.res) := by kernel_rfl
noncomputable def T_laws_szDaemonS : (List (Int × Bool × (Int × (Int × List (Int)) × List (Int × Int × Int × List UInt8) × List (Int) × List (List UInt8) × Int × Int × Int × Int × Int × Int × Int × Int × Int × List (Int)) × Int × Int × (Int × List (Int)) × List (Int × Int × Int × List (Int × Int × Int × List UInt8)) × List (Int × (Int × List (Int)) × (Int × Int × Int × List UInt8) × List (Int)))) × Int → Option (Int) := evF [fn_laws_szDaemon] F_laws_szDaemonS [.cell (.sl false (.pair (.int .i64) (.pair .bool (.pair (.pair (.int .i64) (.pair (.pair (.int .i64) (.sl false (.int .i64))) (.pair (.sl false (.pair (.int .i64) (.pair (.int .i64) (.pair (.int .i64) .str)))) (.pair (.sl false (.int .i64)) (.pair (.sl false .str) (.pair (.int .i64) (.pair (.int .i64) (.pair (.int .i64) (.pair (.int .i64) (.pair (.int .i64) (.pair (.int .i64) (.pair (.int .i64) (.pair (.int .i64) (.pair (.int .i64) (.sl false (.int .i64)))))))))))))))) (.pair (.int .i64) (.pair (.int .i64) (.pair (.pair (.int .i64) (.sl false (.int .i64))) (.pair (.sl false (.pair (.int .i64) (.pair (.int .i64) (.pair (.int .i64) (.sl false (.pair (.int .i64) (.pair (.int .i64) (.pair (.int .i64) .str)))))))) (.sl false (.pair (.int .i64) (.pair (.pair (.int .i64) (.sl false (.int .i64))) (.pair (.pair (.int .i64) (.pair (.int .i64) (.pair (.int .i64) .str))) (.sl false (.int .i64)))))))))))))), .cell (.int .i64)] [] [.cell (.int .i64)] []
noncomputable def fn_laws_szDaemonS : TFn := ⟨111, [.cell (.sl false (.pair (.int .i64) (.pair .bool (.pair (.pair (.int .i64) (.pair (.pair (.int .i64) (.sl false (.int .i64))) (.pair (.sl false (.pair (.int .i64) (.pair (.int .i64) (.pair (.int .i64) .str)))) (.pair (.sl false (.int .i64)) (.pair (.sl false .str) (.pair (.int .i64) (.pair (.int .i64) (.pair (.int .i64) (.pair (.int .i64) (.pair (.int .i64) (.pair (.int .i64) (.pair (.int .i64) (.pair (.int .i64) (.pair (.int .i64) (.sl false (.int .i64)))))))))))))))) (.pair (.int .i64) (.pair (.int .i64) (.pair (.pair (.int .i64) (.sl false (.int .i64))) (.pair (.sl false (.pair (.int .i64) (.pair (.int .i64) (.pair (.int .i64) (.sl false (.pair (.int .i64) (.pair (.int .i64) (.pair (.int .i64) .str)))))))) (.sl false (.pair (.int .i64) (.pair (.pair (.int .i64) (.sl false (.int .i64))) (.pair (.pair (.int .i64) (.pair (.int .i64) (.pair (.int .i64) .str))) (.sl false (.int .i64)))))))))))))), .cell (.int .i64)], [], [.cell (.int .i64)], [], T_laws_szDaemonS⟩
theorem ok_laws_szDaemonS : FnOk Try.prog fn_laws_szDaemonS := evF_ok mixed (allOk_cons ok_laws_szDaemon allOk_nil) m_laws_szDaemonS (by decide)
def F_laws_szLetter : TF := ⟨(.seq (.reg none [.p (.box 2 (.t 0)) .unit,
  .p (.mv 4 (.c (.int .i64 0))) .unit])
 (.seq (.reg none [.p (.fadr 5 (.t 2) 3) .unit,
  .p (.load 6 (.t 5) 4 true) .unit,
  .p (.mv 7 (.t 1)) .unit,
  .p (.callB 8 n_laws_szItem [((.t 6), 0), ((.t 7), 0)]) .unit,
  .p (.mv 1 (.t 8)) .unit])
 (.seq (.seq (.reg none [.p (.mv 9 (.t 1)) .unit,
  .p (.bin 10 false .lss (.t 9) (.c (.int .i64 0))) .unit])
 (.cond (.t 10) (.seq (.reg none [.p (.mv 4 (.c (.int .i64 (-1)))) .unit])
 .ret) .skip))
 (.seq (.reg none [.p (.fadr 11 (.t 2) 7) .unit,
  .p (.load 12 (.t 11) 6 true) .unit,
  .p (.mv 13 (.t 1)) .unit,
  .p (.callB 14 n_laws_szToken [((.t 12), 0), ((.t 13), 0)]) .unit,
  .p (.mv 1 (.t 14)) .unit])
 (.seq (.seq (.reg none [.p (.mv 15 (.t 1)) .unit,
  .p (.bin 16 false .lss (.t 15) (.c (.int .i64 0))) .unit])
 (.cond (.t 16) (.seq (.reg none [.p (.mv 4 (.c (.int .i64 (-1)))) .unit])
 .ret) .skip))
 (.seq (.reg none [.p (.fadr 17 (.t 2) 13) .unit,
  .p (.load 18 (.t 17) 4 true) .unit,
  .p (.mv 19 (.t 1)) .unit,
  .p (.callB 20 n_laws_szBundle [((.t 18), 0), ((.t 19), 0)]) .unit,
  .p (.mv 1 (.t 20)) .unit])
 (.seq (.seq (.reg none [.p (.mv 21 (.t 1)) .unit,
  .p (.bin 22 false .lss (.t 21) (.c (.int .i64 0))) .unit])
 (.cond (.t 22) (.seq (.reg none [.p (.mv 4 (.c (.int .i64 (-1)))) .unit])
 .ret) .skip))
 (.seq (.reg none [.p (.mv 23 (.t 1)) .unit,
  .p (.mv 4 (.t 23)) .unit])
 .ret)))))))),
 24, 2, [.t 4]⟩
theorem m_laws_szLetter : mH Try.prog 146 [] = some (F_laws_szLetter.code.x, F_laws_szLetter.N, F_laws_szLetter.np, F_laws_szLetter.res) := by kernel_rfl
noncomputable def T_laws_szLetter : (Int × Int × Int × (Int × Int × Int × List UInt8) × (Int × Int × Int × Int × Int × List (Int)) × Int × Int × Int × List (Int × Int × Int × List UInt8)) × Int → Option (Int) := evF [fn_laws_szItem, fn_laws_szToken, fn_laws_szBundle] F_laws_szLetter [.agg (.pair (.int .i64) (.pair (.int .i64) (.pair (.int .i64) (.pair (.pair (.int .i64) (.pair (.int .i64) (.pair (.int .i64) .str))) (.pair (.pair (.int .i64) (.pair (.int .i64) (.pair (.int .i64) (.pair (.int .i64) (.pair (.int .i64) (.sl false (.int .i64))))))) (.pair (.int .i64) (.pair (.int .i64) (.pair (.int .i64) (.sl false (.pair (.int .i64) (.pair (.int .i64) (.pair (.int .i64) .str)))))))))))), .cell (.int .i64)] [] [.cell (.int .i64)] []
noncomputable def fn_laws_szLetter : TFn := ⟨146, [.agg (.pair (.int .i64) (.pair (.int .i64) (.pair (.int .i64) (.pair (.pair (.int .i64) (.pair (.int .i64) (.pair (.int .i64) .str))) (.pair (.pair (.int .i64) (.pair (.int .i64) (.pair (.int .i64) (.pair (.int .i64) (.pair (.int .i64) (.sl false (.int .i64))))))) (.pair (.int .i64) (.pair (.int .i64) (.pair (.int .i64) (.sl false (.pair (.int .i64) (.pair (.int .i64) (.pair (.int .i64) .str)))))))))))), .cell (.int .i64)], [], [.cell (.int .i64)], [], T_laws_szLetter⟩
theorem ok_laws_szLetter : FnOk Try.prog fn_laws_szLetter := evF_ok mixed (allOk_cons ok_laws_szItem (allOk_cons ok_laws_szToken (allOk_cons ok_laws_szBundle allOk_nil))) m_laws_szLetter (by decide)
def B_laws_szLetterS_1 : TC := (.seq (.seq (.reg none [.p (.mv 12 (.t 5)) .unit,
  .p (.mv 13 (.t 0)) .unit,
  .p (.lenB 14 (.t 13)) .unit,
  .p (.bin 15 false .lss (.t 12) (.t 14)) .unit])
 (.cond (.t 15) .skip (.exit 0)))
 (.seq (.block 1 (.seq (.reg none [.p (.mv 18 (.t 0)) .unit,
  .p (.mv 19 (.t 5)) .unit,
  .p (.iadr 20 17 (.t 18) (.t 19)) .unit,
  .p (.load 21 (.t 20) 17 true) .unit,
  .p (.mv 22 (.t 1)) .unit,
  .p (.callB 23 n_laws_szLetter [((.t 21), 0), ((.t 22), 0)]) .unit,
  .p (.mv 1 (.t 23)) .unit])
 (.seq (.reg none [.p (.mv 24 (.t 1)) .unit,
  .p (.bin 25 false .lss (.t 24) (.c (.int .i64 0))) .unit])
 (.cond (.t 25) (.seq (.reg none [.p (.mv 4 (.c (.int .i64 (-1)))) .unit])
 .ret) .skip))))
 (.reg none [.p (.mv 16 (.t 5)) .unit,
  .p (.bin 17 false .add (.t 16) (.c (.int .i64 1))) .unit,
  .p (.mv 5 (.t 17)) .unit])))
noncomputable def L_laws_szLetterS_1 : Nat → (List (Int × Int × Int × (Int × Int × Int × List UInt8) × (Int × Int × Int × Int × Int × List (Int)) × Int × Int × Int × List (Int × Int × Int × List UInt8))) × (Int) × Int → Option ((Int) ⊕ (Int)) := evL [fn_laws_szLetter] (finT [.t 4] [] [.cell (.int .i64)]) 0 ⟨[(0, true), (1, false), (5, false)], [.cell (.sl false (.pair (.int .i64) (.pair (.int .i64) (.pair (.int .i64) (.pair (.pair (.int .i64) (.pair (.int .i64) (.pair (.int .i64) .str))) (.pair (.pair (.int .i64) (.pair (.int .i64) (.pair (.int .i64) (.pair (.int .i64) (.pair (.int .i64) (.sl false (.int .i64))))))) (.pair (.int .i64) (.pair (.int .i64) (.pair (.int .i64) (.sl false (.pair (.int .i64) (.pair (.int .i64) (.pair (.int .i64) .str))))))))))))), .cell (.int .i64), .cell (.int .i64)]⟩ ⟨[(1, false)], [.cell (.int .i64)]⟩ B_laws_szLetterS_1
def F_laws_szLetterS : TF := ⟨(.seq (.reg none [.p (.mv 4 (.c (.int .i64 0))) .unit])
 (.seq (.reg none [.p (.mv 6 (.t 1)) .unit,
  .p (.mv 7 (.t 0)) .unit,
  .p (.lenB 8 (.t 7)) .unit,
  .p (.bin 9 false .sub (.t 6) (.t 8)) .unit,
  .p (.mv 1 (.t 9)) .unit])
 (.seq (.seq (.reg none [.p (.mv 10 (.t 1)) .unit,
  .p (.bin 11 false .lss (.t 10) (.c (.int .i64 0))) .unit])
 (.cond (.t 11) (.seq (.reg none [.p (.mv 4 (.c (.int .i64 (-1)))) .unit])
 .ret) .skip))
 (.seq (.seq (.reg none [.p (.mv 5 (.c (.int .i64 0))) .unit])
 (.jl 0 ⟨[(0, true), (1, false), (5, false)], [.cell (.sl false (.pair (.int .i64) (.pair (.int .i64) (.pair (.int .i64) (.pair (.pair (.int .i64) (.pair (.int .i64) (.pair (.int .i64) .str))) (.pair (.pair (.int .i64) (.pair (.int .i64) (.pair (.int .i64) (.pair (.int .i64) (.pair (.int .i64) (.sl false (.int .i64))))))) (.pair (.int .i64) (.pair (.int .i64) (.pair (.int .i64) (.sl false (.pair (.int .i64) (.pair (.int .i64) (.pair (.int .i64) .str))))))))))))), .cell (.int .i64), .cell (.int .i64)]⟩ ⟨[(1, false)], [.cell (.int .i64)]⟩ B_laws_szLetterS_1))
 (.seq (.reg none [.p (.mv 26 (.t 1)) .unit,
  .p (.mv 4 (.t 26)) .unit])
 .ret))))),
 27, 2, [.t 4]⟩
theorem m_laws_szLetterS : mH Try.prog 112 [] = some (F_laws_szLetterS.code.x, F_laws_szLetterS.N, F_laws_szLetterS.np, F_laws_szLetterS.res) := by kernel_rfl
noncomputable def T_laws_szLetterS : (List (Int × Int × Int × (Int × Int × Int × List UInt8) × (Int × Int × Int × Int × Int × List (Int)) × Int × Int × Int × List (Int × Int × Int × List UInt8))) × Int → Option (Int) := evF [fn_laws_szLetter] F_laws_szLetterS [.cell (.sl false (.pair (.int .i64) (.pair (.int .i64) (.pair (.int .i64) (.pair (.pair (.int .i64) (.pair (.int .i64) (.pair (.int .i64) .str))) (.pair (.pair (.int .i64) (.pair (.int .i64) (.pair (.int .i64) (.pair (.int .i64) (.pair (.int .i64) (.sl false (.int .i64))))))) (.pair (.int .i64) (.pair (.int .i64) (.pair (.int .i64) (.sl false (.pair (.int .i64) (.pair (.int .i64) (.pair (.int .i64) .str))))))))))))), .cell (.int .i64)] [] [.cell (.int .i64)] []
noncomputable def fn_laws_szLetterS : TFn := ⟨112, [.cell (.sl false (.pair (.int .i64) (.pair (.int .i64) (.pair (.int .i64) (.pair (.pair (.int .i64) (.pair (.int .i64) (.pair (.int .i64) .str))) (.pair (.pair (.int .i64) (.pair (.int .i64) (.pair (.int .i64) (.pair (.int .i64) (.pair (.int .i64) (.sl false (.int .i64))))))) (.pair (.int .i64) (.pair (.int .i64) (.pair (.int .i64) (.sl false (.pair (.int .i64) (.pair (.int .i64) (.pair (.int .i64) .str))))))))))))), .cell (.int .i64)], [], [.cell (.int .i64)], [], T_laws_szLetterS⟩
theorem ok_laws_szLetterS : FnOk Try.prog fn_laws_szLetterS := evF_ok mixed (allOk_cons ok_laws_szLetter allOk_nil) m_laws_szLetterS (by decide)
def F_laws_szWorld : TF := ⟨(.seq (.reg none [.p (.box 2 (.t 0)) .unit,
  .p (.mv 4 (.c (.int .i64 0))) .unit])
 (.seq (.reg none [.p (.fadr 5 (.t 2) 0) .unit,
  .p (.load 6 (.t 5) 1 false) .unit,
  .p (.mv 7 (.t 1)) .unit,
  .p (.callB 8 n_laws_szRingS [((.t 6), 0), ((.t 7), 0)]) .unit,
  .p (.mv 1 (.t 8)) .unit])
 (.seq (.seq (.reg none [.p (.mv 9 (.t 1)) .unit,
  .p (.bin 10 false .lss (.t 9) (.c (.int .i64 0))) .unit])
 (.cond (.t 10) (.seq (.reg none [.p (.mv 4 (.c (.int .i64 (-1)))) .unit])
 .ret) .skip))
 (.seq (.reg none [.p (.fadr 11 (.t 2) 1) .unit,
  .p (.load 12 (.t 11) 1 false) .unit,
  .p (.mv 13 (.t 1)) .unit,
  .p (.callB 14 n_laws_szDaemonS [((.t 12), 0), ((.t 13), 0)]) .unit,
  .p (.mv 1 (.t 14)) .unit])
 (.seq (.seq (.reg none [.p (.mv 15 (.t 1)) .unit,
  .p (.bin 16 false .lss (.t 15) (.c (.int .i64 0))) .unit])
 (.cond (.t 16) (.seq (.reg none [.p (.mv 4 (.c (.int .i64 (-1)))) .unit])
 .ret) .skip))
 (.seq (.reg none [.p (.fadr 17 (.t 2) 2) .unit,
  .p (.load 18 (.t 17) 1 false) .unit,
  .p (.mv 19 (.t 1)) .unit,
  .p (.callB 20 n_laws_szLetterS [((.t 18), 0), ((.t 19), 0)]) .unit,
  .p (.mv 1 (.t 20)) .unit])
 (.seq (.seq (.reg none [.p (.mv 21 (.t 1)) .unit,
  .p (.bin 22 false .lss (.t 21) (.c (.int .i64 0))) .unit])
 (.cond (.t 22) (.seq (.reg none [.p (.mv 4 (.c (.int .i64 (-1)))) .unit])
 .ret) .skip))
 (.seq (.reg none [.p (.fadr 23 (.t 2) 3) .unit,
  .p (.load 24 (.t 23) 1 false) .unit,
  .p (.mv 25 (.t 1)) .unit,
  .p (.callB 26 n_laws_szEventS [((.t 24), 0), ((.t 25), 0)]) .unit,
  .p (.mv 1 (.t 26)) .unit])
 (.seq (.seq (.reg none [.p (.mv 27 (.t 1)) .unit,
  .p (.bin 28 false .lss (.t 27) (.c (.int .i64 0))) .unit])
 (.cond (.t 28) (.seq (.reg none [.p (.mv 4 (.c (.int .i64 (-1)))) .unit])
 .ret) .skip))
 (.seq (.reg none [.p (.mv 29 (.t 1)) .unit,
  .p (.mv 4 (.t 29)) .unit])
 .ret)))))))))),
 30, 2, [.t 4]⟩
theorem m_laws_szWorld : mH Try.prog 53 [] = some (F_laws_szWorld.code.x, F_laws_szWorld.N, F_laws_szWorld.np, F_laws_szWorld.res) := by kernel_rfl
noncomputable def T_laws_szWorld : (List (Int × List (Int)) × List (Int × Bool × (Int × (Int × List (Int)) × List (Int × Int × Int × List UInt8) × List (Int) × List (List UInt8) × Int × Int × Int × Int × Int × Int × Int × Int × Int × List (Int)) × Int × Int × (Int × List (Int)) × List (Int × Int × Int × List (Int × Int × Int × List UInt8)) × List (Int × (Int × List (Int)) × (Int × Int × Int × List UInt8) × List (Int))) × List (Int × Int × Int × (Int × Int × Int × List UInt8) × (Int × Int × Int × Int × Int × List (Int)) × Int × Int × Int × List (Int × Int × Int × List UInt8)) × List (Int × (Int × List (Int)) × (Int × Int × Int × List UInt8) × List (Int))) × Int → Option (Int) := evF [fn_laws_szRingS, fn_laws_szDaemonS, fn_laws_szLetterS, fn_laws_szEventS] F_laws_szWorld [.agg (.pair (.sl false (.pair (.int .i64) (.sl false (.int .i64)))) (.pair (.sl false (.pair (.int .i64) (.pair .bool (.pair (.pair (.int .i64) (.pair (.pair (.int .i64) (.sl false (.int .i64))) (.pair (.sl false (.pair (.int .i64) (.pair (.int .i64) (.pair (.int .i64) .str)))) (.pair (.sl false (.int .i64)) (.pair (.sl false .str) (.pair (.int .i64) (.pair (.int .i64) (.pair (.int .i64) (.pair (.int .i64) (.pair (.int .i64) (.pair (.int .i64) (.pair (.int .i64) (.pair (.int .i64) (.pair (.int .i64) (.sl false (.int .i64)))))))))))))))) (.pair (.int .i64) (.pair (.int .i64) (.pair (.pair (.int .i64) (.sl false (.int .i64))) (.pair (.sl false (.pair (.int .i64) (.pair (.int .i64) (.pair (.int .i64) (.sl false (.pair (.int .i64) (.pair (.int .i64) (.pair (.int .i64) .str)))))))) (.sl false (.pair (.int .i64) (.pair (.pair (.int .i64) (.sl false (.int .i64))) (.pair (.pair (.int .i64) (.pair (.int .i64) (.pair (.int .i64) .str))) (.sl false (.int .i64)))))))))))))) (.pair (.sl false (.pair (.int .i64) (.pair (.int .i64) (.pair (.int .i64) (.pair (.pair (.int .i64) (.pair (.int .i64) (.pair (.int .i64) .str))) (.pair (.pair (.int .i64) (.pair (.int .i64) (.pair (.int .i64) (.pair (.int .i64) (.pair (.int .i64) (.sl false (.int .i64))))))) (.pair (.int .i64) (.pair (.int .i64) (.pair (.int .i64) (.sl false (.pair (.int .i64) (.pair (.int .i64) (.pair (.int .i64) .str))))))))))))) (.sl false (.pair (.int .i64) (.pair (.pair (.int .i64) (.sl false (.int .i64))) (.pair (.pair (.int .i64) (.pair (.int .i64) (.pair (.int .i64) .str))) (.sl false (.int .i64))))))))), .cell (.int .i64)] [] [.cell (.int .i64)] []
noncomputable def fn_laws_szWorld : TFn := ⟨53, [.agg (.pair (.sl false (.pair (.int .i64) (.sl false (.int .i64)))) (.pair (.sl false (.pair (.int .i64) (.pair .bool (.pair (.pair (.int .i64) (.pair (.pair (.int .i64) (.sl false (.int .i64))) (.pair (.sl false (.pair (.int .i64) (.pair (.int .i64) (.pair (.int .i64) .str)))) (.pair (.sl false (.int .i64)) (.pair (.sl false .str) (.pair (.int .i64) (.pair (.int .i64) (.pair (.int .i64) (.pair (.int .i64) (.pair (.int .i64) (.pair (.int .i64) (.pair (.int .i64) (.pair (.int .i64) (.pair (.int .i64) (.sl false (.int .i64)))))))))))))))) (.pair (.int .i64) (.pair (.int .i64) (.pair (.pair (.int .i64) (.sl false (.int .i64))) (.pair (.sl false (.pair (.int .i64) (.pair (.int .i64) (.pair (.int .i64) (.sl false (.pair (.int .i64) (.pair (.int .i64) (.pair (.int .i64) .str)))))))) (.sl false (.pair (.int .i64) (.pair (.pair (.int .i64) (.sl false (.int .i64))) (.pair (.pair (.int .i64) (.pair (.int .i64) (.pair (.int .i64) .str))) (.sl false (.int .i64)))))))))))))) (.pair (.sl false (.pair (.int .i64) (.pair (.int .i64) (.pair (.int .i64) (.pair (.pair (.int .i64) (.pair (.int .i64) (.pair (.int .i64) .str))) (.pair (.pair (.int .i64) (.pair (.int .i64) (.pair (.int .i64) (.pair (.int .i64) (.pair (.int .i64) (.sl false (.int .i64))))))) (.pair (.int .i64) (.pair (.int .i64) (.pair (.int .i64) (.sl false (.pair (.int .i64) (.pair (.int .i64) (.pair (.int .i64) .str))))))))))))) (.sl false (.pair (.int .i64) (.pair (.pair (.int .i64) (.sl false (.int .i64))) (.pair (.pair (.int .i64) (.pair (.int .i64) (.pair (.int .i64) .str))) (.sl false (.int .i64))))))))), .cell (.int .i64)], [], [.cell (.int .i64)], [], T_laws_szWorld⟩
theorem ok_laws_szWorld : FnOk Try.prog fn_laws_szWorld := evF_ok mixed (allOk_cons ok_laws_szRingS (allOk_cons ok_laws_szDaemonS (allOk_cons ok_laws_szLetterS (allOk_cons ok_laws_szEventS allOk_nil)))) m_laws_szWorld (by decide)
def B_laws_toIntS_1 : TC := (.seq (.seq (.reg none [.p (.mv 8 (.t 4)) .unit,
  .p (.mv 9 (.t 0)) .unit,
  .p (.lenB 10 (.t 9)) .unit,
  .p (.bin 11 false .lss (.t 8) (.t 10)) .unit])
 (.cond (.t 11) .skip (.exit 0)))
 (.seq (.block 1 (.reg none [.p (.mvA 14 3) .unit,
  .p (.mv 15 (.t 4)) .unit,
  .p (.mv 16 (.t 0)) .unit,
  .p (.mv 17 (.t 4)) .unit,
  .p (.iadr 18 1 (.t 16) (.t 17)) .unit,
  .p (.load 19 (.t 18) 1 false) .unit,
  .p (.iadr 20 1 (.t 14) (.t 15)) .unit,
  .p (.store (.t 20) (.t 19) 1) .unit]))
 (.reg none [.p (.mv 12 (.t 4)) .unit,
  .p (.bin 13 false .add (.t 12) (.c (.int .i64 1))) .unit,
  .p (.mv 4 (.t 13)) .unit])))
noncomputable def L_laws_toIntS_1 : Nat → (List (Int)) × (List (Int)) × Int → Option ((List (Int)) ⊕ (List (Int))) := evL [] (finT [.t 2] [] [.cell (.sl true (.int .i64))]) 0 ⟨[(0, true), (3, false), (4, false)], [.cell (.sl false (.int .i64)), .cell (.sl true (.int .i64)), .cell (.int .i64)]⟩ ⟨[(3, false)], [.cell (.sl true (.int .i64))]⟩ B_laws_toIntS_1
def F_laws_toIntS : TF := ⟨(.seq (.reg none [.p (.mvN 2 1) .unit])
 (.seq (.reg none [.p (.mv 5 (.t 0)) .unit,
  .p (.lenB 6 (.t 5)) .unit,
  .p (.mkS 7 8 [(.lit (.int .i64 0))] (.t 6) (.t 6)) (.int .i64),
  .p (.mvT 3 7) .unit])
 (.seq (.seq (.reg none [.p (.mv 4 (.c (.int .i64 0))) .unit])
 (.jl 0 ⟨[(0, true), (3, false), (4, false)], [.cell (.sl false (.int .i64)), .cell (.sl true (.int .i64)), .cell (.int .i64)]⟩ ⟨[(3, false)], [.cell (.sl true (.int .i64))]⟩ B_laws_toIntS_1))
 (.seq (.reg none [.p (.mvT 21 3) .unit,
  .p (.mvT 2 21) .unit])
 .ret)))),
 22, 1, [.t 2]⟩
theorem m_laws_toIntS : mH Try.prog 172 [(1, 3, .t), (5, 0, .v), (6, 0, .t), (6, 1, .t)] = some (F_laws_toIntS.code.x, F_laws_toIntS.N, F_laws_toIntS.np, F_laws_toIntS.res) := by kernel_rfl
noncomputable def T_laws_toIntS : List (Int) → Option (List (Int)) := evF [] F_laws_toIntS [.cell (.sl false (.int .i64))] [] [.cell (.sl true (.int .i64))] []
noncomputable def fn_laws_toIntS : TFn := ⟨172, [.cell (.sl false (.int .i64))], [], [.cell (.sl true (.int .i64))], [], T_laws_toIntS⟩
theorem ok_laws_toIntS : FnOk Try.prog fn_laws_toIntS := evF_ok mixed allOk_nil m_laws_toIntS (by decide)
def F_laws_toRing : TF := ⟨(.seq (.reg none [.p (.box 1 (.t 0)) .unit,
  .p (.alloc 2 [(.lit (.int .i64 0)), (.sl true 1 [])]) .unit])
 (.seq (.reg none [.p (.alloc 3 [(.lit (.int .i64 0)), (.sl true 1 [])]) .unit])
 (.seq (.reg none [.p (.fadr 4 (.t 1) 0) .unit,
  .p (.load 5 (.t 4) 1 false) .unit,
  .p (.fadr 6 (.t 3) 0) .unit,
  .p (.store (.t 6) (.t 5) 1) .unit])
 (.seq (.reg none [.p (.fadr 7 (.t 1) 1) .unit,
  .p (.load 8 (.t 7) 1 false) .unit,
  .p (.callB 9 n_laws_toIntS [((.t 8), 0)]) .unit,
  .p (.fadr 10 (.t 3) 1) .unit,
  .p (.storeT (.t 10) 9 1) .unit])
 (.seq (.reg none [.p (.loadT 11 (.t 3) 2 true) .unit,
  .p (.storeT (.t 2) 11 2) .unit])
 .ret))))),
 12, 1, [.c 2 2 true]⟩
theorem m_laws_toRing : mH Try.prog 148 [(3, 4, .t), (4, 0, .t), (4, 1, .t)] = some (F_laws_toRing.code.x, F_laws_toRing.N, F_laws_toRing.np, F_laws_toRing.res) := by kernel_rfl
noncomputable def T_laws_toRing : Int × List (Int) → Option (Int × List (Int)) := evF [fn_laws_toIntS] F_laws_toRing [.agg (.pair (.int .i64) (.sl false (.int .i64)))] [] [.agg (.pair (.int .i64) (.sl true (.int .i64)))] []
noncomputable def fn_laws_toRing : TFn := ⟨148, [.agg (.pair (.int .i64) (.sl false (.int .i64)))], [], [.agg (.pair (.int .i64) (.sl true (.int .i64)))], [], T_laws_toRing⟩
theorem ok_laws_toRing : FnOk Try.prog fn_laws_toRing := evF_ok mixed (allOk_cons ok_laws_toIntS allOk_nil) m_laws_toRing (by decide)
def B_laws_toRingS_1 : TC := (.seq (.seq (.reg none [.p (.mv 8 (.t 4)) .unit,
  .p (.mv 9 (.t 0)) .unit,
  .p (.lenB 10 (.t 9)) .unit,
  .p (.bin 11 false .lss (.t 8) (.t 10)) .unit])
 (.cond (.t 11) .skip (.exit 0)))
 (.seq (.block 1 (.reg none [.p (.mvA 14 3) .unit,
  .p (.mv 15 (.t 4)) .unit,
  .p (.mv 16 (.t 0)) .unit,
  .p (.mv 17 (.t 4)) .unit,
  .p (.iadr 18 2 (.t 16) (.t 17)) .unit,
  .p (.load 19 (.t 18) 2 true) .unit,
  .p (.callB 20 n_laws_toRing [((.t 19), 0)]) .unit,
  .p (.iadr 21 2 (.t 14) (.t 15)) .unit,
  .p (.storeT (.t 21) 20 2) .unit]))
 (.reg none [.p (.mv 12 (.t 4)) .unit,
  .p (.bin 13 false .add (.t 12) (.c (.int .i64 1))) .unit,
  .p (.mv 4 (.t 13)) .unit])))
noncomputable def L_laws_toRingS_1 : Nat → (List (Int × List (Int))) × (List (Int × List (Int))) × Int → Option ((List (Int × List (Int))) ⊕ (List (Int × List (Int)))) := evL [fn_laws_toRing] (finT [.t 2] [] [.cell (.sl true (.pair (.int .i64) (.sl true (.int .i64))))]) 0 ⟨[(0, true), (3, false), (4, false)], [.cell (.sl false (.pair (.int .i64) (.sl false (.int .i64)))), .cell (.sl true (.pair (.int .i64) (.sl true (.int .i64)))), .cell (.int .i64)]⟩ ⟨[(3, false)], [.cell (.sl true (.pair (.int .i64) (.sl true (.int .i64))))]⟩ B_laws_toRingS_1
def F_laws_toRingS : TF := ⟨(.seq (.reg none [.p (.mvN 2 2) .unit])
 (.seq (.reg none [.p (.mv 5 (.t 0)) .unit,
  .p (.lenB 6 (.t 5)) .unit,
  .p (.mkS 7 32 [(.lit (.int .i64 0)), (.sl true 1 [])] (.t 6) (.t 6)) (.pair (.int .i64) (.sl true (.int .i64))),
  .p (.mvT 3 7) .unit])
 (.seq (.seq (.reg none [.p (.mv 4 (.c (.int .i64 0))) .unit])
 (.jl 0 ⟨[(0, true), (3, false), (4, false)], [.cell (.sl false (.pair (.int .i64) (.sl false (.int .i64)))), .cell (.sl true (.pair (.int .i64) (.sl true (.int .i64)))), .cell (.int .i64)]⟩ ⟨[(3, false)], [.cell (.sl true (.pair (.int .i64) (.sl true (.int .i64))))]⟩ B_laws_toRingS_1))
 (.seq (.reg none [.p (.mvT 22 3) .unit,
  .p (.mvT 2 22) .unit])
 .ret)))),
 23, 1, [.t 2]⟩
theorem m_laws_toRingS : mH Try.prog 114 [(1, 3, .t), (5, 0, .v), (5, 8, .t), (6, 0, .t), (6, 1, .t)] = some (F_laws_toRingS.code.x, F_laws_toRingS.N, F_laws_toRingS.np, F_laws_toRingS.res) := by kernel_rfl
noncomputable def T_laws_toRingS : List (Int × List (Int)) → Option (List (Int × List (Int))) := evF [fn_laws_toRing] F_laws_toRingS [.cell (.sl false (.pair (.int .i64) (.sl false (.int .i64))))] [] [.cell (.sl true (.pair (.int .i64) (.sl true (.int .i64))))] []
noncomputable def fn_laws_toRingS : TFn := ⟨114, [.cell (.sl false (.pair (.int .i64) (.sl false (.int .i64))))], [], [.cell (.sl true (.pair (.int .i64) (.sl true (.int .i64))))], [], T_laws_toRingS⟩
theorem ok_laws_toRingS : FnOk Try.prog fn_laws_toRingS := evF_ok mixed (allOk_cons ok_laws_toRing allOk_nil) m_laws_toRingS (by decide)
def F_laws_toItem : TF := ⟨(.seq (.reg none [.p (.box 1 (.t 0)) .unit,
  .p (.alloc 2 [(.lit (.int .i64 0)), (.lit (.int .i64 0)), (.lit (.int .i64 0)), (.lit (.string (ba [])))]) .unit])
 (.seq (.reg none [.p (.alloc 3 [(.lit (.int .i64 0)), (.lit (.int .i64 0)), (.lit (.int .i64 0)), (.lit (.string (ba [])))]) .unit])
 (.seq (.reg none [.p (.fadr 4 (.t 1) 0) .unit,
  .p (.load 5 (.t 4) 1 false) .unit,
  .p (.fadr 6 (.t 3) 0) .unit,
  .p (.store (.t 6) (.t 5) 1) .unit])
 (.seq (.reg none [.p (.fadr 7 (.t 1) 1) .unit,
  .p (.load 8 (.t 7) 1 false) .unit,
  .p (.fadr 9 (.t 3) 1) .unit,
  .p (.store (.t 9) (.t 8) 1) .unit])
 (.seq (.reg none [.p (.fadr 10 (.t 1) 2) .unit,
  .p (.load 11 (.t 10) 1 false) .unit,
  .p (.fadr 12 (.t 3) 2) .unit,
  .p (.store (.t 12) (.t 11) 1) .unit])
 (.seq (.reg none [.p (.fadr 13 (.t 1) 3) .unit,
  .p (.load 14 (.t 13) 1 false) .unit,
  .p (.fadr 15 (.t 3) 3) .unit,
  .p (.store (.t 15) (.t 14) 1) .unit])
 (.seq (.reg none [.p (.load 16 (.t 3) 4 true) .unit,
  .p (.store (.t 2) (.t 16) 4) .unit])
 .ret))))))),
 17, 1, [.c 2 4 true]⟩
theorem m_laws_toItem : mH Try.prog 175 [] = some (F_laws_toItem.code.x, F_laws_toItem.N, F_laws_toItem.np, F_laws_toItem.res) := by kernel_rfl
noncomputable def T_laws_toItem : Int × Int × Int × List UInt8 → Option (Int × Int × Int × List UInt8) := evF [] F_laws_toItem [.agg (.pair (.int .i64) (.pair (.int .i64) (.pair (.int .i64) .str)))] [] [.agg (.pair (.int .i64) (.pair (.int .i64) (.pair (.int .i64) .str)))] []
noncomputable def fn_laws_toItem : TFn := ⟨175, [.agg (.pair (.int .i64) (.pair (.int .i64) (.pair (.int .i64) .str)))], [], [.agg (.pair (.int .i64) (.pair (.int .i64) (.pair (.int .i64) .str)))], [], T_laws_toItem⟩
theorem ok_laws_toItem : FnOk Try.prog fn_laws_toItem := evF_ok mixed allOk_nil m_laws_toItem (by decide)
def B_laws_toItemS_1 : TC := (.seq (.seq (.reg none [.p (.mv 8 (.t 4)) .unit,
  .p (.mv 9 (.t 0)) .unit,
  .p (.lenB 10 (.t 9)) .unit,
  .p (.bin 11 false .lss (.t 8) (.t 10)) .unit])
 (.cond (.t 11) .skip (.exit 0)))
 (.seq (.block 1 (.reg none [.p (.mvA 14 3) .unit,
  .p (.mv 15 (.t 4)) .unit,
  .p (.mv 16 (.t 0)) .unit,
  .p (.mv 17 (.t 4)) .unit,
  .p (.iadr 18 4 (.t 16) (.t 17)) .unit,
  .p (.load 19 (.t 18) 4 true) .unit,
  .p (.callB 20 n_laws_toItem [((.t 19), 0)]) .unit,
  .p (.iadr 21 4 (.t 14) (.t 15)) .unit,
  .p (.store (.t 21) (.t 20) 4) .unit]))
 (.reg none [.p (.mv 12 (.t 4)) .unit,
  .p (.bin 13 false .add (.t 12) (.c (.int .i64 1))) .unit,
  .p (.mv 4 (.t 13)) .unit])))
noncomputable def L_laws_toItemS_1 : Nat → (List (Int × Int × Int × List UInt8)) × (List (Int × Int × Int × List UInt8)) × Int → Option ((List (Int × Int × Int × List UInt8)) ⊕ (List (Int × Int × Int × List UInt8))) := evL [fn_laws_toItem] (finT [.t 2] [] [.cell (.sl true (.pair (.int .i64) (.pair (.int .i64) (.pair (.int .i64) .str))))]) 0 ⟨[(0, true), (3, false), (4, false)], [.cell (.sl false (.pair (.int .i64) (.pair (.int .i64) (.pair (.int .i64) .str)))), .cell (.sl true (.pair (.int .i64) (.pair (.int .i64) (.pair (.int .i64) .str)))), .cell (.int .i64)]⟩ ⟨[(3, false)], [.cell (.sl true (.pair (.int .i64) (.pair (.int .i64) (.pair (.int .i64) .str))))]⟩ B_laws_toItemS_1
def F_laws_toItemS : TF := ⟨(.seq (.reg none [.p (.mvN 2 4) .unit])
 (.seq (.reg none [.p (.mv 5 (.t 0)) .unit,
  .p (.lenB 6 (.t 5)) .unit,
  .p (.mkS 7 40 [(.lit (.int .i64 0)), (.lit (.int .i64 0)), (.lit (.int .i64 0)), (.lit (.string (ba [])))] (.t 6) (.t 6)) (.pair (.int .i64) (.pair (.int .i64) (.pair (.int .i64) .str))),
  .p (.mvT 3 7) .unit])
 (.seq (.seq (.reg none [.p (.mv 4 (.c (.int .i64 0))) .unit])
 (.jl 0 ⟨[(0, true), (3, false), (4, false)], [.cell (.sl false (.pair (.int .i64) (.pair (.int .i64) (.pair (.int .i64) .str)))), .cell (.sl true (.pair (.int .i64) (.pair (.int .i64) (.pair (.int .i64) .str)))), .cell (.int .i64)]⟩ ⟨[(3, false)], [.cell (.sl true (.pair (.int .i64) (.pair (.int .i64) (.pair (.int .i64) .str))))]⟩ B_laws_toItemS_1))
 (.seq (.reg none [.p (.mvT 22 3) .unit,
  .p (.mvT 2 22) .unit])
 .ret)))),
 23, 1, [.t 2]⟩
theorem m_laws_toItemS : mH Try.prog 186 [(1, 3, .t), (5, 0, .v), (6, 0, .t), (6, 1, .t)] = some (F_laws_toItemS.code.x, F_laws_toItemS.N, F_laws_toItemS.np, F_laws_toItemS.res) := by kernel_rfl
noncomputable def T_laws_toItemS : List (Int × Int × Int × List UInt8) → Option (List (Int × Int × Int × List UInt8)) := evF [fn_laws_toItem] F_laws_toItemS [.cell (.sl false (.pair (.int .i64) (.pair (.int .i64) (.pair (.int .i64) .str))))] [] [.cell (.sl true (.pair (.int .i64) (.pair (.int .i64) (.pair (.int .i64) .str))))] []
noncomputable def fn_laws_toItemS : TFn := ⟨186, [.cell (.sl false (.pair (.int .i64) (.pair (.int .i64) (.pair (.int .i64) .str))))], [], [.cell (.sl true (.pair (.int .i64) (.pair (.int .i64) (.pair (.int .i64) .str))))], [], T_laws_toItemS⟩
theorem ok_laws_toItemS : FnOk Try.prog fn_laws_toItemS := evF_ok mixed (allOk_cons ok_laws_toItem allOk_nil) m_laws_toItemS (by decide)
def B_laws_toStringS_1 : TC := (.seq (.seq (.reg none [.p (.mv 8 (.t 4)) .unit,
  .p (.mv 9 (.t 0)) .unit,
  .p (.lenB 10 (.t 9)) .unit,
  .p (.bin 11 false .lss (.t 8) (.t 10)) .unit])
 (.cond (.t 11) .skip (.exit 0)))
 (.seq (.block 1 (.reg none [.p (.mvA 14 3) .unit,
  .p (.mv 15 (.t 4)) .unit,
  .p (.mv 16 (.t 0)) .unit,
  .p (.mv 17 (.t 4)) .unit,
  .p (.iadr 18 1 (.t 16) (.t 17)) .unit,
  .p (.load 19 (.t 18) 1 false) .unit,
  .p (.iadr 20 1 (.t 14) (.t 15)) .unit,
  .p (.store (.t 20) (.t 19) 1) .unit]))
 (.reg none [.p (.mv 12 (.t 4)) .unit,
  .p (.bin 13 false .add (.t 12) (.c (.int .i64 1))) .unit,
  .p (.mv 4 (.t 13)) .unit])))
noncomputable def L_laws_toStringS_1 : Nat → (List (List UInt8)) × (List (List UInt8)) × Int → Option ((List (List UInt8)) ⊕ (List (List UInt8))) := evL [] (finT [.t 2] [] [.cell (.sl true .str)]) 0 ⟨[(0, true), (3, false), (4, false)], [.cell (.sl false .str), .cell (.sl true .str), .cell (.int .i64)]⟩ ⟨[(3, false)], [.cell (.sl true .str)]⟩ B_laws_toStringS_1
def F_laws_toStringS : TF := ⟨(.seq (.reg none [.p (.mvN 2 1) .unit])
 (.seq (.reg none [.p (.mv 5 (.t 0)) .unit,
  .p (.lenB 6 (.t 5)) .unit,
  .p (.mkS 7 16 [(.lit (.string (ba [])))] (.t 6) (.t 6)) .str,
  .p (.mvT 3 7) .unit])
 (.seq (.seq (.reg none [.p (.mv 4 (.c (.int .i64 0))) .unit])
 (.jl 0 ⟨[(0, true), (3, false), (4, false)], [.cell (.sl false .str), .cell (.sl true .str), .cell (.int .i64)]⟩ ⟨[(3, false)], [.cell (.sl true .str)]⟩ B_laws_toStringS_1))
 (.seq (.reg none [.p (.mvT 21 3) .unit,
  .p (.mvT 2 21) .unit])
 .ret)))),
 22, 1, [.t 2]⟩
theorem m_laws_toStringS : mH Try.prog 187 [(1, 3, .t), (5, 0, .v), (6, 0, .t), (6, 1, .t)] = some (F_laws_toStringS.code.x, F_laws_toStringS.N, F_laws_toStringS.np, F_laws_toStringS.res) := by kernel_rfl
noncomputable def T_laws_toStringS : List (List UInt8) → Option (List (List UInt8)) := evF [] F_laws_toStringS [.cell (.sl false .str)] [] [.cell (.sl true .str)] []
noncomputable def fn_laws_toStringS : TFn := ⟨187, [.cell (.sl false .str)], [], [.cell (.sl true .str)], [], T_laws_toStringS⟩
theorem ok_laws_toStringS : FnOk Try.prog fn_laws_toStringS := evF_ok mixed allOk_nil m_laws_toStringS (by decide)
def F_laws_toToken : TF := ⟨(.seq (.reg none [.p (.box 1 (.t 0)) .unit,
  .p (.alloc 2 [(.lit (.int .i64 0)), (.lit (.int .i64 0)), (.lit (.int .i64 0)), (.lit (.int .i64 0)), (.lit (.int .i64 0)), (.sl true 1 [])]) .unit])
 (.seq (.reg none [.p (.alloc 3 [(.lit (.int .i64 0)), (.lit (.int .i64 0)), (.lit (.int .i64 0)), (.lit (.int .i64 0)), (.lit (.int .i64 0)), (.sl true 1 [])]) .unit])
 (.seq (.reg none [.p (.fadr 4 (.t 1) 0) .unit,
  .p (.load 5 (.t 4) 1 false) .unit,
  .p (.fadr 6 (.t 3) 0) .unit,
  .p (.store (.t 6) (.t 5) 1) .unit])
 (.seq (.reg none [.p (.fadr 7 (.t 1) 1) .unit,
  .p (.load 8 (.t 7) 1 false) .unit,
  .p (.fadr 9 (.t 3) 1) .unit,
  .p (.store (.t 9) (.t 8) 1) .unit])
 (.seq (.reg none [.p (.fadr 10 (.t 1) 2) .unit,
  .p (.load 11 (.t 10) 1 false) .unit,
  .p (.fadr 12 (.t 3) 2) .unit,
  .p (.store (.t 12) (.t 11) 1) .unit])
 (.seq (.reg none [.p (.fadr 13 (.t 1) 3) .unit,
  .p (.load 14 (.t 13) 1 false) .unit,
  .p (.fadr 15 (.t 3) 3) .unit,
  .p (.store (.t 15) (.t 14) 1) .unit])
 (.seq (.reg none [.p (.fadr 16 (.t 1) 4) .unit,
  .p (.load 17 (.t 16) 1 false) .unit,
  .p (.fadr 18 (.t 3) 4) .unit,
  .p (.store (.t 18) (.t 17) 1) .unit])
 (.seq (.reg none [.p (.fadr 19 (.t 1) 5) .unit,
  .p (.load 20 (.t 19) 1 false) .unit,
  .p (.callB 21 n_laws_toIntS [((.t 20), 0)]) .unit,
  .p (.fadr 22 (.t 3) 5) .unit,
  .p (.storeT (.t 22) 21 1) .unit])
 (.seq (.reg none [.p (.loadT 23 (.t 3) 6 true) .unit,
  .p (.storeT (.t 2) 23 6) .unit])
 .ret))))))))),
 24, 1, [.c 2 6 true]⟩
theorem m_laws_toToken : mH Try.prog 176 [(7, 4, .t), (8, 0, .t), (8, 1, .t)] = some (F_laws_toToken.code.x, F_laws_toToken.N, F_laws_toToken.np, F_laws_toToken.res) := by kernel_rfl
noncomputable def T_laws_toToken : Int × Int × Int × Int × Int × List (Int) → Option (Int × Int × Int × Int × Int × List (Int)) := evF [fn_laws_toIntS] F_laws_toToken [.agg (.pair (.int .i64) (.pair (.int .i64) (.pair (.int .i64) (.pair (.int .i64) (.pair (.int .i64) (.sl false (.int .i64)))))))] [] [.agg (.pair (.int .i64) (.pair (.int .i64) (.pair (.int .i64) (.pair (.int .i64) (.pair (.int .i64) (.sl true (.int .i64)))))))] []
noncomputable def fn_laws_toToken : TFn := ⟨176, [.agg (.pair (.int .i64) (.pair (.int .i64) (.pair (.int .i64) (.pair (.int .i64) (.pair (.int .i64) (.sl false (.int .i64)))))))], [], [.agg (.pair (.int .i64) (.pair (.int .i64) (.pair (.int .i64) (.pair (.int .i64) (.pair (.int .i64) (.sl true (.int .i64)))))))], [], T_laws_toToken⟩
theorem ok_laws_toToken : FnOk Try.prog fn_laws_toToken := evF_ok mixed (allOk_cons ok_laws_toIntS allOk_nil) m_laws_toToken (by decide)
def F_laws_toMate : TF := ⟨(.seq (.reg none [.p (.box 1 (.t 0)) .unit,
  .p (.alloc 2 [(.lit (.int .i64 0)), (.lit (.int .i64 0)), (.sl true 1 []), (.sl true 4 []), (.sl true 1 []), (.sl true 1 []), (.lit (.int .i64 0)), (.lit (.int .i64 0)), (.lit (.int .i64 0)), (.lit (.int .i64 0)), (.lit (.int .i64 0)), (.lit (.int .i64 0)), (.lit (.int .i64 0)), (.lit (.int .i64 0)), (.lit (.int .i64 0)), (.sl true 1 [])]) .unit])
 (.seq (.reg none [.p (.alloc 3 [(.lit (.int .i64 0)), (.lit (.int .i64 0)), (.sl true 1 []), (.sl true 4 []), (.sl true 1 []), (.sl true 1 []), (.lit (.int .i64 0)), (.lit (.int .i64 0)), (.lit (.int .i64 0)), (.lit (.int .i64 0)), (.lit (.int .i64 0)), (.lit (.int .i64 0)), (.lit (.int .i64 0)), (.lit (.int .i64 0)), (.lit (.int .i64 0)), (.sl true 1 [])]) .unit])
 (.seq (.reg none [.p (.fadr 4 (.t 1) 0) .unit,
  .p (.load 5 (.t 4) 1 false) .unit,
  .p (.fadr 6 (.t 3) 0) .unit,
  .p (.store (.t 6) (.t 5) 1) .unit])
 (.seq (.reg none [.p (.fadr 7 (.t 1) 1) .unit,
  .p (.load 8 (.t 7) 2 true) .unit,
  .p (.callB 9 n_laws_toRing [((.t 8), 0)]) .unit,
  .p (.fadr 10 (.t 3) 1) .unit,
  .p (.storeT (.t 10) 9 2) .unit])
 (.seq (.reg none [.p (.fadr 11 (.t 1) 3) .unit,
  .p (.load 12 (.t 11) 1 false) .unit,
  .p (.callB 13 n_laws_toItemS [((.t 12), 0)]) .unit,
  .p (.fadr 14 (.t 3) 3) .unit,
  .p (.storeT (.t 14) 13 1) .unit])
 (.seq (.reg none [.p (.fadr 15 (.t 1) 4) .unit,
  .p (.load 16 (.t 15) 1 false) .unit,
  .p (.callB 17 n_laws_toIntS [((.t 16), 0)]) .unit,
  .p (.fadr 18 (.t 3) 4) .unit,
  .p (.storeT (.t 18) 17 1) .unit])
 (.seq (.reg none [.p (.fadr 19 (.t 1) 5) .unit,
  .p (.load 20 (.t 19) 1 false) .unit,
  .p (.callB 21 n_laws_toStringS [((.t 20), 0)]) .unit,
  .p (.fadr 22 (.t 3) 5) .unit,
  .p (.storeT (.t 22) 21 1) .unit])
 (.seq (.reg none [.p (.fadr 23 (.t 1) 6) .unit,
  .p (.load 24 (.t 23) 1 false) .unit,
  .p (.fadr 25 (.t 3) 6) .unit,
  .p (.store (.t 25) (.t 24) 1) .unit])
 (.seq (.reg none [.p (.fadr 26 (.t 1) 7) .unit,
  .p (.load 27 (.t 26) 1 false) .unit,
  .p (.fadr 28 (.t 3) 7) .unit,
  .p (.store (.t 28) (.t 27) 1) .unit])
 (.seq (.reg none [.p (.fadr 29 (.t 1) 8) .unit,
  .p (.load 30 (.t 29) 1 false) .unit,
  .p (.fadr 31 (.t 3) 8) .unit,
  .p (.store (.t 31) (.t 30) 1) .unit])
 (.seq (.reg none [.p (.fadr 32 (.t 1) 9) .unit,
  .p (.load 33 (.t 32) 1 false) .unit,
  .p (.fadr 34 (.t 3) 9) .unit,
  .p (.store (.t 34) (.t 33) 1) .unit])
 (.seq (.reg none [.p (.fadr 35 (.t 1) 10) .unit,
  .p (.load 36 (.t 35) 6 true) .unit,
  .p (.callB 37 n_laws_toToken [((.t 36), 0)]) .unit,
  .p (.fadr 38 (.t 3) 10) .unit,
  .p (.storeT (.t 38) 37 6) .unit])
 (.seq (.reg none [.p (.loadT 39 (.t 3) 16 true) .unit,
  .p (.storeT (.t 2) 39 16) .unit])
 .ret))))))))))))),
 40, 1, [.c 2 16 true]⟩
theorem m_laws_toMate : mH Try.prog 173 [(3, 4, .t), (4, 4, .t), (5, 4, .t), (6, 4, .t), (11, 4, .t), (12, 0, .t), (12, 1, .t)] = some (F_laws_toMate.code.x, F_laws_toMate.N, F_laws_toMate.np, F_laws_toMate.res) := by kernel_rfl
noncomputable def T_laws_toMate : Int × (Int × List (Int)) × List (Int × Int × Int × List UInt8) × List (Int) × List (List UInt8) × Int × Int × Int × Int × Int × Int × Int × Int × Int × List (Int) → Option (Int × (Int × List (Int)) × List (Int × Int × Int × List UInt8) × List (Int) × List (List UInt8) × Int × Int × Int × Int × Int × Int × Int × Int × Int × List (Int)) := evF [fn_laws_toRing, fn_laws_toItemS, fn_laws_toIntS, fn_laws_toStringS, fn_laws_toToken] F_laws_toMate [.agg (.pair (.int .i64) (.pair (.pair (.int .i64) (.sl false (.int .i64))) (.pair (.sl false (.pair (.int .i64) (.pair (.int .i64) (.pair (.int .i64) .str)))) (.pair (.sl false (.int .i64)) (.pair (.sl false .str) (.pair (.int .i64) (.pair (.int .i64) (.pair (.int .i64) (.pair (.int .i64) (.pair (.int .i64) (.pair (.int .i64) (.pair (.int .i64) (.pair (.int .i64) (.pair (.int .i64) (.sl false (.int .i64))))))))))))))))] [] [.agg (.pair (.int .i64) (.pair (.pair (.int .i64) (.sl true (.int .i64))) (.pair (.sl true (.pair (.int .i64) (.pair (.int .i64) (.pair (.int .i64) .str)))) (.pair (.sl true (.int .i64)) (.pair (.sl true .str) (.pair (.int .i64) (.pair (.int .i64) (.pair (.int .i64) (.pair (.int .i64) (.pair (.int .i64) (.pair (.int .i64) (.pair (.int .i64) (.pair (.int .i64) (.pair (.int .i64) (.sl true (.int .i64))))))))))))))))] []
noncomputable def fn_laws_toMate : TFn := ⟨173, [.agg (.pair (.int .i64) (.pair (.pair (.int .i64) (.sl false (.int .i64))) (.pair (.sl false (.pair (.int .i64) (.pair (.int .i64) (.pair (.int .i64) .str)))) (.pair (.sl false (.int .i64)) (.pair (.sl false .str) (.pair (.int .i64) (.pair (.int .i64) (.pair (.int .i64) (.pair (.int .i64) (.pair (.int .i64) (.pair (.int .i64) (.pair (.int .i64) (.pair (.int .i64) (.pair (.int .i64) (.sl false (.int .i64))))))))))))))))], [], [.agg (.pair (.int .i64) (.pair (.pair (.int .i64) (.sl true (.int .i64))) (.pair (.sl true (.pair (.int .i64) (.pair (.int .i64) (.pair (.int .i64) .str)))) (.pair (.sl true (.int .i64)) (.pair (.sl true .str) (.pair (.int .i64) (.pair (.int .i64) (.pair (.int .i64) (.pair (.int .i64) (.pair (.int .i64) (.pair (.int .i64) (.pair (.int .i64) (.pair (.int .i64) (.pair (.int .i64) (.sl true (.int .i64))))))))))))))))], [], T_laws_toMate⟩
theorem ok_laws_toMate : FnOk Try.prog fn_laws_toMate := evF_ok mixed (allOk_cons ok_laws_toRing (allOk_cons ok_laws_toItemS (allOk_cons ok_laws_toIntS (allOk_cons ok_laws_toStringS (allOk_cons ok_laws_toToken allOk_nil))))) m_laws_toMate (by decide)
def F_laws_toBundle : TF := ⟨(.seq (.reg none [.p (.box 1 (.t 0)) .unit,
  .p (.alloc 2 [(.lit (.int .i64 0)), (.lit (.int .i64 0)), (.lit (.int .i64 0)), (.sl true 4 [])]) .unit])
 (.seq (.reg none [.p (.alloc 3 [(.lit (.int .i64 0)), (.lit (.int .i64 0)), (.lit (.int .i64 0)), (.sl true 4 [])]) .unit])
 (.seq (.reg none [.p (.fadr 4 (.t 1) 0) .unit,
  .p (.load 5 (.t 4) 1 false) .unit,
  .p (.fadr 6 (.t 3) 0) .unit,
  .p (.store (.t 6) (.t 5) 1) .unit])
 (.seq (.reg none [.p (.fadr 7 (.t 1) 1) .unit,
  .p (.load 8 (.t 7) 1 false) .unit,
  .p (.fadr 9 (.t 3) 1) .unit,
  .p (.store (.t 9) (.t 8) 1) .unit])
 (.seq (.reg none [.p (.fadr 10 (.t 1) 2) .unit,
  .p (.load 11 (.t 10) 1 false) .unit,
  .p (.fadr 12 (.t 3) 2) .unit,
  .p (.store (.t 12) (.t 11) 1) .unit])
 (.seq (.reg none [.p (.fadr 13 (.t 1) 3) .unit,
  .p (.load 14 (.t 13) 1 false) .unit,
  .p (.callB 15 n_laws_toItemS [((.t 14), 0)]) .unit,
  .p (.fadr 16 (.t 3) 3) .unit,
  .p (.storeT (.t 16) 15 1) .unit])
 (.seq (.reg none [.p (.loadT 17 (.t 3) 4 true) .unit,
  .p (.storeT (.t 2) 17 4) .unit])
 .ret))))))),
 18, 1, [.c 2 4 true]⟩
theorem m_laws_toBundle : mH Try.prog 177 [(5, 4, .t), (6, 0, .t), (6, 1, .t)] = some (F_laws_toBundle.code.x, F_laws_toBundle.N, F_laws_toBundle.np, F_laws_toBundle.res) := by kernel_rfl
noncomputable def T_laws_toBundle : Int × Int × Int × List (Int × Int × Int × List UInt8) → Option (Int × Int × Int × List (Int × Int × Int × List UInt8)) := evF [fn_laws_toItemS] F_laws_toBundle [.agg (.pair (.int .i64) (.pair (.int .i64) (.pair (.int .i64) (.sl false (.pair (.int .i64) (.pair (.int .i64) (.pair (.int .i64) .str)))))))] [] [.agg (.pair (.int .i64) (.pair (.int .i64) (.pair (.int .i64) (.sl true (.pair (.int .i64) (.pair (.int .i64) (.pair (.int .i64) .str)))))))] []
noncomputable def fn_laws_toBundle : TFn := ⟨177, [.agg (.pair (.int .i64) (.pair (.int .i64) (.pair (.int .i64) (.sl false (.pair (.int .i64) (.pair (.int .i64) (.pair (.int .i64) .str)))))))], [], [.agg (.pair (.int .i64) (.pair (.int .i64) (.pair (.int .i64) (.sl true (.pair (.int .i64) (.pair (.int .i64) (.pair (.int .i64) .str)))))))], [], T_laws_toBundle⟩
theorem ok_laws_toBundle : FnOk Try.prog fn_laws_toBundle := evF_ok mixed (allOk_cons ok_laws_toItemS allOk_nil) m_laws_toBundle (by decide)
def B_laws_toBundleS_1 : TC := (.seq (.seq (.reg none [.p (.mv 8 (.t 4)) .unit,
  .p (.mv 9 (.t 0)) .unit,
  .p (.lenB 10 (.t 9)) .unit,
  .p (.bin 11 false .lss (.t 8) (.t 10)) .unit])
 (.cond (.t 11) .skip (.exit 0)))
 (.seq (.block 1 (.reg none [.p (.mvA 14 3) .unit,
  .p (.mv 15 (.t 4)) .unit,
  .p (.mv 16 (.t 0)) .unit,
  .p (.mv 17 (.t 4)) .unit,
  .p (.iadr 18 4 (.t 16) (.t 17)) .unit,
  .p (.load 19 (.t 18) 4 true) .unit,
  .p (.callB 20 n_laws_toBundle [((.t 19), 0)]) .unit,
  .p (.iadr 21 4 (.t 14) (.t 15)) .unit,
  .p (.storeT (.t 21) 20 4) .unit]))
 (.reg none [.p (.mv 12 (.t 4)) .unit,
  .p (.bin 13 false .add (.t 12) (.c (.int .i64 1))) .unit,
  .p (.mv 4 (.t 13)) .unit])))
noncomputable def L_laws_toBundleS_1 : Nat → (List (Int × Int × Int × List (Int × Int × Int × List UInt8))) × (List (Int × Int × Int × List (Int × Int × Int × List UInt8))) × Int → Option ((List (Int × Int × Int × List (Int × Int × Int × List UInt8))) ⊕ (List (Int × Int × Int × List (Int × Int × Int × List UInt8)))) := evL [fn_laws_toBundle] (finT [.t 2] [] [.cell (.sl true (.pair (.int .i64) (.pair (.int .i64) (.pair (.int .i64) (.sl true (.pair (.int .i64) (.pair (.int .i64) (.pair (.int .i64) .str))))))))]) 0 ⟨[(0, true), (3, false), (4, false)], [.cell (.sl false (.pair (.int .i64) (.pair (.int .i64) (.pair (.int .i64) (.sl false (.pair (.int .i64) (.pair (.int .i64) (.pair (.int .i64) .str)))))))), .cell (.sl true (.pair (.int .i64) (.pair (.int .i64) (.pair (.int .i64) (.sl true (.pair (.int .i64) (.pair (.int .i64) (.pair (.int .i64) .str)))))))), .cell (.int .i64)]⟩ ⟨[(3, false)], [.cell (.sl true (.pair (.int .i64) (.pair (.int .i64) (.pair (.int .i64) (.sl true (.pair (.int .i64) (.pair (.int .i64) (.pair (.int .i64) .str))))))))]⟩ B_laws_toBundleS_1
def F_laws_toBundleS : TF := ⟨(.seq (.reg none [.p (.mvN 2 4) .unit])
 (.seq (.reg none [.p (.mv 5 (.t 0)) .unit,
  .p (.lenB 6 (.t 5)) .unit,
  .p (.mkS 7 48 [(.lit (.int .i64 0)), (.lit (.int .i64 0)), (.lit (.int .i64 0)), (.sl true 4 [])] (.t 6) (.t 6)) (.pair (.int .i64) (.pair (.int .i64) (.pair (.int .i64) (.sl true (.pair (.int .i64) (.pair (.int .i64) (.pair (.int .i64) .str))))))),
  .p (.mvT 3 7) .unit])
 (.seq (.seq (.reg none [.p (.mv 4 (.c (.int .i64 0))) .unit])
 (.jl 0 ⟨[(0, true), (3, false), (4, false)], [.cell (.sl false (.pair (.int .i64) (.pair (.int .i64) (.pair (.int .i64) (.sl false (.pair (.int .i64) (.pair (.int .i64) (.pair (.int .i64) .str)))))))), .cell (.sl true (.pair (.int .i64) (.pair (.int .i64) (.pair (.int .i64) (.sl true (.pair (.int .i64) (.pair (.int .i64) (.pair (.int .i64) .str)))))))), .cell (.int .i64)]⟩ ⟨[(3, false)], [.cell (.sl true (.pair (.int .i64) (.pair (.int .i64) (.pair (.int .i64) (.sl true (.pair (.int .i64) (.pair (.int .i64) (.pair (.int .i64) .str))))))))]⟩ B_laws_toBundleS_1))
 (.seq (.reg none [.p (.mvT 22 3) .unit,
  .p (.mvT 2 22) .unit])
 .ret)))),
 23, 1, [.t 2]⟩
theorem m_laws_toBundleS : mH Try.prog 174 [(1, 3, .t), (5, 0, .v), (5, 8, .t), (6, 0, .t), (6, 1, .t)] = some (F_laws_toBundleS.code.x, F_laws_toBundleS.N, F_laws_toBundleS.np, F_laws_toBundleS.res) := by kernel_rfl
noncomputable def T_laws_toBundleS : List (Int × Int × Int × List (Int × Int × Int × List UInt8)) → Option (List (Int × Int × Int × List (Int × Int × Int × List UInt8))) := evF [fn_laws_toBundle] F_laws_toBundleS [.cell (.sl false (.pair (.int .i64) (.pair (.int .i64) (.pair (.int .i64) (.sl false (.pair (.int .i64) (.pair (.int .i64) (.pair (.int .i64) .str))))))))] [] [.cell (.sl true (.pair (.int .i64) (.pair (.int .i64) (.pair (.int .i64) (.sl true (.pair (.int .i64) (.pair (.int .i64) (.pair (.int .i64) .str))))))))] []
noncomputable def fn_laws_toBundleS : TFn := ⟨174, [.cell (.sl false (.pair (.int .i64) (.pair (.int .i64) (.pair (.int .i64) (.sl false (.pair (.int .i64) (.pair (.int .i64) (.pair (.int .i64) .str))))))))], [], [.cell (.sl true (.pair (.int .i64) (.pair (.int .i64) (.pair (.int .i64) (.sl true (.pair (.int .i64) (.pair (.int .i64) (.pair (.int .i64) .str))))))))], [], T_laws_toBundleS⟩
theorem ok_laws_toBundleS : FnOk Try.prog fn_laws_toBundleS := evF_ok mixed (allOk_cons ok_laws_toBundle allOk_nil) m_laws_toBundleS (by decide)
def F_laws_toEvent : TF := ⟨(.seq (.reg none [.p (.box 1 (.t 0)) .unit,
  .p (.alloc 2 [(.lit (.int .i64 0)), (.lit (.int .i64 0)), (.sl true 1 []), (.lit (.int .i64 0)), (.lit (.int .i64 0)), (.lit (.int .i64 0)), (.lit (.string (ba []))), (.sl true 1 [])]) .unit])
 (.seq (.reg none [.p (.alloc 3 [(.lit (.int .i64 0)), (.lit (.int .i64 0)), (.sl true 1 []), (.lit (.int .i64 0)), (.lit (.int .i64 0)), (.lit (.int .i64 0)), (.lit (.string (ba []))), (.sl true 1 [])]) .unit])
 (.seq (.reg none [.p (.fadr 4 (.t 1) 0) .unit,
  .p (.load 5 (.t 4) 1 false) .unit,
  .p (.fadr 6 (.t 3) 0) .unit,
  .p (.store (.t 6) (.t 5) 1) .unit])
 (.seq (.reg none [.p (.fadr 7 (.t 1) 1) .unit,
  .p (.load 8 (.t 7) 2 true) .unit,
  .p (.callB 9 n_laws_toRing [((.t 8), 0)]) .unit,
  .p (.fadr 10 (.t 3) 1) .unit,
  .p (.storeT (.t 10) 9 2) .unit])
 (.seq (.reg none [.p (.fadr 11 (.t 1) 3) .unit,
  .p (.load 12 (.t 11) 4 true) .unit,
  .p (.callB 13 n_laws_toItem [((.t 12), 0)]) .unit,
  .p (.fadr 14 (.t 3) 3) .unit,
  .p (.store (.t 14) (.t 13) 4) .unit])
 (.seq (.reg none [.p (.fadr 15 (.t 1) 7) .unit,
  .p (.load 16 (.t 15) 1 false) .unit,
  .p (.callB 17 n_laws_toIntS [((.t 16), 0)]) .unit,
  .p (.fadr 18 (.t 3) 7) .unit,
  .p (.storeT (.t 18) 17 1) .unit])
 (.seq (.reg none [.p (.loadT 19 (.t 3) 8 true) .unit,
  .p (.storeT (.t 2) 19 8) .unit])
 .ret))))))),
 20, 1, [.c 2 8 true]⟩
theorem m_laws_toEvent : mH Try.prog 151 [(3, 4, .t), (5, 4, .t), (6, 0, .t), (6, 1, .t)] = some (F_laws_toEvent.code.x, F_laws_toEvent.N, F_laws_toEvent.np, F_laws_toEvent.res) := by kernel_rfl
noncomputable def T_laws_toEvent : Int × (Int × List (Int)) × (Int × Int × Int × List UInt8) × List (Int) → Option (Int × (Int × List (Int)) × (Int × Int × Int × List UInt8) × List (Int)) := evF [fn_laws_toRing, fn_laws_toItem, fn_laws_toIntS] F_laws_toEvent [.agg (.pair (.int .i64) (.pair (.pair (.int .i64) (.sl false (.int .i64))) (.pair (.pair (.int .i64) (.pair (.int .i64) (.pair (.int .i64) .str))) (.sl false (.int .i64)))))] [] [.agg (.pair (.int .i64) (.pair (.pair (.int .i64) (.sl true (.int .i64))) (.pair (.pair (.int .i64) (.pair (.int .i64) (.pair (.int .i64) .str))) (.sl true (.int .i64)))))] []
noncomputable def fn_laws_toEvent : TFn := ⟨151, [.agg (.pair (.int .i64) (.pair (.pair (.int .i64) (.sl false (.int .i64))) (.pair (.pair (.int .i64) (.pair (.int .i64) (.pair (.int .i64) .str))) (.sl false (.int .i64)))))], [], [.agg (.pair (.int .i64) (.pair (.pair (.int .i64) (.sl true (.int .i64))) (.pair (.pair (.int .i64) (.pair (.int .i64) (.pair (.int .i64) .str))) (.sl true (.int .i64)))))], [], T_laws_toEvent⟩
theorem ok_laws_toEvent : FnOk Try.prog fn_laws_toEvent := evF_ok mixed (allOk_cons ok_laws_toRing (allOk_cons ok_laws_toItem (allOk_cons ok_laws_toIntS allOk_nil))) m_laws_toEvent (by decide)
def B_laws_toEventS_1 : TC := (.seq (.seq (.reg none [.p (.mv 8 (.t 4)) .unit,
  .p (.mv 9 (.t 0)) .unit,
  .p (.lenB 10 (.t 9)) .unit,
  .p (.bin 11 false .lss (.t 8) (.t 10)) .unit])
 (.cond (.t 11) .skip (.exit 0)))
 (.seq (.block 1 (.reg none [.p (.mvA 14 3) .unit,
  .p (.mv 15 (.t 4)) .unit,
  .p (.mv 16 (.t 0)) .unit,
  .p (.mv 17 (.t 4)) .unit,
  .p (.iadr 18 8 (.t 16) (.t 17)) .unit,
  .p (.load 19 (.t 18) 8 true) .unit,
  .p (.callB 20 n_laws_toEvent [((.t 19), 0)]) .unit,
  .p (.iadr 21 8 (.t 14) (.t 15)) .unit,
  .p (.storeT (.t 21) 20 8) .unit]))
 (.reg none [.p (.mv 12 (.t 4)) .unit,
  .p (.bin 13 false .add (.t 12) (.c (.int .i64 1))) .unit,
  .p (.mv 4 (.t 13)) .unit])))
noncomputable def L_laws_toEventS_1 : Nat → (List (Int × (Int × List (Int)) × (Int × Int × Int × List UInt8) × List (Int))) × (List (Int × (Int × List (Int)) × (Int × Int × Int × List UInt8) × List (Int))) × Int → Option ((List (Int × (Int × List (Int)) × (Int × Int × Int × List UInt8) × List (Int))) ⊕ (List (Int × (Int × List (Int)) × (Int × Int × Int × List UInt8) × List (Int)))) := evL [fn_laws_toEvent] (finT [.t 2] [] [.cell (.sl true (.pair (.int .i64) (.pair (.pair (.int .i64) (.sl true (.int .i64))) (.pair (.pair (.int .i64) (.pair (.int .i64) (.pair (.int .i64) .str))) (.sl true (.int .i64))))))]) 0 ⟨[(0, true), (3, false), (4, false)], [.cell (.sl false (.pair (.int .i64) (.pair (.pair (.int .i64) (.sl false (.int .i64))) (.pair (.pair (.int .i64) (.pair (.int .i64) (.pair (.int .i64) .str))) (.sl false (.int .i64)))))), .cell (.sl true (.pair (.int .i64) (.pair (.pair (.int .i64) (.sl true (.int .i64))) (.pair (.pair (.int .i64) (.pair (.int .i64) (.pair (.int .i64) .str))) (.sl true (.int .i64)))))), .cell (.int .i64)]⟩ ⟨[(3, false)], [.cell (.sl true (.pair (.int .i64) (.pair (.pair (.int .i64) (.sl true (.int .i64))) (.pair (.pair (.int .i64) (.pair (.int .i64) (.pair (.int .i64) .str))) (.sl true (.int .i64))))))]⟩ B_laws_toEventS_1
def F_laws_toEventS : TF := ⟨(.seq (.reg none [.p (.mvN 2 8) .unit])
 (.seq (.reg none [.p (.mv 5 (.t 0)) .unit,
  .p (.lenB 6 (.t 5)) .unit,
  .p (.mkS 7 104 [(.lit (.int .i64 0)), (.lit (.int .i64 0)), (.sl true 1 []), (.lit (.int .i64 0)), (.lit (.int .i64 0)), (.lit (.int .i64 0)), (.lit (.string (ba []))), (.sl true 1 [])] (.t 6) (.t 6)) (.pair (.int .i64) (.pair (.pair (.int .i64) (.sl true (.int .i64))) (.pair (.pair (.int .i64) (.pair (.int .i64) (.pair (.int .i64) .str))) (.sl true (.int .i64))))),
  .p (.mvT 3 7) .unit])
 (.seq (.seq (.reg none [.p (.mv 4 (.c (.int .i64 0))) .unit])
 (.jl 0 ⟨[(0, true), (3, false), (4, false)], [.cell (.sl false (.pair (.int .i64) (.pair (.pair (.int .i64) (.sl false (.int .i64))) (.pair (.pair (.int .i64) (.pair (.int .i64) (.pair (.int .i64) .str))) (.sl false (.int .i64)))))), .cell (.sl true (.pair (.int .i64) (.pair (.pair (.int .i64) (.sl true (.int .i64))) (.pair (.pair (.int .i64) (.pair (.int .i64) (.pair (.int .i64) .str))) (.sl true (.int .i64)))))), .cell (.int .i64)]⟩ ⟨[(3, false)], [.cell (.sl true (.pair (.int .i64) (.pair (.pair (.int .i64) (.sl true (.int .i64))) (.pair (.pair (.int .i64) (.pair (.int .i64) (.pair (.int .i64) .str))) (.sl true (.int .i64))))))]⟩ B_laws_toEventS_1))
 (.seq (.reg none [.p (.mvT 22 3) .unit,
  .p (.mvT 2 22) .unit])
 .ret)))),
 23, 1, [.t 2]⟩
theorem m_laws_toEventS : mH Try.prog 117 [(1, 3, .t), (5, 0, .v), (5, 8, .t), (6, 0, .t), (6, 1, .t)] = some (F_laws_toEventS.code.x, F_laws_toEventS.N, F_laws_toEventS.np, F_laws_toEventS.res) := by kernel_rfl
noncomputable def T_laws_toEventS : List (Int × (Int × List (Int)) × (Int × Int × Int × List UInt8) × List (Int)) → Option (List (Int × (Int × List (Int)) × (Int × Int × Int × List UInt8) × List (Int))) := evF [fn_laws_toEvent] F_laws_toEventS [.cell (.sl false (.pair (.int .i64) (.pair (.pair (.int .i64) (.sl false (.int .i64))) (.pair (.pair (.int .i64) (.pair (.int .i64) (.pair (.int .i64) .str))) (.sl false (.int .i64))))))] [] [.cell (.sl true (.pair (.int .i64) (.pair (.pair (.int .i64) (.sl true (.int .i64))) (.pair (.pair (.int .i64) (.pair (.int .i64) (.pair (.int .i64) .str))) (.sl true (.int .i64))))))] []
noncomputable def fn_laws_toEventS : TFn := ⟨117, [.cell (.sl false (.pair (.int .i64) (.pair (.pair (.int .i64) (.sl false (.int .i64))) (.pair (.pair (.int .i64) (.pair (.int .i64) (.pair (.int .i64) .str))) (.sl false (.int .i64))))))], [], [.cell (.sl true (.pair (.int .i64) (.pair (.pair (.int .i64) (.sl true (.int .i64))) (.pair (.pair (.int .i64) (.pair (.int .i64) (.pair (.int .i64) .str))) (.sl true (.int .i64))))))], [], T_laws_toEventS⟩
theorem ok_laws_toEventS : FnOk Try.prog fn_laws_toEventS := evF_ok mixed (allOk_cons ok_laws_toEvent allOk_nil) m_laws_toEventS (by decide)
def F_laws_toDaemon : TF := ⟨(.seq (.reg none [.p (.box 1 (.t 0)) .unit,
  .p (.alloc 2 [(.lit (.int .i64 0)), (.lit (.bool false)), (.lit (.int .i64 0)), (.lit (.int .i64 0)), (.sl true 1 []), (.sl true 4 []), (.sl true 1 []), (.sl true 1 []), (.lit (.int .i64 0)), (.lit (.int .i64 0)), (.lit (.int .i64 0)), (.lit (.int .i64 0)), (.lit (.int .i64 0)), (.lit (.int .i64 0)), (.lit (.int .i64 0)), (.lit (.int .i64 0)), (.lit (.int .i64 0)), (.sl true 1 []), (.lit (.int .i64 0)), (.lit (.int .i64 0)), (.lit (.int .i64 0)), (.sl true 1 []), (.sl true 4 []), (.sl true 8 [])]) .unit])
 (.seq (.reg none [.p (.alloc 3 [(.lit (.int .i64 0)), (.lit (.bool false)), (.lit (.int .i64 0)), (.lit (.int .i64 0)), (.sl true 1 []), (.sl true 4 []), (.sl true 1 []), (.sl true 1 []), (.lit (.int .i64 0)), (.lit (.int .i64 0)), (.lit (.int .i64 0)), (.lit (.int .i64 0)), (.lit (.int .i64 0)), (.lit (.int .i64 0)), (.lit (.int .i64 0)), (.lit (.int .i64 0)), (.lit (.int .i64 0)), (.sl true 1 []), (.lit (.int .i64 0)), (.lit (.int .i64 0)), (.lit (.int .i64 0)), (.sl true 1 []), (.sl true 4 []), (.sl true 8 [])]) .unit])
 (.seq (.reg none [.p (.fadr 4 (.t 1) 0) .unit,
  .p (.load 5 (.t 4) 1 false) .unit,
  .p (.fadr 6 (.t 3) 0) .unit,
  .p (.store (.t 6) (.t 5) 1) .unit])
 (.seq (.reg none [.p (.fadr 7 (.t 1) 1) .unit,
  .p (.load 8 (.t 7) 1 false) .unit,
  .p (.fadr 9 (.t 3) 1) .unit,
  .p (.store (.t 9) (.t 8) 1) .unit])
 (.seq (.reg none [.p (.fadr 10 (.t 1) 2) .unit,
  .p (.load 11 (.t 10) 16 true) .unit,
  .p (.callB 12 n_laws_toMate [((.t 11), 0)]) .unit,
  .p (.fadr 13 (.t 3) 2) .unit,
  .p (.storeT (.t 13) 12 16) .unit])
 (.seq (.reg none [.p (.fadr 14 (.t 1) 18) .unit,
  .p (.load 15 (.t 14) 1 false) .unit,
  .p (.fadr 16 (.t 3) 18) .unit,
  .p (.store (.t 16) (.t 15) 1) .unit])
 (.seq (.reg none [.p (.fadr 17 (.t 1) 19) .unit,
  .p (.load 18 (.t 17) 1 false) .unit,
  .p (.fadr 19 (.t 3) 19) .unit,
  .p (.store (.t 19) (.t 18) 1) .unit])
 (.seq (.reg none [.p (.fadr 20 (.t 1) 20) .unit,
  .p (.load 21 (.t 20) 2 true) .unit,
  .p (.callB 22 n_laws_toRing [((.t 21), 0)]) .unit,
  .p (.fadr 23 (.t 3) 20) .unit,
  .p (.storeT (.t 23) 22 2) .unit])
 (.seq (.reg none [.p (.fadr 24 (.t 1) 22) .unit,
  .p (.load 25 (.t 24) 1 false) .unit,
  .p (.callB 26 n_laws_toBundleS [((.t 25), 0)]) .unit,
  .p (.fadr 27 (.t 3) 22) .unit,
  .p (.storeT (.t 27) 26 1) .unit])
 (.seq (.reg none [.p (.fadr 28 (.t 1) 23) .unit,
  .p (.load 29 (.t 28) 1 false) .unit,
  .p (.callB 30 n_laws_toEventS [((.t 29), 0)]) .unit,
  .p (.fadr 31 (.t 3) 23) .unit,
  .p (.storeT (.t 31) 30 1) .unit])
 (.seq (.reg none [.p (.loadT 32 (.t 3) 24 true) .unit,
  .p (.storeT (.t 2) 32 24) .unit])
 .ret))))))))))),
 33, 1, [.c 2 24 true]⟩
theorem m_laws_toDaemon : mH Try.prog 149 [(4, 4, .t), (7, 4, .t), (8, 4, .t), (9, 4, .t), (10, 0, .t), (10, 1, .t)] = some (F_laws_toDaemon.code.x, F_laws_toDaemon.N, F_laws_toDaemon.np, F_laws_toDaemon.res) := by kernel_rfl
noncomputable def T_laws_toDaemon : Int × Bool × (Int × (Int × List (Int)) × List (Int × Int × Int × List UInt8) × List (Int) × List (List UInt8) × Int × Int × Int × Int × Int × Int × Int × Int × Int × List (Int)) × Int × Int × (Int × List (Int)) × List (Int × Int × Int × List (Int × Int × Int × List UInt8)) × List (Int × (Int × List (Int)) × (Int × Int × Int × List UInt8) × List (Int)) → Option (Int × Bool × (Int × (Int × List (Int)) × List (Int × Int × Int × List UInt8) × List (Int) × List (List UInt8) × Int × Int × Int × Int × Int × Int × Int × Int × Int × List (Int)) × Int × Int × (Int × List (Int)) × List (Int × Int × Int × List (Int × Int × Int × List UInt8)) × List (Int × (Int × List (Int)) × (Int × Int × Int × List UInt8) × List (Int))) := evF [fn_laws_toMate, fn_laws_toRing, fn_laws_toBundleS, fn_laws_toEventS] F_laws_toDaemon [.agg (.pair (.int .i64) (.pair .bool (.pair (.pair (.int .i64) (.pair (.pair (.int .i64) (.sl false (.int .i64))) (.pair (.sl false (.pair (.int .i64) (.pair (.int .i64) (.pair (.int .i64) .str)))) (.pair (.sl false (.int .i64)) (.pair (.sl false .str) (.pair (.int .i64) (.pair (.int .i64) (.pair (.int .i64) (.pair (.int .i64) (.pair (.int .i64) (.pair (.int .i64) (.pair (.int .i64) (.pair (.int .i64) (.pair (.int .i64) (.sl false (.int .i64)))))))))))))))) (.pair (.int .i64) (.pair (.int .i64) (.pair (.pair (.int .i64) (.sl false (.int .i64))) (.pair (.sl false (.pair (.int .i64) (.pair (.int .i64) (.pair (.int .i64) (.sl false (.pair (.int .i64) (.pair (.int .i64) (.pair (.int .i64) .str)))))))) (.sl false (.pair (.int .i64) (.pair (.pair (.int .i64) (.sl false (.int .i64))) (.pair (.pair (.int .i64) (.pair (.int .i64) (.pair (.int .i64) .str))) (.sl false (.int .i64)))))))))))))] [] [.agg (.pair (.int .i64) (.pair .bool (.pair (.pair (.int .i64) (.pair (.pair (.int .i64) (.sl true (.int .i64))) (.pair (.sl true (.pair (.int .i64) (.pair (.int .i64) (.pair (.int .i64) .str)))) (.pair (.sl true (.int .i64)) (.pair (.sl true .str) (.pair (.int .i64) (.pair (.int .i64) (.pair (.int .i64) (.pair (.int .i64) (.pair (.int .i64) (.pair (.int .i64) (.pair (.int .i64) (.pair (.int .i64) (.pair (.int .i64) (.sl true (.int .i64)))))))))))))))) (.pair (.int .i64) (.pair (.int .i64) (.pair (.pair (.int .i64) (.sl true (.int .i64))) (.pair (.sl true (.pair (.int .i64) (.pair (.int .i64) (.pair (.int .i64) (.sl true (.pair (.int .i64) (.pair (.int .i64) (.pair (.int .i64) .str)))))))) (.sl true (.pair (.int .i64) (.pair (.pair (.int .i64) (.sl true (.int .i64))) (.pair (.pair (.int .i64) (.pair (.int .i64) (.pair (.int .i64) .str))) (.sl true (.int .i64)))))))))))))] []
noncomputable def fn_laws_toDaemon : TFn := ⟨149, [.agg (.pair (.int .i64) (.pair .bool (.pair (.pair (.int .i64) (.pair (.pair (.int .i64) (.sl false (.int .i64))) (.pair (.sl false (.pair (.int .i64) (.pair (.int .i64) (.pair (.int .i64) .str)))) (.pair (.sl false (.int .i64)) (.pair (.sl false .str) (.pair (.int .i64) (.pair (.int .i64) (.pair (.int .i64) (.pair (.int .i64) (.pair (.int .i64) (.pair (.int .i64) (.pair (.int .i64) (.pair (.int .i64) (.pair (.int .i64) (.sl false (.int .i64)))))))))))))))) (.pair (.int .i64) (.pair (.int .i64) (.pair (.pair (.int .i64) (.sl false (.int .i64))) (.pair (.sl false (.pair (.int .i64) (.pair (.int .i64) (.pair (.int .i64) (.sl false (.pair (.int .i64) (.pair (.int .i64) (.pair (.int .i64) .str)))))))) (.sl false (.pair (.int .i64) (.pair (.pair (.int .i64) (.sl false (.int .i64))) (.pair (.pair (.int .i64) (.pair (.int .i64) (.pair (.int .i64) .str))) (.sl false (.int .i64)))))))))))))], [], [.agg (.pair (.int .i64) (.pair .bool (.pair (.pair (.int .i64) (.pair (.pair (.int .i64) (.sl true (.int .i64))) (.pair (.sl true (.pair (.int .i64) (.pair (.int .i64) (.pair (.int .i64) .str)))) (.pair (.sl true (.int .i64)) (.pair (.sl true .str) (.pair (.int .i64) (.pair (.int .i64) (.pair (.int .i64) (.pair (.int .i64) (.pair (.int .i64) (.pair (.int .i64) (.pair (.int .i64) (.pair (.int .i64) (.pair (.int .i64) (.sl true (.int .i64)))))))))))))))) (.pair (.int .i64) (.pair (.int .i64) (.pair (.pair (.int .i64) (.sl true (.int .i64))) (.pair (.sl true (.pair (.int .i64) (.pair (.int .i64) (.pair (.int .i64) (.sl true (.pair (.int .i64) (.pair (.int .i64) (.pair (.int .i64) .str)))))))) (.sl true (.pair (.int .i64) (.pair (.pair (.int .i64) (.sl true (.int .i64))) (.pair (.pair (.int .i64) (.pair (.int .i64) (.pair (.int .i64) .str))) (.sl true (.int .i64)))))))))))))], [], T_laws_toDaemon⟩
theorem ok_laws_toDaemon : FnOk Try.prog fn_laws_toDaemon := evF_ok mixed (allOk_cons ok_laws_toMate (allOk_cons ok_laws_toRing (allOk_cons ok_laws_toBundleS (allOk_cons ok_laws_toEventS allOk_nil)))) m_laws_toDaemon (by decide)
def B_laws_toDaemonS_1 : TC := (.seq (.seq (.reg none [.p (.mv 8 (.t 4)) .unit,
  .p (.mv 9 (.t 0)) .unit,
  .p (.lenB 10 (.t 9)) .unit,
  .p (.bin 11 false .lss (.t 8) (.t 10)) .unit])
 (.cond (.t 11) .skip (.exit 0)))
 (.seq (.block 1 (.reg none [.p (.mvA 14 3) .unit,
  .p (.mv 15 (.t 4)) .unit,
  .p (.mv 16 (.t 0)) .unit,
  .p (.mv 17 (.t 4)) .unit,
  .p (.iadr 18 24 (.t 16) (.t 17)) .unit,
  .p (.load 19 (.t 18) 24 true) .unit,
  .p (.callB 20 n_laws_toDaemon [((.t 19), 0)]) .unit,
  .p (.iadr 21 24 (.t 14) (.t 15)) .unit,
  .p (.storeT (.t 21) 20 24) .unit]))
 (.reg none [.p (.mv 12 (.t 4)) .unit,
  .p (.bin 13 false .add (.t 12) (.c (.int .i64 1))) .unit,
  .p (.mv 4 (.t 13)) .unit])))
noncomputable def L_laws_toDaemonS_1 : Nat → (List (Int × Bool × (Int × (Int × List (Int)) × List (Int × Int × Int × List UInt8) × List (Int) × List (List UInt8) × Int × Int × Int × Int × Int × Int × Int × Int × Int × List (Int)) × Int × Int × (Int × List (Int)) × List (Int × Int × Int × List (Int × Int × Int × List UInt8)) × List (Int × (Int × List (Int)) × (Int × Int × Int × List UInt8) × List (Int)))) × (List (Int × Bool × (Int × (Int × List (Int)) × List (Int × Int × Int × List UInt8) × List (Int) × List (List UInt8) × Int × Int × Int × Int × Int × Int × Int × Int × Int × List (Int)) × Int × Int × (Int × List (Int)) × List (Int × Int × Int × List (Int × Int × Int × List UInt8)) × List (Int × (Int × List (Int)) × (Int × Int × Int × List UInt8) × List (Int)))) × Int → Option ((List (Int × Bool × (Int × (Int × List (Int)) × List (Int × Int × Int × List UInt8) × List (Int) × List (List UInt8) × Int × Int × Int × Int × Int × Int × Int × Int × Int × List (Int)) × Int × Int × (Int × List (Int)) × List (Int × Int × Int × List (Int × Int × Int × List UInt8)) × List (Int × (Int × List (Int)) × (Int × Int × Int × List UInt8) × List (Int)))) ⊕ (List (Int × Bool × (Int × (Int × List (Int)) × List (Int × Int × Int × List UInt8) × List (Int) × List (List UInt8) × Int × Int × Int × Int × Int × Int × Int × Int × Int × List (Int)) × Int × Int × (Int × List (Int)) × List (Int × Int × Int × List (Int × Int × Int × List UInt8)) × List (Int × (Int × List (Int)) × (Int × Int × Int × List UInt8) × List (Int))))) := evL [fn_laws_toDaemon] (finT [.t 2] [] [.cell (.sl true (.pair (.int .i64) (.pair .bool (.pair (.pair (.int .i64) (.pair (.pair (.int .i64) (.sl true (.int .i64))) (.pair (.sl true (.pair (.int .i64) (.pair (.int .i64) (.pair (.int .i64) .str)))) (.pair (.sl true (.int .i64)) (.pair (.sl true .str) (.pair (.int .i64) (.pair (.int .i64) (.pair (.int .i64) (.pair (.int .i64) (.pair (.int .i64) (.pair (.int .i64) (.pair (.int .i64) (.pair (.int .i64) (.pair (.int .i64) (.sl true (.int .i64)))))))))))))))) (.pair (.int .i64) (.pair (.int .i64) (.pair (.pair (.int .i64) (.sl true (.int .i64))) (.pair (.sl true (.pair (.int .i64) (.pair (.int .i64) (.pair (.int .i64) (.sl true (.pair (.int .i64) (.pair (.int .i64) (.pair (.int .i64) .str)))))))) (.sl true (.pair (.int .i64) (.pair (.pair (.int .i64) (.sl true (.int .i64))) (.pair (.pair (.int .i64) (.pair (.int .i64) (.pair (.int .i64) .str))) (.sl true (.int .i64))))))))))))))]) 0 ⟨[(0, true), (3, false), (4, false)], [.cell (.sl false (.pair (.int .i64) (.pair .bool (.pair (.pair (.int .i64) (.pair (.pair (.int .i64) (.sl false (.int .i64))) (.pair (.sl false (.pair (.int .i64) (.pair (.int .i64) (.pair (.int .i64) .str)))) (.pair (.sl false (.int .i64)) (.pair (.sl false .str) (.pair (.int .i64) (.pair (.int .i64) (.pair (.int .i64) (.pair (.int .i64) (.pair (.int .i64) (.pair (.int .i64) (.pair (.int .i64) (.pair (.int .i64) (.pair (.int .i64) (.sl false (.int .i64)))))))))))))))) (.pair (.int .i64) (.pair (.int .i64) (.pair (.pair (.int .i64) (.sl false (.int .i64))) (.pair (.sl false (.pair (.int .i64) (.pair (.int .i64) (.pair (.int .i64) (.sl false (.pair (.int .i64) (.pair (.int .i64) (.pair (.int .i64) .str)))))))) (.sl false (.pair (.int .i64) (.pair (.pair (.int .i64) (.sl false (.int .i64))) (.pair (.pair (.int .i64) (.pair (.int .i64) (.pair (.int .i64) .str))) (.sl false (.int .i64)))))))))))))), .cell (.sl true (.pair (.int .i64) (.pair .bool (.pair (.pair (.int .i64) (.pair (.pair (.int .i64) (.sl true (.int .i64))) (.pair (.sl true (.pair (.int .i64) (.pair (.int .i64) (.pair (.int .i64) .str)))) (.pair (.sl true (.int .i64)) (.pair (.sl true .str) (.pair (.int .i64) (.pair (.int .i64) (.pair (.int .i64) (.pair (.int .i64) (.pair (.int .i64) (.pair (.int .i64) (.pair (.int .i64) (.pair (.int .i64) (.pair (.int .i64) (.sl true (.int .i64)))))))))))))))) (.pair (.int .i64) (.pair (.int .i64) (.pair (.pair (.int .i64) (.sl true (.int .i64))) (.pair (.sl true (.pair (.int .i64) (.pair (.int .i64) (.pair (.int .i64) (.sl true (.pair (.int .i64) (.pair (.int .i64) (.pair (.int .i64) .str)))))))) (.sl true (.pair (.int .i64) (.pair (.pair (.int .i64) (.sl true (.int .i64))) (.pair (.pair (.int .i64) (.pair (.int .i64) (.pair (.int .i64) .str))) (.sl true (.int .i64)))))))))))))), .cell (.int .i64)]⟩ ⟨[(3, false)], [.cell (.sl true (.pair (.int .i64) (.pair .bool (.pair (.pair (.int .i64) (.pair (.pair (.int .i64) (.sl true (.int .i64))) (.pair (.sl true (.pair (.int .i64) (.pair (.int .i64) (.pair (.int .i64) .str)))) (.pair (.sl true (.int .i64)) (.pair (.sl true .str) (.pair (.int .i64) (.pair (.int .i64) (.pair (.int .i64) (.pair (.int .i64) (.pair (.int .i64) (.pair (.int .i64) (.pair (.int .i64) (.pair (.int .i64) (.pair (.int .i64) (.sl true (.int .i64)))))))))))))))) (.pair (.int .i64) (.pair (.int .i64) (.pair (.pair (.int .i64) (.sl true (.int .i64))) (.pair (.sl true (.pair (.int .i64) (.pair (.int .i64) (.pair (.int .i64) (.sl true (.pair (.int .i64) (.pair (.int .i64) (.pair (.int .i64) .str)))))))) (.sl true (.pair (.int .i64) (.pair (.pair (.int .i64) (.sl true (.int .i64))) (.pair (.pair (.int .i64) (.pair (.int .i64) (.pair (.int .i64) .str))) (.sl true (.int .i64))))))))))))))]⟩ B_laws_toDaemonS_1
def F_laws_toDaemonS : TF := ⟨(.seq (.reg none [.p (.mvN 2 24) .unit])
 (.seq (.reg none [.p (.mv 5 (.t 0)) .unit,
  .p (.lenB 6 (.t 5)) .unit,
  .p (.mkS 7 320 [(.lit (.int .i64 0)), (.lit (.bool false)), (.lit (.int .i64 0)), (.lit (.int .i64 0)), (.sl true 1 []), (.sl true 4 []), (.sl true 1 []), (.sl true 1 []), (.lit (.int .i64 0)), (.lit (.int .i64 0)), (.lit (.int .i64 0)), (.lit (.int .i64 0)), (.lit (.int .i64 0)), (.lit (.int .i64 0)), (.lit (.int .i64 0)), (.lit (.int .i64 0)), (.lit (.int .i64 0)), (.sl true 1 []), (.lit (.int .i64 0)), (.lit (.int .i64 0)), (.lit (.int .i64 0)), (.sl true 1 []), (.sl true 4 []), (.sl true 8 [])] (.t 6) (.t 6)) (.pair (.int .i64) (.pair .bool (.pair (.pair (.int .i64) (.pair (.pair (.int .i64) (.sl true (.int .i64))) (.pair (.sl true (.pair (.int .i64) (.pair (.int .i64) (.pair (.int .i64) .str)))) (.pair (.sl true (.int .i64)) (.pair (.sl true .str) (.pair (.int .i64) (.pair (.int .i64) (.pair (.int .i64) (.pair (.int .i64) (.pair (.int .i64) (.pair (.int .i64) (.pair (.int .i64) (.pair (.int .i64) (.pair (.int .i64) (.sl true (.int .i64)))))))))))))))) (.pair (.int .i64) (.pair (.int .i64) (.pair (.pair (.int .i64) (.sl true (.int .i64))) (.pair (.sl true (.pair (.int .i64) (.pair (.int .i64) (.pair (.int .i64) (.sl true (.pair (.int .i64) (.pair (.int .i64) (.pair (.int .i64) .str)))))))) (.sl true (.pair (.int .i64) (.pair (.pair (.int .i64) (.sl true (.int .i64))) (.pair (.pair (.int .i64) (.pair (.int .i64) (.pair (.int .i64) .str))) (.sl true (.int .i64))))))))))))),
  .p (.mvT 3 7) .unit])
 (.seq (.seq (.reg none [.p (.mv 4 (.c (.int .i64 0))) .unit])
 (.jl 0 ⟨[(0, true), (3, false), (4, false)], [.cell (.sl false (.pair (.int .i64) (.pair .bool (.pair (.pair (.int .i64) (.pair (.pair (.int .i64) (.sl false (.int .i64))) (.pair (.sl false (.pair (.int .i64) (.pair (.int .i64) (.pair (.int .i64) .str)))) (.pair (.sl false (.int .i64)) (.pair (.sl false .str) (.pair (.int .i64) (.pair (.int .i64) (.pair (.int .i64) (.pair (.int .i64) (.pair (.int .i64) (.pair (.int .i64) (.pair (.int .i64) (.pair (.int .i64) (.pair (.int .i64) (.sl false (.int .i64)))))))))))))))) (.pair (.int .i64) (.pair (.int .i64) (.pair (.pair (.int .i64) (.sl false (.int .i64))) (.pair (.sl false (.pair (.int .i64) (.pair (.int .i64) (.pair (.int .i64) (.sl false (.pair (.int .i64) (.pair (.int .i64) (.pair (.int .i64) .str)))))))) (.sl false (.pair (.int .i64) (.pair (.pair (.int .i64) (.sl false (.int .i64))) (.pair (.pair (.int .i64) (.pair (.int .i64) (.pair (.int .i64) .str))) (.sl false (.int .i64)))))))))))))), .cell (.sl true (.pair (.int .i64) (.pair .bool (.pair (.pair (.int .i64) (.pair (.pair (.int .i64) (.sl true (.int .i64))) (.pair (.sl true (.pair (.int .i64) (.pair (.int .i64) (.pair (.int .i64) .str)))) (.pair (.sl true (.int .i64)) (.pair (.sl true .str) (.pair (.int .i64) (.pair (.int .i64) (.pair (.int .i64) (.pair (.int .i64) (.pair (.int .i64) (.pair (.int .i64) (.pair (.int .i64) (.pair (.int .i64) (.pair (.int .i64) (.sl true (.int .i64)))))))))))))))) (.pair (.int .i64) (.pair (.int .i64) (.pair (.pair (.int .i64) (.sl true (.int .i64))) (.pair (.sl true (.pair (.int .i64) (.pair (.int .i64) (.pair (.int .i64) (.sl true (.pair (.int .i64) (.pair (.int .i64) (.pair (.int .i64) .str)))))))) (.sl true (.pair (.int .i64) (.pair (.pair (.int .i64) (.sl true (.int .i64))) (.pair (.pair (.int .i64) (.pair (.int .i64) (.pair (.int .i64) .str))) (.sl true (.int .i64)))))))))))))), .cell (.int .i64)]⟩ ⟨[(3, false)], [.cell (.sl true (.pair (.int .i64) (.pair .bool (.pair (.pair (.int .i64) (.pair (.pair (.int .i64) (.sl true (.int .i64))) (.pair (.sl true (.pair (.int .i64) (.pair (.int .i64) (.pair (.int .i64) .str)))) (.pair (.sl true (.int .i64)) (.pair (.sl true .str) (.pair (.int .i64) (.pair (.int .i64) (.pair (.int .i64) (.pair (.int .i64) (.pair (.int .i64) (.pair (.int .i64) (.pair (.int .i64) (.pair (.int .i64) (.pair (.int .i64) (.sl true (.int .i64)))))))))))))))) (.pair (.int .i64) (.pair (.int .i64) (.pair (.pair (.int .i64) (.sl true (.int .i64))) (.pair (.sl true (.pair (.int .i64) (.pair (.int .i64) (.pair (.int .i64) (.sl true (.pair (.int .i64) (.pair (.int .i64) (.pair (.int .i64) .str)))))))) (.sl true (.pair (.int .i64) (.pair (.pair (.int .i64) (.sl true (.int .i64))) (.pair (.pair (.int .i64) (.pair (.int .i64) (.pair (.int .i64) .str))) (.sl true (.int .i64))))))))))))))]⟩ B_laws_toDaemonS_1))
 (.seq (.reg none [.p (.mvT 22 3) .unit,
  .p (.mvT 2 22) .unit])
 .ret)))),
 23, 1, [.t 2]⟩
theorem m_laws_toDaemonS : mH Try.prog 115 [(1, 3, .t), (5, 0, .v), (5, 8, .t), (6, 0, .t), (6, 1, .t)] = some (F_laws_toDaemonS.code.x, F_laws_toDaemonS.N, F_laws_toDaemonS.np, F_laws_toDaemonS.res) := by kernel_rfl
noncomputable def T_laws_toDaemonS : List (Int × Bool × (Int × (Int × List (Int)) × List (Int × Int × Int × List UInt8) × List (Int) × List (List UInt8) × Int × Int × Int × Int × Int × Int × Int × Int × Int × List (Int)) × Int × Int × (Int × List (Int)) × List (Int × Int × Int × List (Int × Int × Int × List UInt8)) × List (Int × (Int × List (Int)) × (Int × Int × Int × List UInt8) × List (Int))) → Option (List (Int × Bool × (Int × (Int × List (Int)) × List (Int × Int × Int × List UInt8) × List (Int) × List (List UInt8) × Int × Int × Int × Int × Int × Int × Int × Int × Int × List (Int)) × Int × Int × (Int × List (Int)) × List (Int × Int × Int × List (Int × Int × Int × List UInt8)) × List (Int × (Int × List (Int)) × (Int × Int × Int × List UInt8) × List (Int)))) := evF [fn_laws_toDaemon] F_laws_toDaemonS [.cell (.sl false (.pair (.int .i64) (.pair .bool (.pair (.pair (.int .i64) (.pair (.pair (.int .i64) (.sl false (.int .i64))) (.pair (.sl false (.pair (.int .i64) (.pair (.int .i64) (.pair (.int .i64) .str)))) (.pair (.sl false (.int .i64)) (.pair (.sl false .str) (.pair (.int .i64) (.pair (.int .i64) (.pair (.int .i64) (.pair (.int .i64) (.pair (.int .i64) (.pair (.int .i64) (.pair (.int .i64) (.pair (.int .i64) (.pair (.int .i64) (.sl false (.int .i64)))))))))))))))) (.pair (.int .i64) (.pair (.int .i64) (.pair (.pair (.int .i64) (.sl false (.int .i64))) (.pair (.sl false (.pair (.int .i64) (.pair (.int .i64) (.pair (.int .i64) (.sl false (.pair (.int .i64) (.pair (.int .i64) (.pair (.int .i64) .str)))))))) (.sl false (.pair (.int .i64) (.pair (.pair (.int .i64) (.sl false (.int .i64))) (.pair (.pair (.int .i64) (.pair (.int .i64) (.pair (.int .i64) .str))) (.sl false (.int .i64))))))))))))))] [] [.cell (.sl true (.pair (.int .i64) (.pair .bool (.pair (.pair (.int .i64) (.pair (.pair (.int .i64) (.sl true (.int .i64))) (.pair (.sl true (.pair (.int .i64) (.pair (.int .i64) (.pair (.int .i64) .str)))) (.pair (.sl true (.int .i64)) (.pair (.sl true .str) (.pair (.int .i64) (.pair (.int .i64) (.pair (.int .i64) (.pair (.int .i64) (.pair (.int .i64) (.pair (.int .i64) (.pair (.int .i64) (.pair (.int .i64) (.pair (.int .i64) (.sl true (.int .i64)))))))))))))))) (.pair (.int .i64) (.pair (.int .i64) (.pair (.pair (.int .i64) (.sl true (.int .i64))) (.pair (.sl true (.pair (.int .i64) (.pair (.int .i64) (.pair (.int .i64) (.sl true (.pair (.int .i64) (.pair (.int .i64) (.pair (.int .i64) .str)))))))) (.sl true (.pair (.int .i64) (.pair (.pair (.int .i64) (.sl true (.int .i64))) (.pair (.pair (.int .i64) (.pair (.int .i64) (.pair (.int .i64) .str))) (.sl true (.int .i64))))))))))))))] []
noncomputable def fn_laws_toDaemonS : TFn := ⟨115, [.cell (.sl false (.pair (.int .i64) (.pair .bool (.pair (.pair (.int .i64) (.pair (.pair (.int .i64) (.sl false (.int .i64))) (.pair (.sl false (.pair (.int .i64) (.pair (.int .i64) (.pair (.int .i64) .str)))) (.pair (.sl false (.int .i64)) (.pair (.sl false .str) (.pair (.int .i64) (.pair (.int .i64) (.pair (.int .i64) (.pair (.int .i64) (.pair (.int .i64) (.pair (.int .i64) (.pair (.int .i64) (.pair (.int .i64) (.pair (.int .i64) (.sl false (.int .i64)))))))))))))))) (.pair (.int .i64) (.pair (.int .i64) (.pair (.pair (.int .i64) (.sl false (.int .i64))) (.pair (.sl false (.pair (.int .i64) (.pair (.int .i64) (.pair (.int .i64) (.sl false (.pair (.int .i64) (.pair (.int .i64) (.pair (.int .i64) .str)))))))) (.sl false (.pair (.int .i64) (.pair (.pair (.int .i64) (.sl false (.int .i64))) (.pair (.pair (.int .i64) (.pair (.int .i64) (.pair (.int .i64) .str))) (.sl false (.int .i64))))))))))))))], [], [.cell (.sl true (.pair (.int .i64) (.pair .bool (.pair (.pair (.int .i64) (.pair (.pair (.int .i64) (.sl true (.int .i64))) (.pair (.sl true (.pair (.int .i64) (.pair (.int .i64) (.pair (.int .i64) .str)))) (.pair (.sl true (.int .i64)) (.pair (.sl true .str) (.pair (.int .i64) (.pair (.int .i64) (.pair (.int .i64) (.pair (.int .i64) (.pair (.int .i64) (.pair (.int .i64) (.pair (.int .i64) (.pair (.int .i64) (.pair (.int .i64) (.sl true (.int .i64)))))))))))))))) (.pair (.int .i64) (.pair (.int .i64) (.pair (.pair (.int .i64) (.sl true (.int .i64))) (.pair (.sl true (.pair (.int .i64) (.pair (.int .i64) (.pair (.int .i64) (.sl true (.pair (.int .i64) (.pair (.int .i64) (.pair (.int .i64) .str)))))))) (.sl true (.pair (.int .i64) (.pair (.pair (.int .i64) (.sl true (.int .i64))) (.pair (.pair (.int .i64) (.pair (.int .i64) (.pair (.int .i64) .str))) (.sl true (.int .i64))))))))))))))], [], T_laws_toDaemonS⟩
theorem ok_laws_toDaemonS : FnOk Try.prog fn_laws_toDaemonS := evF_ok mixed (allOk_cons ok_laws_toDaemon allOk_nil) m_laws_toDaemonS (by decide)
def F_laws_toLetter : TF := ⟨(.seq (.reg none [.p (.box 1 (.t 0)) .unit,
  .p (.alloc 2 [(.lit (.int .i64 0)), (.lit (.int .i64 0)), (.lit (.int .i64 0)), (.lit (.int .i64 0)), (.lit (.int .i64 0)), (.lit (.int .i64 0)), (.lit (.string (ba []))), (.lit (.int .i64 0)), (.lit (.int .i64 0)), (.lit (.int .i64 0)), (.lit (.int .i64 0)), (.lit (.int .i64 0)), (.sl true 1 []), (.lit (.int .i64 0)), (.lit (.int .i64 0)), (.lit (.int .i64 0)), (.sl true 4 [])]) .unit])
 (.seq (.reg none [.p (.alloc 3 [(.lit (.int .i64 0)), (.lit (.int .i64 0)), (.lit (.int .i64 0)), (.lit (.int .i64 0)), (.lit (.int .i64 0)), (.lit (.int .i64 0)), (.lit (.string (ba []))), (.lit (.int .i64 0)), (.lit (.int .i64 0)), (.lit (.int .i64 0)), (.lit (.int .i64 0)), (.lit (.int .i64 0)), (.sl true 1 []), (.lit (.int .i64 0)), (.lit (.int .i64 0)), (.lit (.int .i64 0)), (.sl true 4 [])]) .unit])
 (.seq (.reg none [.p (.fadr 4 (.t 1) 0) .unit,
  .p (.load 5 (.t 4) 1 false) .unit,
  .p (.fadr 6 (.t 3) 0) .unit,
  .p (.store (.t 6) (.t 5) 1) .unit])
 (.seq (.reg none [.p (.fadr 7 (.t 1) 1) .unit,
  .p (.load 8 (.t 7) 1 false) .unit,
  .p (.fadr 9 (.t 3) 1) .unit,
  .p (.store (.t 9) (.t 8) 1) .unit])
 (.seq (.reg none [.p (.fadr 10 (.t 1) 2) .unit,
  .p (.load 11 (.t 10) 1 false) .unit,
  .p (.fadr 12 (.t 3) 2) .unit,
  .p (.store (.t 12) (.t 11) 1) .unit])
 (.seq (.reg none [.p (.fadr 13 (.t 1) 3) .unit,
  .p (.load 14 (.t 13) 4 true) .unit,
  .p (.callB 15 n_laws_toItem [((.t 14), 0)]) .unit,
  .p (.fadr 16 (.t 3) 3) .unit,
  .p (.store (.t 16) (.t 15) 4) .unit])
 (.seq (.reg none [.p (.fadr 17 (.t 1) 7) .unit,
  .p (.load 18 (.t 17) 6 true) .unit,
  .p (.callB 19 n_laws_toToken [((.t 18), 0)]) .unit,
  .p (.fadr 20 (.t 3) 7) .unit,
  .p (.storeT (.t 20) 19 6) .unit])
 (.seq (.reg none [.p (.fadr 21 (.t 1) 13) .unit,
  .p (.load 22 (.t 21) 4 true) .unit,
  .p (.callB 23 n_laws_toBundle [((.t 22), 0)]) .unit,
  .p (.fadr 24 (.t 3) 13) .unit,
  .p (.storeT (.t 24) 23 4) .unit])
 (.seq (.reg none [.p (.loadT 25 (.t 3) 17 true) .unit,
  .p (.storeT (.t 2) 25 17) .unit])
 .ret))))))))),
 26, 1, [.c 2 17 true]⟩
theorem m_laws_toLetter : mH Try.prog 150 [(6, 4, .t), (7, 4, .t), (8, 0, .t), (8, 1, .t)] = some (F_laws_toLetter.code.x, F_laws_toLetter.N, F_laws_toLetter.np, F_laws_toLetter.res) := by kernel_rfl
noncomputable def T_laws_toLetter : Int × Int × Int × (Int × Int × Int × List UInt8) × (Int × Int × Int × Int × Int × List (Int)) × Int × Int × Int × List (Int × Int × Int × List UInt8) → Option (Int × Int × Int × (Int × Int × Int × List UInt8) × (Int × Int × Int × Int × Int × List (Int)) × Int × Int × Int × List (Int × Int × Int × List UInt8)) := evF [fn_laws_toItem, fn_laws_toToken, fn_laws_toBundle] F_laws_toLetter [.agg (.pair (.int .i64) (.pair (.int .i64) (.pair (.int .i64) (.pair (.pair (.int .i64) (.pair (.int .i64) (.pair (.int .i64) .str))) (.pair (.pair (.int .i64) (.pair (.int .i64) (.pair (.int .i64) (.pair (.int .i64) (.pair (.int .i64) (.sl false (.int .i64))))))) (.pair (.int .i64) (.pair (.int .i64) (.pair (.int .i64) (.sl false (.pair (.int .i64) (.pair (.int .i64) (.pair (.int .i64) .str))))))))))))] [] [.agg (.pair (.int .i64) (.pair (.int .i64) (.pair (.int .i64) (.pair (.pair (.int .i64) (.pair (.int .i64) (.pair (.int .i64) .str))) (.pair (.pair (.int .i64) (.pair (.int .i64) (.pair (.int .i64) (.pair (.int .i64) (.pair (.int .i64) (.sl true (.int .i64))))))) (.pair (.int .i64) (.pair (.int .i64) (.pair (.int .i64) (.sl true (.pair (.int .i64) (.pair (.int .i64) (.pair (.int .i64) .str))))))))))))] []
noncomputable def fn_laws_toLetter : TFn := ⟨150, [.agg (.pair (.int .i64) (.pair (.int .i64) (.pair (.int .i64) (.pair (.pair (.int .i64) (.pair (.int .i64) (.pair (.int .i64) .str))) (.pair (.pair (.int .i64) (.pair (.int .i64) (.pair (.int .i64) (.pair (.int .i64) (.pair (.int .i64) (.sl false (.int .i64))))))) (.pair (.int .i64) (.pair (.int .i64) (.pair (.int .i64) (.sl false (.pair (.int .i64) (.pair (.int .i64) (.pair (.int .i64) .str))))))))))))], [], [.agg (.pair (.int .i64) (.pair (.int .i64) (.pair (.int .i64) (.pair (.pair (.int .i64) (.pair (.int .i64) (.pair (.int .i64) .str))) (.pair (.pair (.int .i64) (.pair (.int .i64) (.pair (.int .i64) (.pair (.int .i64) (.pair (.int .i64) (.sl true (.int .i64))))))) (.pair (.int .i64) (.pair (.int .i64) (.pair (.int .i64) (.sl true (.pair (.int .i64) (.pair (.int .i64) (.pair (.int .i64) .str))))))))))))], [], T_laws_toLetter⟩
theorem ok_laws_toLetter : FnOk Try.prog fn_laws_toLetter := evF_ok mixed (allOk_cons ok_laws_toItem (allOk_cons ok_laws_toToken (allOk_cons ok_laws_toBundle allOk_nil))) m_laws_toLetter (by decide)
def B_laws_toLetterS_1 : TC := (.seq (.seq (.reg none [.p (.mv 8 (.t 4)) .unit,
  .p (.mv 9 (.t 0)) .unit,
  .p (.lenB 10 (.t 9)) .unit,
  .p (.bin 11 false .lss (.t 8) (.t 10)) .unit])
 (.cond (.t 11) .skip (.exit 0)))
 (.seq (.block 1 (.reg none [.p (.mvA 14 3) .unit,
  .p (.mv 15 (.t 4)) .unit,
  .p (.mv 16 (.t 0)) .unit,
  .p (.mv 17 (.t 4)) .unit,
  .p (.iadr 18 17 (.t 16) (.t 17)) .unit,
  .p (.load 19 (.t 18) 17 true) .unit,
  .p (.callB 20 n_laws_toLetter [((.t 19), 0)]) .unit,
  .p (.iadr 21 17 (.t 14) (.t 15)) .unit,
  .p (.storeT (.t 21) 20 17) .unit]))
 (.reg none [.p (.mv 12 (.t 4)) .unit,
  .p (.bin 13 false .add (.t 12) (.c (.int .i64 1))) .unit,
  .p (.mv 4 (.t 13)) .unit])))
noncomputable def L_laws_toLetterS_1 : Nat → (List (Int × Int × Int × (Int × Int × Int × List UInt8) × (Int × Int × Int × Int × Int × List (Int)) × Int × Int × Int × List (Int × Int × Int × List UInt8))) × (List (Int × Int × Int × (Int × Int × Int × List UInt8) × (Int × Int × Int × Int × Int × List (Int)) × Int × Int × Int × List (Int × Int × Int × List UInt8))) × Int → Option ((List (Int × Int × Int × (Int × Int × Int × List UInt8) × (Int × Int × Int × Int × Int × List (Int)) × Int × Int × Int × List (Int × Int × Int × List UInt8))) ⊕ (List (Int × Int × Int × (Int × Int × Int × List UInt8) × (Int × Int × Int × Int × Int × List (Int)) × Int × Int × Int × List (Int × Int × Int × List UInt8)))) := evL [fn_laws_toLetter] (finT [.t 2] [] [.cell (.sl true (.pair (.int .i64) (.pair (.int .i64) (.pair (.int .i64) (.pair (.pair (.int .i64) (.pair (.int .i64) (.pair (.int .i64) .str))) (.pair (.pair (.int .i64) (.pair (.int .i64) (.pair (.int .i64) (.pair (.int .i64) (.pair (.int .i64) (.sl true (.int .i64))))))) (.pair (.int .i64) (.pair (.int .i64) (.pair (.int .i64) (.sl true (.pair (.int .i64) (.pair (.int .i64) (.pair (.int .i64) .str)))))))))))))]) 0 ⟨[(0, true), (3, false), (4, false)], [.cell (.sl false (.pair (.int .i64) (.pair (.int .i64) (.pair (.int .i64) (.pair (.pair (.int .i64) (.pair (.int .i64) (.pair (.int .i64) .str))) (.pair (.pair (.int .i64) (.pair (.int .i64) (.pair (.int .i64) (.pair (.int .i64) (.pair (.int .i64) (.sl false (.int .i64))))))) (.pair (.int .i64) (.pair (.int .i64) (.pair (.int .i64) (.sl false (.pair (.int .i64) (.pair (.int .i64) (.pair (.int .i64) .str))))))))))))), .cell (.sl true (.pair (.int .i64) (.pair (.int .i64) (.pair (.int .i64) (.pair (.pair (.int .i64) (.pair (.int .i64) (.pair (.int .i64) .str))) (.pair (.pair (.int .i64) (.pair (.int .i64) (.pair (.int .i64) (.pair (.int .i64) (.pair (.int .i64) (.sl true (.int .i64))))))) (.pair (.int .i64) (.pair (.int .i64) (.pair (.int .i64) (.sl true (.pair (.int .i64) (.pair (.int .i64) (.pair (.int .i64) .str))))))))))))), .cell (.int .i64)]⟩ ⟨[(3, false)], [.cell (.sl true (.pair (.int .i64) (.pair (.int .i64) (.pair (.int .i64) (.pair (.pair (.int .i64) (.pair (.int .i64) (.pair (.int .i64) .str))) (.pair (.pair (.int .i64) (.pair (.int .i64) (.pair (.int .i64) (.pair (.int .i64) (.pair (.int .i64) (.sl true (.int .i64))))))) (.pair (.int .i64) (.pair (.int .i64) (.pair (.int .i64) (.sl true (.pair (.int .i64) (.pair (.int .i64) (.pair (.int .i64) .str)))))))))))))]⟩ B_laws_toLetterS_1
def F_laws_toLetterS : TF := ⟨(.seq (.reg none [.p (.mvN 2 17) .unit])
 (.seq (.reg none [.p (.mv 5 (.t 0)) .unit,
  .p (.lenB 6 (.t 5)) .unit,
  .p (.mkS 7 176 [(.lit (.int .i64 0)), (.lit (.int .i64 0)), (.lit (.int .i64 0)), (.lit (.int .i64 0)), (.lit (.int .i64 0)), (.lit (.int .i64 0)), (.lit (.string (ba []))), (.lit (.int .i64 0)), (.lit (.int .i64 0)), (.lit (.int .i64 0)), (.lit (.int .i64 0)), (.lit (.int .i64 0)), (.sl true 1 []), (.lit (.int .i64 0)), (.lit (.int .i64 0)), (.lit (.int .i64 0)), (.sl true 4 [])] (.t 6) (.t 6)) (.pair (.int .i64) (.pair (.int .i64) (.pair (.int .i64) (.pair (.pair (.int .i64) (.pair (.int .i64) (.pair (.int .i64) .str))) (.pair (.pair (.int .i64) (.pair (.int .i64) (.pair (.int .i64) (.pair (.int .i64) (.pair (.int .i64) (.sl true (.int .i64))))))) (.pair (.int .i64) (.pair (.int .i64) (.pair (.int .i64) (.sl true (.pair (.int .i64) (.pair (.int .i64) (.pair (.int .i64) .str)))))))))))),
  .p (.mvT 3 7) .unit])
 (.seq (.seq (.reg none [.p (.mv 4 (.c (.int .i64 0))) .unit])
 (.jl 0 ⟨[(0, true), (3, false), (4, false)], [.cell (.sl false (.pair (.int .i64) (.pair (.int .i64) (.pair (.int .i64) (.pair (.pair (.int .i64) (.pair (.int .i64) (.pair (.int .i64) .str))) (.pair (.pair (.int .i64) (.pair (.int .i64) (.pair (.int .i64) (.pair (.int .i64) (.pair (.int .i64) (.sl false (.int .i64))))))) (.pair (.int .i64) (.pair (.int .i64) (.pair (.int .i64) (.sl false (.pair (.int .i64) (.pair (.int .i64) (.pair (.int .i64) .str))))))))))))), .cell (.sl true (.pair (.int .i64) (.pair (.int .i64) (.pair (.int .i64) (.pair (.pair (.int .i64) (.pair (.int .i64) (.pair (.int .i64) .str))) (.pair (.pair (.int .i64) (.pair (.int .i64) (.pair (.int .i64) (.pair (.int .i64) (.pair (.int .i64) (.sl true (.int .i64))))))) (.pair (.int .i64) (.pair (.int .i64) (.pair (.int .i64) (.sl true (.pair (.int .i64) (.pair (.int .i64) (.pair (.int .i64) .str))))))))))))), .cell (.int .i64)]⟩ ⟨[(3, false)], [.cell (.sl true (.pair (.int .i64) (.pair (.int .i64) (.pair (.int .i64) (.pair (.pair (.int .i64) (.pair (.int .i64) (.pair (.int .i64) .str))) (.pair (.pair (.int .i64) (.pair (.int .i64) (.pair (.int .i64) (.pair (.int .i64) (.pair (.int .i64) (.sl true (.int .i64))))))) (.pair (.int .i64) (.pair (.int .i64) (.pair (.int .i64) (.sl true (.pair (.int .i64) (.pair (.int .i64) (.pair (.int .i64) .str)))))))))))))]⟩ B_laws_toLetterS_1))
 (.seq (.reg none [.p (.mvT 22 3) .unit,
  .p (.mvT 2 22) .unit])
 .ret)))),
 23, 1, [.t 2]⟩
theorem m_laws_toLetterS : mH Try.prog 116 [(1, 3, .t), (5, 0, .v), (5, 8, .t), (6, 0, .t), (6, 1, .t)] = some (F_laws_toLetterS.code.x, F_laws_toLetterS.N, F_laws_toLetterS.np, F_laws_toLetterS.res) := by kernel_rfl
noncomputable def T_laws_toLetterS : List (Int × Int × Int × (Int × Int × Int × List UInt8) × (Int × Int × Int × Int × Int × List (Int)) × Int × Int × Int × List (Int × Int × Int × List UInt8)) → Option (List (Int × Int × Int × (Int × Int × Int × List UInt8) × (Int × Int × Int × Int × Int × List (Int)) × Int × Int × Int × List (Int × Int × Int × List UInt8))) := evF [fn_laws_toLetter] F_laws_toLetterS [.cell (.sl false (.pair (.int .i64) (.pair (.int .i64) (.pair (.int .i64) (.pair (.pair (.int .i64) (.pair (.int .i64) (.pair (.int .i64) .str))) (.pair (.pair (.int .i64) (.pair (.int .i64) (.pair (.int .i64) (.pair (.int .i64) (.pair (.int .i64) (.sl false (.int .i64))))))) (.pair (.int .i64) (.pair (.int .i64) (.pair (.int .i64) (.sl false (.pair (.int .i64) (.pair (.int .i64) (.pair (.int .i64) .str)))))))))))))] [] [.cell (.sl true (.pair (.int .i64) (.pair (.int .i64) (.pair (.int .i64) (.pair (.pair (.int .i64) (.pair (.int .i64) (.pair (.int .i64) .str))) (.pair (.pair (.int .i64) (.pair (.int .i64) (.pair (.int .i64) (.pair (.int .i64) (.pair (.int .i64) (.sl true (.int .i64))))))) (.pair (.int .i64) (.pair (.int .i64) (.pair (.int .i64) (.sl true (.pair (.int .i64) (.pair (.int .i64) (.pair (.int .i64) .str)))))))))))))] []
noncomputable def fn_laws_toLetterS : TFn := ⟨116, [.cell (.sl false (.pair (.int .i64) (.pair (.int .i64) (.pair (.int .i64) (.pair (.pair (.int .i64) (.pair (.int .i64) (.pair (.int .i64) .str))) (.pair (.pair (.int .i64) (.pair (.int .i64) (.pair (.int .i64) (.pair (.int .i64) (.pair (.int .i64) (.sl false (.int .i64))))))) (.pair (.int .i64) (.pair (.int .i64) (.pair (.int .i64) (.sl false (.pair (.int .i64) (.pair (.int .i64) (.pair (.int .i64) .str)))))))))))))], [], [.cell (.sl true (.pair (.int .i64) (.pair (.int .i64) (.pair (.int .i64) (.pair (.pair (.int .i64) (.pair (.int .i64) (.pair (.int .i64) .str))) (.pair (.pair (.int .i64) (.pair (.int .i64) (.pair (.int .i64) (.pair (.int .i64) (.pair (.int .i64) (.sl true (.int .i64))))))) (.pair (.int .i64) (.pair (.int .i64) (.pair (.int .i64) (.sl true (.pair (.int .i64) (.pair (.int .i64) (.pair (.int .i64) .str)))))))))))))], [], T_laws_toLetterS⟩
theorem ok_laws_toLetterS : FnOk Try.prog fn_laws_toLetterS := evF_ok mixed (allOk_cons ok_laws_toLetter allOk_nil) m_laws_toLetterS (by decide)
def F_laws_toWorld : TF := ⟨(.seq (.reg none [.p (.box 1 (.t 0)) .unit,
  .p (.alloc 2 [(.sl true 2 []), (.sl true 24 []), (.sl true 17 []), (.sl true 8 [])]) .unit])
 (.seq (.reg none [.p (.alloc 3 [(.sl true 2 []), (.sl true 24 []), (.sl true 17 []), (.sl true 8 [])]) .unit])
 (.seq (.reg none [.p (.fadr 4 (.t 1) 0) .unit,
  .p (.load 5 (.t 4) 1 false) .unit,
  .p (.callB 6 n_laws_toRingS [((.t 5), 0)]) .unit,
  .p (.fadr 7 (.t 3) 0) .unit,
  .p (.storeT (.t 7) 6 1) .unit])
 (.seq (.reg none [.p (.fadr 8 (.t 1) 1) .unit,
  .p (.load 9 (.t 8) 1 false) .unit,
  .p (.callB 10 n_laws_toDaemonS [((.t 9), 0)]) .unit,
  .p (.fadr 11 (.t 3) 1) .unit,
  .p (.storeT (.t 11) 10 1) .unit])
 (.seq (.reg none [.p (.fadr 12 (.t 1) 2) .unit,
  .p (.load 13 (.t 12) 1 false) .unit,
  .p (.callB 14 n_laws_toLetterS [((.t 13), 0)]) .unit,
  .p (.fadr 15 (.t 3) 2) .unit,
  .p (.storeT (.t 15) 14 1) .unit])
 (.seq (.reg none [.p (.fadr 16 (.t 1) 3) .unit,
  .p (.load 17 (.t 16) 1 false) .unit,
  .p (.callB 18 n_laws_toEventS [((.t 17), 0)]) .unit,
  .p (.fadr 19 (.t 3) 3) .unit,
  .p (.storeT (.t 19) 18 1) .unit])
 (.seq (.reg none [.p (.loadT 20 (.t 3) 4 true) .unit,
  .p (.storeT (.t 2) 20 4) .unit])
 .ret))))))),
 21, 1, [.c 2 4 true]⟩
theorem m_laws_toWorld : mH Try.prog 55 [(2, 4, .t), (3, 4, .t), (4, 4, .t), (5, 4, .t), (6, 0, .t), (6, 1, .t)] = some (F_laws_toWorld.code.x, F_laws_toWorld.N, F_laws_toWorld.np, F_laws_toWorld.res) := by kernel_rfl
noncomputable def T_laws_toWorld : List (Int × List (Int)) × List (Int × Bool × (Int × (Int × List (Int)) × List (Int × Int × Int × List UInt8) × List (Int) × List (List UInt8) × Int × Int × Int × Int × Int × Int × Int × Int × Int × List (Int)) × Int × Int × (Int × List (Int)) × List (Int × Int × Int × List (Int × Int × Int × List UInt8)) × List (Int × (Int × List (Int)) × (Int × Int × Int × List UInt8) × List (Int))) × List (Int × Int × Int × (Int × Int × Int × List UInt8) × (Int × Int × Int × Int × Int × List (Int)) × Int × Int × Int × List (Int × Int × Int × List UInt8)) × List (Int × (Int × List (Int)) × (Int × Int × Int × List UInt8) × List (Int)) → Option (List (Int × List (Int)) × List (Int × Bool × (Int × (Int × List (Int)) × List (Int × Int × Int × List UInt8) × List (Int) × List (List UInt8) × Int × Int × Int × Int × Int × Int × Int × Int × Int × List (Int)) × Int × Int × (Int × List (Int)) × List (Int × Int × Int × List (Int × Int × Int × List UInt8)) × List (Int × (Int × List (Int)) × (Int × Int × Int × List UInt8) × List (Int))) × List (Int × Int × Int × (Int × Int × Int × List UInt8) × (Int × Int × Int × Int × Int × List (Int)) × Int × Int × Int × List (Int × Int × Int × List UInt8)) × List (Int × (Int × List (Int)) × (Int × Int × Int × List UInt8) × List (Int))) := evF [fn_laws_toRingS, fn_laws_toDaemonS, fn_laws_toLetterS, fn_laws_toEventS] F_laws_toWorld [.agg (.pair (.sl false (.pair (.int .i64) (.sl false (.int .i64)))) (.pair (.sl false (.pair (.int .i64) (.pair .bool (.pair (.pair (.int .i64) (.pair (.pair (.int .i64) (.sl false (.int .i64))) (.pair (.sl false (.pair (.int .i64) (.pair (.int .i64) (.pair (.int .i64) .str)))) (.pair (.sl false (.int .i64)) (.pair (.sl false .str) (.pair (.int .i64) (.pair (.int .i64) (.pair (.int .i64) (.pair (.int .i64) (.pair (.int .i64) (.pair (.int .i64) (.pair (.int .i64) (.pair (.int .i64) (.pair (.int .i64) (.sl false (.int .i64)))))))))))))))) (.pair (.int .i64) (.pair (.int .i64) (.pair (.pair (.int .i64) (.sl false (.int .i64))) (.pair (.sl false (.pair (.int .i64) (.pair (.int .i64) (.pair (.int .i64) (.sl false (.pair (.int .i64) (.pair (.int .i64) (.pair (.int .i64) .str)))))))) (.sl false (.pair (.int .i64) (.pair (.pair (.int .i64) (.sl false (.int .i64))) (.pair (.pair (.int .i64) (.pair (.int .i64) (.pair (.int .i64) .str))) (.sl false (.int .i64)))))))))))))) (.pair (.sl false (.pair (.int .i64) (.pair (.int .i64) (.pair (.int .i64) (.pair (.pair (.int .i64) (.pair (.int .i64) (.pair (.int .i64) .str))) (.pair (.pair (.int .i64) (.pair (.int .i64) (.pair (.int .i64) (.pair (.int .i64) (.pair (.int .i64) (.sl false (.int .i64))))))) (.pair (.int .i64) (.pair (.int .i64) (.pair (.int .i64) (.sl false (.pair (.int .i64) (.pair (.int .i64) (.pair (.int .i64) .str))))))))))))) (.sl false (.pair (.int .i64) (.pair (.pair (.int .i64) (.sl false (.int .i64))) (.pair (.pair (.int .i64) (.pair (.int .i64) (.pair (.int .i64) .str))) (.sl false (.int .i64)))))))))] [] [.agg (.pair (.sl true (.pair (.int .i64) (.sl true (.int .i64)))) (.pair (.sl true (.pair (.int .i64) (.pair .bool (.pair (.pair (.int .i64) (.pair (.pair (.int .i64) (.sl true (.int .i64))) (.pair (.sl true (.pair (.int .i64) (.pair (.int .i64) (.pair (.int .i64) .str)))) (.pair (.sl true (.int .i64)) (.pair (.sl true .str) (.pair (.int .i64) (.pair (.int .i64) (.pair (.int .i64) (.pair (.int .i64) (.pair (.int .i64) (.pair (.int .i64) (.pair (.int .i64) (.pair (.int .i64) (.pair (.int .i64) (.sl true (.int .i64)))))))))))))))) (.pair (.int .i64) (.pair (.int .i64) (.pair (.pair (.int .i64) (.sl true (.int .i64))) (.pair (.sl true (.pair (.int .i64) (.pair (.int .i64) (.pair (.int .i64) (.sl true (.pair (.int .i64) (.pair (.int .i64) (.pair (.int .i64) .str)))))))) (.sl true (.pair (.int .i64) (.pair (.pair (.int .i64) (.sl true (.int .i64))) (.pair (.pair (.int .i64) (.pair (.int .i64) (.pair (.int .i64) .str))) (.sl true (.int .i64)))))))))))))) (.pair (.sl true (.pair (.int .i64) (.pair (.int .i64) (.pair (.int .i64) (.pair (.pair (.int .i64) (.pair (.int .i64) (.pair (.int .i64) .str))) (.pair (.pair (.int .i64) (.pair (.int .i64) (.pair (.int .i64) (.pair (.int .i64) (.pair (.int .i64) (.sl true (.int .i64))))))) (.pair (.int .i64) (.pair (.int .i64) (.pair (.int .i64) (.sl true (.pair (.int .i64) (.pair (.int .i64) (.pair (.int .i64) .str))))))))))))) (.sl true (.pair (.int .i64) (.pair (.pair (.int .i64) (.sl true (.int .i64))) (.pair (.pair (.int .i64) (.pair (.int .i64) (.pair (.int .i64) .str))) (.sl true (.int .i64)))))))))] []
noncomputable def fn_laws_toWorld : TFn := ⟨55, [.agg (.pair (.sl false (.pair (.int .i64) (.sl false (.int .i64)))) (.pair (.sl false (.pair (.int .i64) (.pair .bool (.pair (.pair (.int .i64) (.pair (.pair (.int .i64) (.sl false (.int .i64))) (.pair (.sl false (.pair (.int .i64) (.pair (.int .i64) (.pair (.int .i64) .str)))) (.pair (.sl false (.int .i64)) (.pair (.sl false .str) (.pair (.int .i64) (.pair (.int .i64) (.pair (.int .i64) (.pair (.int .i64) (.pair (.int .i64) (.pair (.int .i64) (.pair (.int .i64) (.pair (.int .i64) (.pair (.int .i64) (.sl false (.int .i64)))))))))))))))) (.pair (.int .i64) (.pair (.int .i64) (.pair (.pair (.int .i64) (.sl false (.int .i64))) (.pair (.sl false (.pair (.int .i64) (.pair (.int .i64) (.pair (.int .i64) (.sl false (.pair (.int .i64) (.pair (.int .i64) (.pair (.int .i64) .str)))))))) (.sl false (.pair (.int .i64) (.pair (.pair (.int .i64) (.sl false (.int .i64))) (.pair (.pair (.int .i64) (.pair (.int .i64) (.pair (.int .i64) .str))) (.sl false (.int .i64)))))))))))))) (.pair (.sl false (.pair (.int .i64) (.pair (.int .i64) (.pair (.int .i64) (.pair (.pair (.int .i64) (.pair (.int .i64) (.pair (.int .i64) .str))) (.pair (.pair (.int .i64) (.pair (.int .i64) (.pair (.int .i64) (.pair (.int .i64) (.pair (.int .i64) (.sl false (.int .i64))))))) (.pair (.int .i64) (.pair (.int .i64) (.pair (.int .i64) (.sl false (.pair (.int .i64) (.pair (.int .i64) (.pair (.int .i64) .str))))))))))))) (.sl false (.pair (.int .i64) (.pair (.pair (.int .i64) (.sl false (.int .i64))) (.pair (.pair (.int .i64) (.pair (.int .i64) (.pair (.int .i64) .str))) (.sl false (.int .i64)))))))))], [], [.agg (.pair (.sl true (.pair (.int .i64) (.sl true (.int .i64)))) (.pair (.sl true (.pair (.int .i64) (.pair .bool (.pair (.pair (.int .i64) (.pair (.pair (.int .i64) (.sl true (.int .i64))) (.pair (.sl true (.pair (.int .i64) (.pair (.int .i64) (.pair (.int .i64) .str)))) (.pair (.sl true (.int .i64)) (.pair (.sl true .str) (.pair (.int .i64) (.pair (.int .i64) (.pair (.int .i64) (.pair (.int .i64) (.pair (.int .i64) (.pair (.int .i64) (.pair (.int .i64) (.pair (.int .i64) (.pair (.int .i64) (.sl true (.int .i64)))))))))))))))) (.pair (.int .i64) (.pair (.int .i64) (.pair (.pair (.int .i64) (.sl true (.int .i64))) (.pair (.sl true (.pair (.int .i64) (.pair (.int .i64) (.pair (.int .i64) (.sl true (.pair (.int .i64) (.pair (.int .i64) (.pair (.int .i64) .str)))))))) (.sl true (.pair (.int .i64) (.pair (.pair (.int .i64) (.sl true (.int .i64))) (.pair (.pair (.int .i64) (.pair (.int .i64) (.pair (.int .i64) .str))) (.sl true (.int .i64)))))))))))))) (.pair (.sl true (.pair (.int .i64) (.pair (.int .i64) (.pair (.int .i64) (.pair (.pair (.int .i64) (.pair (.int .i64) (.pair (.int .i64) .str))) (.pair (.pair (.int .i64) (.pair (.int .i64) (.pair (.int .i64) (.pair (.int .i64) (.pair (.int .i64) (.sl true (.int .i64))))))) (.pair (.int .i64) (.pair (.int .i64) (.pair (.int .i64) (.sl true (.pair (.int .i64) (.pair (.int .i64) (.pair (.int .i64) .str))))))))))))) (.sl true (.pair (.int .i64) (.pair (.pair (.int .i64) (.sl true (.int .i64))) (.pair (.pair (.int .i64) (.pair (.int .i64) (.pair (.int .i64) .str))) (.sl true (.int .i64)))))))))], [], T_laws_toWorld⟩
theorem ok_laws_toWorld : FnOk Try.prog fn_laws_toWorld := evF_ok mixed (allOk_cons ok_laws_toRingS (allOk_cons ok_laws_toDaemonS (allOk_cons ok_laws_toLetterS (allOk_cons ok_laws_toEventS allOk_nil)))) m_laws_toWorld (by decide)
def B_spec_SaidFirst_1 : TC := (.seq (.seq (.reg none [.p (.mv 33 (.t 7)) .unit,
  .p (.fadr 34 (.t 1) 3) .unit,
  .p (.load 35 (.t 34) 1 false) .unit,
  .p (.lenB 36 (.t 35)) .unit,
  .p (.bin 37 false .lss (.t 33) (.t 36)) .unit])
 (.cond (.t 37) .skip (.exit 4)))
 (.seq (.join ⟨[(1, false), (3, false), (4, false), (5, false), (6, false), (7, false)], [.box (.pair (.sl false (.pair (.int .i64) (.sl false (.int .i64)))) (.pair (.sl false (.pair (.int .i64) (.pair .bool (.pair (.pair (.int .i64) (.pair (.pair (.int .i64) (.sl false (.int .i64))) (.pair (.sl false (.pair (.int .i64) (.pair (.int .i64) (.pair (.int .i64) .str)))) (.pair (.sl false (.int .i64)) (.pair (.sl false .str) (.pair (.int .i64) (.pair (.int .i64) (.pair (.int .i64) (.pair (.int .i64) (.pair (.int .i64) (.pair (.int .i64) (.pair (.int .i64) (.pair (.int .i64) (.pair (.int .i64) (.sl false (.int .i64)))))))))))))))) (.pair (.int .i64) (.pair (.int .i64) (.pair (.pair (.int .i64) (.sl false (.int .i64))) (.pair (.sl false (.pair (.int .i64) (.pair (.int .i64) (.pair (.int .i64) (.sl false (.pair (.int .i64) (.pair (.int .i64) (.pair (.int .i64) .str)))))))) (.sl false (.pair (.int .i64) (.pair (.pair (.int .i64) (.sl false (.int .i64))) (.pair (.pair (.int .i64) (.pair (.int .i64) (.pair (.int .i64) .str))) (.sl false (.int .i64)))))))))))))) (.pair (.sl false (.pair (.int .i64) (.pair (.int .i64) (.pair (.int .i64) (.pair (.pair (.int .i64) (.pair (.int .i64) (.pair (.int .i64) .str))) (.pair (.pair (.int .i64) (.pair (.int .i64) (.pair (.int .i64) (.pair (.int .i64) (.pair (.int .i64) (.sl false (.int .i64))))))) (.pair (.int .i64) (.pair (.int .i64) (.pair (.int .i64) (.sl false (.pair (.int .i64) (.pair (.int .i64) (.pair (.int .i64) .str))))))))))))) (.sl false (.pair (.int .i64) (.pair (.pair (.int .i64) (.sl false (.int .i64))) (.pair (.pair (.int .i64) (.pair (.int .i64) (.pair (.int .i64) .str))) (.sl false (.int .i64))))))))), .cell (.int .i64), .cell (.sl false (.pair (.int .i64) (.pair (.pair (.int .i64) (.sl false (.int .i64))) (.pair (.pair (.int .i64) (.pair (.int .i64) (.pair (.int .i64) .str))) (.sl false (.int .i64)))))), .cell (.int .i64), .cell .bool, .cell (.int .i64)]⟩ (.block 5 (.reg (some [[], [0], [1], [2, 1], [1], [3, 4, 1], [5, 1], [6, 1], [7, 1], [1], [1], [9, 10, 1], [11, 1], [12, 1], [13, 1], [8, 14, 1], [15, 1, 1], [16], [17, 16], [16], [18, 19, 16], [20, 16], [21, 16], [16], [16], [23, 24, 16], [25, 16], [26, 16], [22, 27, 16], [16, 28, 1], [1, 29], [30, 16, 0, 1, 2, 3, 4, 5, 6, 7, 8, 9, 10, 11, 12, 13, 14, 15, 16, 17, 18, 19, 20, 21, 22, 23, 24, 25, 26, 27, 28, 29, 30]]) [.p (.mv 40 (.t 6)) .unit,
  .p (.mv 41 (.t 40)) .unit,
  .g 41 false (some 42) (.fadr 42 (.t 1) 3) .unit,
  .g 41 false (some 43) (.load 43 (.t 42) 1 false) .unit,
  .g 41 false (some 44) (.mv 44 (.t 7)) .unit,
  .g 41 false (some 45) (.iadr 45 8 (.t 43) (.t 44)) .unit,
  .g 41 false (some 46) (.fadr 46 (.t 45) 1) .unit,
  .g 41 false (some 47) (.fadr 47 (.t 46) 0) .unit,
  .g 41 false (some 48) (.load 48 (.t 47) 1 false) .unit,
  .g 41 false (some 49) (.mv 49 (.t 4)) .unit,
  .g 41 false (some 50) (.mv 50 (.t 5)) .unit,
  .g 41 false (some 51) (.iadr 51 8 (.t 49) (.t 50)) .unit,
  .g 41 false (some 52) (.fadr 52 (.t 51) 1) .unit,
  .g 41 false (some 53) (.fadr 53 (.t 52) 0) .unit,
  .g 41 false (some 54) (.load 54 (.t 53) 1 false) .unit,
  .g 41 false (some 55) (.bin 55 false .eql (.t 48) (.t 54)) .unit,
  .g 41 false (some 56) (.mv 56 (.t 55)) .unit,
  .g 56 true (some 57) (.fadr 57 (.t 1) 3) .unit,
  .g 56 true (some 58) (.load 58 (.t 57) 1 false) .unit,
  .g 56 true (some 59) (.mv 59 (.t 7)) .unit,
  .g 56 true (some 60) (.iadr 60 8 (.t 58) (.t 59)) .unit,
  .g 56 true (some 61) (.fadr 61 (.t 60) 3) .unit,
  .g 56 true (some 62) (.load 62 (.t 61) 4 true) .unit,
  .g 56 true (some 63) (.mv 63 (.t 4)) .unit,
  .g 56 true (some 64) (.mv 64 (.t 5)) .unit,
  .g 56 true (some 65) (.iadr 65 8 (.t 63) (.t 64)) .unit,
  .g 56 true (some 66) (.fadr 66 (.t 65) 3) .unit,
  .g 56 true (some 67) (.load 67 (.t 66) 4 true) .unit,
  .g 56 true (some 68) (.eqA 68 false [0, 0, 0, 1] (.t 62) (.t 67)) .unit,
  .g 41 false (some 69) (.pick 69 (.t 56) (.t 68) (.c (.bool false))) .unit,
  .p (.pick 70 (.t 41) (.c (.bool true)) (.t 69)) .unit,
  .p (.mv 6 (.t 70)) .unit])))
 (.reg none [.p (.mv 38 (.t 7)) .unit,
  .p (.bin 39 false .add (.t 38) (.c (.int .i64 1))) .unit,
  .p (.mv 7 (.t 39)) .unit])))
noncomputable def L_spec_SaidFirst_1 : Nat → (List (Int × List (Int)) × List (Int × Bool × (Int × (Int × List (Int)) × List (Int × Int × Int × List UInt8) × List (Int) × List (List UInt8) × Int × Int × Int × Int × Int × Int × Int × Int × Int × List (Int)) × Int × Int × (Int × List (Int)) × List (Int × Int × Int × List (Int × Int × Int × List UInt8)) × List (Int × (Int × List (Int)) × (Int × Int × Int × List UInt8) × List (Int))) × List (Int × Int × Int × (Int × Int × Int × List UInt8) × (Int × Int × Int × Int × Int × List (Int)) × Int × Int × Int × List (Int × Int × Int × List UInt8)) × List (Int × (Int × List (Int)) × (Int × Int × Int × List UInt8) × List (Int))) × (Int) × (List (Int × (Int × List (Int)) × (Int × Int × Int × List UInt8) × List (Int))) × (Int) × (Bool) × Int → Option (((List (Int × List (Int)) × List (Int × Bool × (Int × (Int × List (Int)) × List (Int × Int × Int × List UInt8) × List (Int) × List (List UInt8) × Int × Int × Int × Int × Int × Int × Int × Int × Int × List (Int)) × Int × Int × (Int × List (Int)) × List (Int × Int × Int × List (Int × Int × Int × List UInt8)) × List (Int × (Int × List (Int)) × (Int × Int × Int × List UInt8) × List (Int))) × List (Int × Int × Int × (Int × Int × Int × List UInt8) × (Int × Int × Int × Int × Int × List (Int)) × Int × Int × Int × List (Int × Int × Int × List UInt8)) × List (Int × (Int × List (Int)) × (Int × Int × Int × List UInt8) × List (Int))) × (Int) × (List (Int × (Int × List (Int)) × (Int × Int × Int × List UInt8) × List (Int))) × (Int) × Bool) ⊕ (Bool)) := evL [] (finT [.t 2] [] [.cell .bool]) 4 ⟨[(1, false), (3, false), (4, false), (5, false), (6, false), (7, false)], [.box (.pair (.sl false (.pair (.int .i64) (.sl false (.int .i64)))) (.pair (.sl false (.pair (.int .i64) (.pair .bool (.pair (.pair (.int .i64) (.pair (.pair (.int .i64) (.sl false (.int .i64))) (.pair (.sl false (.pair (.int .i64) (.pair (.int .i64) (.pair (.int .i64) .str)))) (.pair (.sl false (.int .i64)) (.pair (.sl false .str) (.pair (.int .i64) (.pair (.int .i64) (.pair (.int .i64) (.pair (.int .i64) (.pair (.int .i64) (.pair (.int .i64) (.pair (.int .i64) (.pair (.int .i64) (.pair (.int .i64) (.sl false (.int .i64)))))))))))))))) (.pair (.int .i64) (.pair (.int .i64) (.pair (.pair (.int .i64) (.sl false (.int .i64))) (.pair (.sl false (.pair (.int .i64) (.pair (.int .i64) (.pair (.int .i64) (.sl false (.pair (.int .i64) (.pair (.int .i64) (.pair (.int .i64) .str)))))))) (.sl false (.pair (.int .i64) (.pair (.pair (.int .i64) (.sl false (.int .i64))) (.pair (.pair (.int .i64) (.pair (.int .i64) (.pair (.int .i64) .str))) (.sl false (.int .i64)))))))))))))) (.pair (.sl false (.pair (.int .i64) (.pair (.int .i64) (.pair (.int .i64) (.pair (.pair (.int .i64) (.pair (.int .i64) (.pair (.int .i64) .str))) (.pair (.pair (.int .i64) (.pair (.int .i64) (.pair (.int .i64) (.pair (.int .i64) (.pair (.int .i64) (.sl false (.int .i64))))))) (.pair (.int .i64) (.pair (.int .i64) (.pair (.int .i64) (.sl false (.pair (.int .i64) (.pair (.int .i64) (.pair (.int .i64) .str))))))))))))) (.sl false (.pair (.int .i64) (.pair (.pair (.int .i64) (.sl false (.int .i64))) (.pair (.pair (.int .i64) (.pair (.int .i64) (.pair (.int .i64) .str))) (.sl false (.int .i64))))))))), .cell (.int .i64), .cell (.sl false (.pair (.int .i64) (.pair (.pair (.int .i64) (.sl false (.int .i64))) (.pair (.pair (.int .i64) (.pair (.int .i64) (.pair (.int .i64) .str))) (.sl false (.int .i64)))))), .cell (.int .i64), .cell .bool, .cell (.int .i64)]⟩ ⟨[(1, false), (3, false), (4, false), (5, false), (6, false)], [.box (.pair (.sl false (.pair (.int .i64) (.sl false (.int .i64)))) (.pair (.sl false (.pair (.int .i64) (.pair .bool (.pair (.pair (.int .i64) (.pair (.pair (.int .i64) (.sl false (.int .i64))) (.pair (.sl false (.pair (.int .i64) (.pair (.int .i64) (.pair (.int .i64) .str)))) (.pair (.sl false (.int .i64)) (.pair (.sl false .str) (.pair (.int .i64) (.pair (.int .i64) (.pair (.int .i64) (.pair (.int .i64) (.pair (.int .i64) (.pair (.int .i64) (.pair (.int .i64) (.pair (.int .i64) (.pair (.int .i64) (.sl false (.int .i64)))))))))))))))) (.pair (.int .i64) (.pair (.int .i64) (.pair (.pair (.int .i64) (.sl false (.int .i64))) (.pair (.sl false (.pair (.int .i64) (.pair (.int .i64) (.pair (.int .i64) (.sl false (.pair (.int .i64) (.pair (.int .i64) (.pair (.int .i64) .str)))))))) (.sl false (.pair (.int .i64) (.pair (.pair (.int .i64) (.sl false (.int .i64))) (.pair (.pair (.int .i64) (.pair (.int .i64) (.pair (.int .i64) .str))) (.sl false (.int .i64)))))))))))))) (.pair (.sl false (.pair (.int .i64) (.pair (.int .i64) (.pair (.int .i64) (.pair (.pair (.int .i64) (.pair (.int .i64) (.pair (.int .i64) .str))) (.pair (.pair (.int .i64) (.pair (.int .i64) (.pair (.int .i64) (.pair (.int .i64) (.pair (.int .i64) (.sl false (.int .i64))))))) (.pair (.int .i64) (.pair (.int .i64) (.pair (.int .i64) (.sl false (.pair (.int .i64) (.pair (.int .i64) (.pair (.int .i64) .str))))))))))))) (.sl false (.pair (.int .i64) (.pair (.pair (.int .i64) (.sl false (.int .i64))) (.pair (.pair (.int .i64) (.pair (.int .i64) (.pair (.int .i64) .str))) (.sl false (.int .i64))))))))), .cell (.int .i64), .cell (.sl false (.pair (.int .i64) (.pair (.pair (.int .i64) (.sl false (.int .i64))) (.pair (.pair (.int .i64) (.pair (.int .i64) (.pair (.int .i64) .str))) (.sl false (.int .i64)))))), .cell (.int .i64), .cell .bool]⟩ B_spec_SaidFirst_1
def B_spec_SaidFirst_2 : TC := (.seq (.seq (.reg none [.p (.mv 21 (.t 5)) .unit,
  .p (.mv 22 (.t 4)) .unit,
  .p (.lenB 23 (.t 22)) .unit,
  .p (.bin 24 false .lss (.t 21) (.t 23)) .unit])
 (.cond (.t 24) .skip (.exit 2)))
 (.seq (.block 3 (.seq (.reg none [.p (.mv 27 (.t 4)) .unit,
  .p (.mv 28 (.t 5)) .unit,
  .p (.iadr 29 8 (.t 27) (.t 28)) .unit,
  .p (.fadr 30 (.t 29) 0) .unit,
  .p (.load 31 (.t 30) 1 false) .unit,
  .p (.bin 32 false .neq (.t 31) (.c (.int .i64 1))) .unit,
  .p (.mv 6 (.t 32)) .unit])
 (.seq (.seq (.reg none [.p (.mv 7 (.c (.int .i64 0))) .unit])
 (.jl 4 ⟨[(1, false), (3, false), (4, false), (5, false), (6, false), (7, false)], [.box (.pair (.sl false (.pair (.int .i64) (.sl false (.int .i64)))) (.pair (.sl false (.pair (.int .i64) (.pair .bool (.pair (.pair (.int .i64) (.pair (.pair (.int .i64) (.sl false (.int .i64))) (.pair (.sl false (.pair (.int .i64) (.pair (.int .i64) (.pair (.int .i64) .str)))) (.pair (.sl false (.int .i64)) (.pair (.sl false .str) (.pair (.int .i64) (.pair (.int .i64) (.pair (.int .i64) (.pair (.int .i64) (.pair (.int .i64) (.pair (.int .i64) (.pair (.int .i64) (.pair (.int .i64) (.pair (.int .i64) (.sl false (.int .i64)))))))))))))))) (.pair (.int .i64) (.pair (.int .i64) (.pair (.pair (.int .i64) (.sl false (.int .i64))) (.pair (.sl false (.pair (.int .i64) (.pair (.int .i64) (.pair (.int .i64) (.sl false (.pair (.int .i64) (.pair (.int .i64) (.pair (.int .i64) .str)))))))) (.sl false (.pair (.int .i64) (.pair (.pair (.int .i64) (.sl false (.int .i64))) (.pair (.pair (.int .i64) (.pair (.int .i64) (.pair (.int .i64) .str))) (.sl false (.int .i64)))))))))))))) (.pair (.sl false (.pair (.int .i64) (.pair (.int .i64) (.pair (.int .i64) (.pair (.pair (.int .i64) (.pair (.int .i64) (.pair (.int .i64) .str))) (.pair (.pair (.int .i64) (.pair (.int .i64) (.pair (.int .i64) (.pair (.int .i64) (.pair (.int .i64) (.sl false (.int .i64))))))) (.pair (.int .i64) (.pair (.int .i64) (.pair (.int .i64) (.sl false (.pair (.int .i64) (.pair (.int .i64) (.pair (.int .i64) .str))))))))))))) (.sl false (.pair (.int .i64) (.pair (.pair (.int .i64) (.sl false (.int .i64))) (.pair (.pair (.int .i64) (.pair (.int .i64) (.pair (.int .i64) .str))) (.sl false (.int .i64))))))))), .cell (.int .i64), .cell (.sl false (.pair (.int .i64) (.pair (.pair (.int .i64) (.sl false (.int .i64))) (.pair (.pair (.int .i64) (.pair (.int .i64) (.pair (.int .i64) .str))) (.sl false (.int .i64)))))), .cell (.int .i64), .cell .bool, .cell (.int .i64)]⟩ ⟨[(1, false), (3, false), (4, false), (5, false), (6, false)], [.box (.pair (.sl false (.pair (.int .i64) (.sl false (.int .i64)))) (.pair (.sl false (.pair (.int .i64) (.pair .bool (.pair (.pair (.int .i64) (.pair (.pair (.int .i64) (.sl false (.int .i64))) (.pair (.sl false (.pair (.int .i64) (.pair (.int .i64) (.pair (.int .i64) .str)))) (.pair (.sl false (.int .i64)) (.pair (.sl false .str) (.pair (.int .i64) (.pair (.int .i64) (.pair (.int .i64) (.pair (.int .i64) (.pair (.int .i64) (.pair (.int .i64) (.pair (.int .i64) (.pair (.int .i64) (.pair (.int .i64) (.sl false (.int .i64)))))))))))))))) (.pair (.int .i64) (.pair (.int .i64) (.pair (.pair (.int .i64) (.sl false (.int .i64))) (.pair (.sl false (.pair (.int .i64) (.pair (.int .i64) (.pair (.int .i64) (.sl false (.pair (.int .i64) (.pair (.int .i64) (.pair (.int .i64) .str)))))))) (.sl false (.pair (.int .i64) (.pair (.pair (.int .i64) (.sl false (.int .i64))) (.pair (.pair (.int .i64) (.pair (.int .i64) (.pair (.int .i64) .str))) (.sl false (.int .i64)))))))))))))) (.pair (.sl false (.pair (.int .i64) (.pair (.int .i64) (.pair (.int .i64) (.pair (.pair (.int .i64) (.pair (.int .i64) (.pair (.int .i64) .str))) (.pair (.pair (.int .i64) (.pair (.int .i64) (.pair (.int .i64) (.pair (.int .i64) (.pair (.int .i64) (.sl false (.int .i64))))))) (.pair (.int .i64) (.pair (.int .i64) (.pair (.int .i64) (.sl false (.pair (.int .i64) (.pair (.int .i64) (.pair (.int .i64) .str))))))))))))) (.sl false (.pair (.int .i64) (.pair (.pair (.int .i64) (.sl false (.int .i64))) (.pair (.pair (.int .i64) (.pair (.int .i64) (.pair (.int .i64) .str))) (.sl false (.int .i64))))))))), .cell (.int .i64), .cell (.sl false (.pair (.int .i64) (.pair (.pair (.int .i64) (.sl false (.int .i64))) (.pair (.pair (.int .i64) (.pair (.int .i64) (.pair (.int .i64) .str))) (.sl false (.int .i64)))))), .cell (.int .i64), .cell .bool]⟩ B_spec_SaidFirst_1))
 (.seq (.reg none [.p (.mv 71 (.t 6)) .unit,
  .p (.un 72 .not (.t 71)) .unit])
 (.cond (.t 72) (.seq (.reg none [.p (.mv 2 (.c (.bool false))) .unit])
 .ret) .skip)))))
 (.reg none [.p (.mv 25 (.t 5)) .unit,
  .p (.bin 26 false .add (.t 25) (.c (.int .i64 1))) .unit,
  .p (.mv 5 (.t 26)) .unit])))
noncomputable def L_spec_SaidFirst_2 : Nat → (List (Int × List (Int)) × List (Int × Bool × (Int × (Int × List (Int)) × List (Int × Int × Int × List UInt8) × List (Int) × List (List UInt8) × Int × Int × Int × Int × Int × Int × Int × Int × Int × List (Int)) × Int × Int × (Int × List (Int)) × List (Int × Int × Int × List (Int × Int × Int × List UInt8)) × List (Int × (Int × List (Int)) × (Int × Int × Int × List UInt8) × List (Int))) × List (Int × Int × Int × (Int × Int × Int × List UInt8) × (Int × Int × Int × Int × Int × List (Int)) × Int × Int × Int × List (Int × Int × Int × List UInt8)) × List (Int × (Int × List (Int)) × (Int × Int × Int × List UInt8) × List (Int))) × (Int) × (List (Int × (Int × List (Int)) × (Int × Int × Int × List UInt8) × List (Int))) × Int → Option (((List (Int × List (Int)) × List (Int × Bool × (Int × (Int × List (Int)) × List (Int × Int × Int × List UInt8) × List (Int) × List (List UInt8) × Int × Int × Int × Int × Int × Int × Int × Int × Int × List (Int)) × Int × Int × (Int × List (Int)) × List (Int × Int × Int × List (Int × Int × Int × List UInt8)) × List (Int × (Int × List (Int)) × (Int × Int × Int × List UInt8) × List (Int))) × List (Int × Int × Int × (Int × Int × Int × List UInt8) × (Int × Int × Int × Int × Int × List (Int)) × Int × Int × Int × List (Int × Int × Int × List UInt8)) × List (Int × (Int × List (Int)) × (Int × Int × Int × List UInt8) × List (Int))) × Int) ⊕ (Bool)) := evL [] (finT [.t 2] [] [.cell .bool]) 2 ⟨[(1, false), (3, false), (4, false), (5, false)], [.box (.pair (.sl false (.pair (.int .i64) (.sl false (.int .i64)))) (.pair (.sl false (.pair (.int .i64) (.pair .bool (.pair (.pair (.int .i64) (.pair (.pair (.int .i64) (.sl false (.int .i64))) (.pair (.sl false (.pair (.int .i64) (.pair (.int .i64) (.pair (.int .i64) .str)))) (.pair (.sl false (.int .i64)) (.pair (.sl false .str) (.pair (.int .i64) (.pair (.int .i64) (.pair (.int .i64) (.pair (.int .i64) (.pair (.int .i64) (.pair (.int .i64) (.pair (.int .i64) (.pair (.int .i64) (.pair (.int .i64) (.sl false (.int .i64)))))))))))))))) (.pair (.int .i64) (.pair (.int .i64) (.pair (.pair (.int .i64) (.sl false (.int .i64))) (.pair (.sl false (.pair (.int .i64) (.pair (.int .i64) (.pair (.int .i64) (.sl false (.pair (.int .i64) (.pair (.int .i64) (.pair (.int .i64) .str)))))))) (.sl false (.pair (.int .i64) (.pair (.pair (.int .i64) (.sl false (.int .i64))) (.pair (.pair (.int .i64) (.pair (.int .i64) (.pair (.int .i64) .str))) (.sl false (.int .i64)))))))))))))) (.pair (.sl false (.pair (.int .i64) (.pair (.int .i64) (.pair (.int .i64) (.pair (.pair (.int .i64) (.pair (.int .i64) (.pair (.int .i64) .str))) (.pair (.pair (.int .i64) (.pair (.int .i64) (.pair (.int .i64) (.pair (.int .i64) (.pair (.int .i64) (.sl false (.int .i64))))))) (.pair (.int .i64) (.pair (.int .i64) (.pair (.int .i64) (.sl false (.pair (.int .i64) (.pair (.int .i64) (.pair (.int .i64) .str))))))))))))) (.sl false (.pair (.int .i64) (.pair (.pair (.int .i64) (.sl false (.int .i64))) (.pair (.pair (.int .i64) (.pair (.int .i64) (.pair (.int .i64) .str))) (.sl false (.int .i64))))))))), .cell (.int .i64), .cell (.sl false (.pair (.int .i64) (.pair (.pair (.int .i64) (.sl false (.int .i64))) (.pair (.pair (.int .i64) (.pair (.int .i64) (.pair (.int .i64) .str))) (.sl false (.int .i64)))))), .cell (.int .i64)]⟩ ⟨[(1, false), (3, false)], [.box (.pair (.sl false (.pair (.int .i64) (.sl false (.int .i64)))) (.pair (.sl false (.pair (.int .i64) (.pair .bool (.pair (.pair (.int .i64) (.pair (.pair (.int .i64) (.sl false (.int .i64))) (.pair (.sl false (.pair (.int .i64) (.pair (.int .i64) (.pair (.int .i64) .str)))) (.pair (.sl false (.int .i64)) (.pair (.sl false .str) (.pair (.int .i64) (.pair (.int .i64) (.pair (.int .i64) (.pair (.int .i64) (.pair (.int .i64) (.pair (.int .i64) (.pair (.int .i64) (.pair (.int .i64) (.pair (.int .i64) (.sl false (.int .i64)))))))))))))))) (.pair (.int .i64) (.pair (.int .i64) (.pair (.pair (.int .i64) (.sl false (.int .i64))) (.pair (.sl false (.pair (.int .i64) (.pair (.int .i64) (.pair (.int .i64) (.sl false (.pair (.int .i64) (.pair (.int .i64) (.pair (.int .i64) .str)))))))) (.sl false (.pair (.int .i64) (.pair (.pair (.int .i64) (.sl false (.int .i64))) (.pair (.pair (.int .i64) (.pair (.int .i64) (.pair (.int .i64) .str))) (.sl false (.int .i64)))))))))))))) (.pair (.sl false (.pair (.int .i64) (.pair (.int .i64) (.pair (.int .i64) (.pair (.pair (.int .i64) (.pair (.int .i64) (.pair (.int .i64) .str))) (.pair (.pair (.int .i64) (.pair (.int .i64) (.pair (.int .i64) (.pair (.int .i64) (.pair (.int .i64) (.sl false (.int .i64))))))) (.pair (.int .i64) (.pair (.int .i64) (.pair (.int .i64) (.sl false (.pair (.int .i64) (.pair (.int .i64) (.pair (.int .i64) .str))))))))))))) (.sl false (.pair (.int .i64) (.pair (.pair (.int .i64) (.sl false (.int .i64))) (.pair (.pair (.int .i64) (.pair (.int .i64) (.pair (.int .i64) .str))) (.sl false (.int .i64))))))))), .cell (.int .i64)]⟩ B_spec_SaidFirst_2
def B_spec_SaidFirst_3 : TC := (.seq (.seq (.reg none [.p (.mv 8 (.t 3)) .unit,
  .p (.fadr 9 (.t 1) 1) .unit,
  .p (.load 10 (.t 9) 1 false) .unit,
  .p (.lenB 11 (.t 10)) .unit,
  .p (.bin 12 false .lss (.t 8) (.t 11)) .unit])
 (.cond (.t 12) .skip (.exit 0)))
 (.seq (.block 1 (.seq (.reg none [.p (.fadr 15 (.t 1) 1) .unit,
  .p (.load 16 (.t 15) 1 false) .unit,
  .p (.mv 17 (.t 3)) .unit,
  .p (.iadr 18 24 (.t 16) (.t 17)) .unit,
  .p (.fadr 19 (.t 18) 23) .unit,
  .p (.load 20 (.t 19) 1 false) .unit,
  .p (.mv 4 (.t 20)) .unit])
 (.seq (.reg none [.p (.mv 5 (.c (.int .i64 0))) .unit])
 (.jl 2 ⟨[(1, false), (3, false), (4, false), (5, false)], [.box (.pair (.sl false (.pair (.int .i64) (.sl false (.int .i64)))) (.pair (.sl false (.pair (.int .i64) (.pair .bool (.pair (.pair (.int .i64) (.pair (.pair (.int .i64) (.sl false (.int .i64))) (.pair (.sl false (.pair (.int .i64) (.pair (.int .i64) (.pair (.int .i64) .str)))) (.pair (.sl false (.int .i64)) (.pair (.sl false .str) (.pair (.int .i64) (.pair (.int .i64) (.pair (.int .i64) (.pair (.int .i64) (.pair (.int .i64) (.pair (.int .i64) (.pair (.int .i64) (.pair (.int .i64) (.pair (.int .i64) (.sl false (.int .i64)))))))))))))))) (.pair (.int .i64) (.pair (.int .i64) (.pair (.pair (.int .i64) (.sl false (.int .i64))) (.pair (.sl false (.pair (.int .i64) (.pair (.int .i64) (.pair (.int .i64) (.sl false (.pair (.int .i64) (.pair (.int .i64) (.pair (.int .i64) .str)))))))) (.sl false (.pair (.int .i64) (.pair (.pair (.int .i64) (.sl false (.int .i64))) (.pair (.pair (.int .i64) (.pair (.int .i64) (.pair (.int .i64) .str))) (.sl false (.int .i64)))))))))))))) (.pair (.sl false (.pair (.int .i64) (.pair (.int .i64) (.pair (.int .i64) (.pair (.pair (.int .i64) (.pair (.int .i64) (.pair (.int .i64) .str))) (.pair (.pair (.int .i64) (.pair (.int .i64) (.pair (.int .i64) (.pair (.int .i64) (.pair (.int .i64) (.sl false (.int .i64))))))) (.pair (.int .i64) (.pair (.int .i64) (.pair (.int .i64) (.sl false (.pair (.int .i64) (.pair (.int .i64) (.pair (.int .i64) .str))))))))))))) (.sl false (.pair (.int .i64) (.pair (.pair (.int .i64) (.sl false (.int .i64))) (.pair (.pair (.int .i64) (.pair (.int .i64) (.pair (.int .i64) .str))) (.sl false (.int .i64))))))))), .cell (.int .i64), .cell (.sl false (.pair (.int .i64) (.pair (.pair (.int .i64) (.sl false (.int .i64))) (.pair (.pair (.int .i64) (.pair (.int .i64) (.pair (.int .i64) .str))) (.sl false (.int .i64)))))), .cell (.int .i64)]⟩ ⟨[(1, false), (3, false)], [.box (.pair (.sl false (.pair (.int .i64) (.sl false (.int .i64)))) (.pair (.sl false (.pair (.int .i64) (.pair .bool (.pair (.pair (.int .i64) (.pair (.pair (.int .i64) (.sl false (.int .i64))) (.pair (.sl false (.pair (.int .i64) (.pair (.int .i64) (.pair (.int .i64) .str)))) (.pair (.sl false (.int .i64)) (.pair (.sl false .str) (.pair (.int .i64) (.pair (.int .i64) (.pair (.int .i64) (.pair (.int .i64) (.pair (.int .i64) (.pair (.int .i64) (.pair (.int .i64) (.pair (.int .i64) (.pair (.int .i64) (.sl false (.int .i64)))))))))))))))) (.pair (.int .i64) (.pair (.int .i64) (.pair (.pair (.int .i64) (.sl false (.int .i64))) (.pair (.sl false (.pair (.int .i64) (.pair (.int .i64) (.pair (.int .i64) (.sl false (.pair (.int .i64) (.pair (.int .i64) (.pair (.int .i64) .str)))))))) (.sl false (.pair (.int .i64) (.pair (.pair (.int .i64) (.sl false (.int .i64))) (.pair (.pair (.int .i64) (.pair (.int .i64) (.pair (.int .i64) .str))) (.sl false (.int .i64)))))))))))))) (.pair (.sl false (.pair (.int .i64) (.pair (.int .i64) (.pair (.int .i64) (.pair (.pair (.int .i64) (.pair (.int .i64) (.pair (.int .i64) .str))) (.pair (.pair (.int .i64) (.pair (.int .i64) (.pair (.int .i64) (.pair (.int .i64) (.pair (.int .i64) (.sl false (.int .i64))))))) (.pair (.int .i64) (.pair (.int .i64) (.pair (.int .i64) (.sl false (.pair (.int .i64) (.pair (.int .i64) (.pair (.int .i64) .str))))))))))))) (.sl false (.pair (.int .i64) (.pair (.pair (.int .i64) (.sl false (.int .i64))) (.pair (.pair (.int .i64) (.pair (.int .i64) (.pair (.int .i64) .str))) (.sl false (.int .i64))))))))), .cell (.int .i64)]⟩ B_spec_SaidFirst_2))))
 (.reg none [.p (.mv 13 (.t 3)) .unit,
  .p (.bin 14 false .add (.t 13) (.c (.int .i64 1))) .unit,
  .p (.mv 3 (.t 14)) .unit])))
noncomputable def L_spec_SaidFirst_3 : Nat → (List (Int × List (Int)) × List (Int × Bool × (Int × (Int × List (Int)) × List (Int × Int × Int × List UInt8) × List (Int) × List (List UInt8) × Int × Int × Int × Int × Int × Int × Int × Int × Int × List (Int)) × Int × Int × (Int × List (Int)) × List (Int × Int × Int × List (Int × Int × Int × List UInt8)) × List (Int × (Int × List (Int)) × (Int × Int × Int × List UInt8) × List (Int))) × List (Int × Int × Int × (Int × Int × Int × List UInt8) × (Int × Int × Int × Int × Int × List (Int)) × Int × Int × Int × List (Int × Int × Int × List UInt8)) × List (Int × (Int × List (Int)) × (Int × Int × Int × List UInt8) × List (Int))) × Int → Option ((Unit) ⊕ (Bool)) := evL [] (finT [.t 2] [] [.cell .bool]) 0 ⟨[(1, false), (3, false)], [.box (.pair (.sl false (.pair (.int .i64) (.sl false (.int .i64)))) (.pair (.sl false (.pair (.int .i64) (.pair .bool (.pair (.pair (.int .i64) (.pair (.pair (.int .i64) (.sl false (.int .i64))) (.pair (.sl false (.pair (.int .i64) (.pair (.int .i64) (.pair (.int .i64) .str)))) (.pair (.sl false (.int .i64)) (.pair (.sl false .str) (.pair (.int .i64) (.pair (.int .i64) (.pair (.int .i64) (.pair (.int .i64) (.pair (.int .i64) (.pair (.int .i64) (.pair (.int .i64) (.pair (.int .i64) (.pair (.int .i64) (.sl false (.int .i64)))))))))))))))) (.pair (.int .i64) (.pair (.int .i64) (.pair (.pair (.int .i64) (.sl false (.int .i64))) (.pair (.sl false (.pair (.int .i64) (.pair (.int .i64) (.pair (.int .i64) (.sl false (.pair (.int .i64) (.pair (.int .i64) (.pair (.int .i64) .str)))))))) (.sl false (.pair (.int .i64) (.pair (.pair (.int .i64) (.sl false (.int .i64))) (.pair (.pair (.int .i64) (.pair (.int .i64) (.pair (.int .i64) .str))) (.sl false (.int .i64)))))))))))))) (.pair (.sl false (.pair (.int .i64) (.pair (.int .i64) (.pair (.int .i64) (.pair (.pair (.int .i64) (.pair (.int .i64) (.pair (.int .i64) .str))) (.pair (.pair (.int .i64) (.pair (.int .i64) (.pair (.int .i64) (.pair (.int .i64) (.pair (.int .i64) (.sl false (.int .i64))))))) (.pair (.int .i64) (.pair (.int .i64) (.pair (.int .i64) (.sl false (.pair (.int .i64) (.pair (.int .i64) (.pair (.int .i64) .str))))))))))))) (.sl false (.pair (.int .i64) (.pair (.pair (.int .i64) (.sl false (.int .i64))) (.pair (.pair (.int .i64) (.pair (.int .i64) (.pair (.int .i64) .str))) (.sl false (.int .i64))))))))), .cell (.int .i64)]⟩ ⟨[], []⟩ B_spec_SaidFirst_3
def F_spec_SaidFirst : TF := ⟨(.seq (.reg none [.p (.box 1 (.t 0)) .unit,
  .p (.mv 2 (.c (.bool false))) .unit])
 (.seq (.seq (.reg none [.p (.mv 3 (.c (.int .i64 0))) .unit])
 (.jl 0 ⟨[(1, false), (3, false)], [.box (.pair (.sl false (.pair (.int .i64) (.sl false (.int .i64)))) (.pair (.sl false (.pair (.int .i64) (.pair .bool (.pair (.pair (.int .i64) (.pair (.pair (.int .i64) (.sl false (.int .i64))) (.pair (.sl false (.pair (.int .i64) (.pair (.int .i64) (.pair (.int .i64) .str)))) (.pair (.sl false (.int .i64)) (.pair (.sl false .str) (.pair (.int .i64) (.pair (.int .i64) (.pair (.int .i64) (.pair (.int .i64) (.pair (.int .i64) (.pair (.int .i64) (.pair (.int .i64) (.pair (.int .i64) (.pair (.int .i64) (.sl false (.int .i64)))))))))))))))) (.pair (.int .i64) (.pair (.int .i64) (.pair (.pair (.int .i64) (.sl false (.int .i64))) (.pair (.sl false (.pair (.int .i64) (.pair (.int .i64) (.pair (.int .i64) (.sl false (.pair (.int .i64) (.pair (.int .i64) (.pair (.int .i64) .str)))))))) (.sl false (.pair (.int .i64) (.pair (.pair (.int .i64) (.sl false (.int .i64))) (.pair (.pair (.int .i64) (.pair (.int .i64) (.pair (.int .i64) .str))) (.sl false (.int .i64)))))))))))))) (.pair (.sl false (.pair (.int .i64) (.pair (.int .i64) (.pair (.int .i64) (.pair (.pair (.int .i64) (.pair (.int .i64) (.pair (.int .i64) .str))) (.pair (.pair (.int .i64) (.pair (.int .i64) (.pair (.int .i64) (.pair (.int .i64) (.pair (.int .i64) (.sl false (.int .i64))))))) (.pair (.int .i64) (.pair (.int .i64) (.pair (.int .i64) (.sl false (.pair (.int .i64) (.pair (.int .i64) (.pair (.int .i64) .str))))))))))))) (.sl false (.pair (.int .i64) (.pair (.pair (.int .i64) (.sl false (.int .i64))) (.pair (.pair (.int .i64) (.pair (.int .i64) (.pair (.int .i64) .str))) (.sl false (.int .i64))))))))), .cell (.int .i64)]⟩ ⟨[], []⟩ B_spec_SaidFirst_3))
 (.seq (.reg none [.p (.mv 2 (.c (.bool true))) .unit])
 .ret))),
 73, 1, [.t 2]⟩
theorem m_spec_SaidFirst : mH Try.prog 54 [] = some (F_spec_SaidFirst.code.x, F_spec_SaidFirst.N, F_spec_SaidFirst.np, F_spec_SaidFirst.res) := by kernel_rfl
noncomputable def T_spec_SaidFirst : List (Int × List (Int)) × List (Int × Bool × (Int × (Int × List (Int)) × List (Int × Int × Int × List UInt8) × List (Int) × List (List UInt8) × Int × Int × Int × Int × Int × Int × Int × Int × Int × List (Int)) × Int × Int × (Int × List (Int)) × List (Int × Int × Int × List (Int × Int × Int × List UInt8)) × List (Int × (Int × List (Int)) × (Int × Int × Int × List UInt8) × List (Int))) × List (Int × Int × Int × (Int × Int × Int × List UInt8) × (Int × Int × Int × Int × Int × List (Int)) × Int × Int × Int × List (Int × Int × Int × List UInt8)) × List (Int × (Int × List (Int)) × (Int × Int × Int × List UInt8) × List (Int)) → Option (Bool) := evF [] F_spec_SaidFirst [.agg (.pair (.sl false (.pair (.int .i64) (.sl false (.int .i64)))) (.pair (.sl false (.pair (.int .i64) (.pair .bool (.pair (.pair (.int .i64) (.pair (.pair (.int .i64) (.sl false (.int .i64))) (.pair (.sl false (.pair (.int .i64) (.pair (.int .i64) (.pair (.int .i64) .str)))) (.pair (.sl false (.int .i64)) (.pair (.sl false .str) (.pair (.int .i64) (.pair (.int .i64) (.pair (.int .i64) (.pair (.int .i64) (.pair (.int .i64) (.pair (.int .i64) (.pair (.int .i64) (.pair (.int .i64) (.pair (.int .i64) (.sl false (.int .i64)))))))))))))))) (.pair (.int .i64) (.pair (.int .i64) (.pair (.pair (.int .i64) (.sl false (.int .i64))) (.pair (.sl false (.pair (.int .i64) (.pair (.int .i64) (.pair (.int .i64) (.sl false (.pair (.int .i64) (.pair (.int .i64) (.pair (.int .i64) .str)))))))) (.sl false (.pair (.int .i64) (.pair (.pair (.int .i64) (.sl false (.int .i64))) (.pair (.pair (.int .i64) (.pair (.int .i64) (.pair (.int .i64) .str))) (.sl false (.int .i64)))))))))))))) (.pair (.sl false (.pair (.int .i64) (.pair (.int .i64) (.pair (.int .i64) (.pair (.pair (.int .i64) (.pair (.int .i64) (.pair (.int .i64) .str))) (.pair (.pair (.int .i64) (.pair (.int .i64) (.pair (.int .i64) (.pair (.int .i64) (.pair (.int .i64) (.sl false (.int .i64))))))) (.pair (.int .i64) (.pair (.int .i64) (.pair (.int .i64) (.sl false (.pair (.int .i64) (.pair (.int .i64) (.pair (.int .i64) .str))))))))))))) (.sl false (.pair (.int .i64) (.pair (.pair (.int .i64) (.sl false (.int .i64))) (.pair (.pair (.int .i64) (.pair (.int .i64) (.pair (.int .i64) .str))) (.sl false (.int .i64)))))))))] [] [.cell .bool] []
noncomputable def fn_spec_SaidFirst : TFn := ⟨54, [.agg (.pair (.sl false (.pair (.int .i64) (.sl false (.int .i64)))) (.pair (.sl false (.pair (.int .i64) (.pair .bool (.pair (.pair (.int .i64) (.pair (.pair (.int .i64) (.sl false (.int .i64))) (.pair (.sl false (.pair (.int .i64) (.pair (.int .i64) (.pair (.int .i64) .str)))) (.pair (.sl false (.int .i64)) (.pair (.sl false .str) (.pair (.int .i64) (.pair (.int .i64) (.pair (.int .i64) (.pair (.int .i64) (.pair (.int .i64) (.pair (.int .i64) (.pair (.int .i64) (.pair (.int .i64) (.pair (.int .i64) (.sl false (.int .i64)))))))))))))))) (.pair (.int .i64) (.pair (.int .i64) (.pair (.pair (.int .i64) (.sl false (.int .i64))) (.pair (.sl false (.pair (.int .i64) (.pair (.int .i64) (.pair (.int .i64) (.sl false (.pair (.int .i64) (.pair (.int .i64) (.pair (.int .i64) .str)))))))) (.sl false (.pair (.int .i64) (.pair (.pair (.int .i64) (.sl false (.int .i64))) (.pair (.pair (.int .i64) (.pair (.int .i64) (.pair (.int .i64) .str))) (.sl false (.int .i64)))))))))))))) (.pair (.sl false (.pair (.int .i64) (.pair (.int .i64) (.pair (.int .i64) (.pair (.pair (.int .i64) (.pair (.int .i64) (.pair (.int .i64) .str))) (.pair (.pair (.int .i64) (.pair (.int .i64) (.pair (.int .i64) (.pair (.int .i64) (.pair (.int .i64) (.sl false (.int .i64))))))) (.pair (.int .i64) (.pair (.int .i64) (.pair (.int .i64) (.sl false (.pair (.int .i64) (.pair (.int .i64) (.pair (.int .i64) .str))))))))))))) (.sl false (.pair (.int .i64) (.pair (.pair (.int .i64) (.sl false (.int .i64))) (.pair (.pair (.int .i64) (.pair (.int .i64) (.pair (.int .i64) .str))) (.sl false (.int .i64)))))))))], [], [.cell .bool], [], T_spec_SaidFirst⟩
theorem ok_spec_SaidFirst : FnOk Try.prog fn_spec_SaidFirst := evF_ok mixed allOk_nil m_spec_SaidFirst (by decide)
def F_impl_wasNumbered_1 : TF := ⟨(.seq (.reg none [.p (.box 2 (.t 0)) .unit,
  .p (.mv 3 (.c (.bool false))) .unit])
 (.seq (.reg none [.p (.fadr 4 (.t 2) 1) .unit,
  .p (.fadr 5 (.t 4) 0) .unit,
  .p (.load 6 (.t 5) 1 false) .unit,
  .p (.fadr 7 (.t 1) 1) .unit,
  .p (.fadr 8 (.t 7) 0) .unit,
  .p (.load 9 (.t 8) 1 false) .unit,
  .p (.bin 10 false .eql (.t 6) (.t 9)) .unit,
  .p (.mv 11 (.t 10)) .unit,
  .g 11 true (some 12) (.fadr 12 (.t 2) 3) .unit,
  .g 11 true (some 13) (.load 13 (.t 12) 4 true) .unit,
  .g 11 true (some 14) (.fadr 14 (.t 1) 3) .unit,
  .g 11 true (some 15) (.load 15 (.t 14) 4 true) .unit,
  .g 11 true (some 16) (.eqA 16 false [0, 0, 0, 1] (.t 13) (.t 15)) .unit,
  .p (.pick 17 (.t 11) (.t 16) (.c (.bool false))) .unit,
  .p (.mv 3 (.t 17)) .unit])
 .ret)),
 18, 2, [.t 3]⟩
theorem m_impl_wasNumbered_1 : mH Try.prog 153 [] = some (F_impl_wasNumbered_1.code.x, F_impl_wasNumbered_1.N, F_impl_wasNumbered_1.np, F_impl_wasNumbered_1.res) := by kernel_rfl
noncomputable def T_impl_wasNumbered_1 : (Int × (Int × List (Int)) × (Int × Int × Int × List UInt8) × List (Int)) × Int × (Int × List (Int)) × (Int × Int × Int × List UInt8) × List (Int) → Option (Bool) := evF [] F_impl_wasNumbered_1 [.agg (.pair (.int .i64) (.pair (.pair (.int .i64) (.sl false (.int .i64))) (.pair (.pair (.int .i64) (.pair (.int .i64) (.pair (.int .i64) .str))) (.sl false (.int .i64))))), .rp (.pair (.int .i64) (.pair (.pair (.int .i64) (.sl false (.int .i64))) (.pair (.pair (.int .i64) (.pair (.int .i64) (.pair (.int .i64) .str))) (.sl false (.int .i64)))))] [] [.cell .bool] []
noncomputable def fn_impl_wasNumbered_1 : TFn := ⟨153, [.agg (.pair (.int .i64) (.pair (.pair (.int .i64) (.sl false (.int .i64))) (.pair (.pair (.int .i64) (.pair (.int .i64) (.pair (.int .i64) .str))) (.sl false (.int .i64))))), .rp (.pair (.int .i64) (.pair (.pair (.int .i64) (.sl false (.int .i64))) (.pair (.pair (.int .i64) (.pair (.int .i64) (.pair (.int .i64) .str))) (.sl false (.int .i64)))))], [], [.cell .bool], [], T_impl_wasNumbered_1⟩
theorem ok_impl_wasNumbered_1 : FnOk Try.prog fn_impl_wasNumbered_1 := evF_ok mixed allOk_nil m_impl_wasNumbered_1 (by decide)
def B_slices_IndexFunc___impl_Event_impl_Event___impl_wasNumbered_1_1 : TC := (.seq (.reg none [.p (.bin 9 false .lss (.t 8) (.t 7)) .unit])
 (.seq (.cond (.t 9) .skip (.exit 0))
 (.seq (.block 1 (.seq (.reg none [.p (.mv 10 (.t 8)) .unit,
  .p (.mv 5 (.t 10)) .unit])
 (.seq (.reg none [.p (.mv 11 (.t 1)) .unit,
  .p (.mv 12 (.t 0)) .unit,
  .p (.mv 13 (.t 5)) .unit,
  .p (.iadr 14 8 (.t 12) (.t 13)) .unit,
  .p (.load 15 (.t 14) 8 true) .unit,
  .p (.callF 16 (.t 11) [(.t 15)]) .unit])
 (.cond (.t 16) (.seq (.reg none [.p (.mv 17 (.t 5)) .unit,
  .p (.mv 4 (.t 17)) .unit])
 .ret) .skip))))
 (.reg none [.p (.bin 18 false .add (.t 8) (.c (.int .i64 1))) .unit,
  .p (.mv 8 (.t 18)) .unit]))))
noncomputable def L_slices_IndexFunc___impl_Event_impl_Event___impl_wasNumbered_1_1 : Nat → (List (Int × (Int × List (Int)) × (Int × Int × Int × List UInt8) × List (Int))) × (Int × (Int × List (Int)) × (Int × Int × Int × List UInt8) × List (Int)) × (Int) × Int → Option ((Unit) ⊕ (Int)) := evL [fn_impl_wasNumbered_1] (finT [.t 4] [] [.cell (.int .i64)]) 0 ⟨[(0, true), (1, true), (7, false), (8, false)], [.cell (.sl false (.pair (.int .i64) (.pair (.pair (.int .i64) (.sl false (.int .i64))) (.pair (.pair (.int .i64) (.pair (.int .i64) (.pair (.int .i64) .str))) (.sl false (.int .i64)))))), .cell (.fn 153 (.rp (.pair (.int .i64) (.pair (.pair (.int .i64) (.sl false (.int .i64))) (.pair (.pair (.int .i64) (.pair (.int .i64) (.pair (.int .i64) .str))) (.sl false (.int .i64))))))), .cell (.int .i64), .cell (.int .i64)]⟩ ⟨[], []⟩ B_slices_IndexFunc___impl_Event_impl_Event___impl_wasNumbered_1_1
def F_slices_IndexFunc___impl_Event_impl_Event___impl_wasNumbered_1 : TF := ⟨(.seq (.reg none [.p (.mv 4 (.c (.int .i64 0))) .unit])
 (.seq (.seq (.reg none [.p (.mv 6 (.t 0)) .unit,
  .p (.lenB 7 (.t 6)) .unit,
  .p (.mv 8 (.c (.int .i64 0))) .unit])
 (.jl 0 ⟨[(0, true), (1, true), (7, false), (8, false)], [.cell (.sl false (.pair (.int .i64) (.pair (.pair (.int .i64) (.sl false (.int .i64))) (.pair (.pair (.int .i64) (.pair (.int .i64) (.pair (.int .i64) .str))) (.sl false (.int .i64)))))), .cell (.fn 153 (.rp (.pair (.int .i64) (.pair (.pair (.int .i64) (.sl false (.int .i64))) (.pair (.pair (.int .i64) (.pair (.int .i64) (.pair (.int .i64) .str))) (.sl false (.int .i64))))))), .cell (.int .i64), .cell (.int .i64)]⟩ ⟨[], []⟩ B_slices_IndexFunc___impl_Event_impl_Event___impl_wasNumbered_1_1))
 (.seq (.reg none [.p (.mv 4 (.c (.int .i64 (-1)))) .unit])
 .ret))),
 19, 2, [.t 4]⟩
theorem m_slices_IndexFunc___impl_Event_impl_Event___impl_wasNumbered_1 : mH Try.prog 178 [] = some (F_slices_IndexFunc___impl_Event_impl_Event___impl_wasNumbered_1.code.x, F_slices_IndexFunc___impl_Event_impl_Event___impl_wasNumbered_1.N, F_slices_IndexFunc___impl_Event_impl_Event___impl_wasNumbered_1.np, F_slices_IndexFunc___impl_Event_impl_Event___impl_wasNumbered_1.res) := by kernel_rfl
noncomputable def T_slices_IndexFunc___impl_Event_impl_Event___impl_wasNumbered_1 : (List (Int × (Int × List (Int)) × (Int × Int × Int × List UInt8) × List (Int))) × Int × (Int × List (Int)) × (Int × Int × Int × List UInt8) × List (Int) → Option (Int) := evF [fn_impl_wasNumbered_1] F_slices_IndexFunc___impl_Event_impl_Event___impl_wasNumbered_1 [.cell (.sl false (.pair (.int .i64) (.pair (.pair (.int .i64) (.sl false (.int .i64))) (.pair (.pair (.int .i64) (.pair (.int .i64) (.pair (.int .i64) .str))) (.sl false (.int .i64)))))), .cell (.fn 153 (.rp (.pair (.int .i64) (.pair (.pair (.int .i64) (.sl false (.int .i64))) (.pair (.pair (.int .i64) (.pair (.int .i64) (.pair (.int .i64) .str))) (.sl false (.int .i64)))))))] [] [.cell (.int .i64)] []
noncomputable def fn_slices_IndexFunc___impl_Event_impl_Event___impl_wasNumbered_1 : TFn := ⟨178, [.cell (.sl false (.pair (.int .i64) (.pair (.pair (.int .i64) (.sl false (.int .i64))) (.pair (.pair (.int .i64) (.pair (.int .i64) (.pair (.int .i64) .str))) (.sl false (.int .i64)))))), .cell (.fn 153 (.rp (.pair (.int .i64) (.pair (.pair (.int .i64) (.sl false (.int .i64))) (.pair (.pair (.int .i64) (.pair (.int .i64) (.pair (.int .i64) .str))) (.sl false (.int .i64)))))))], [], [.cell (.int .i64)], [], T_slices_IndexFunc___impl_Event_impl_Event___impl_wasNumbered_1⟩
theorem ok_slices_IndexFunc___impl_Event_impl_Event___impl_wasNumbered_1 : FnOk Try.prog fn_slices_IndexFunc___impl_Event_impl_Event___impl_wasNumbered_1 := evF_ok mixed (allOk_cons ok_impl_wasNumbered_1 allOk_nil) m_slices_IndexFunc___impl_Event_impl_Event___impl_wasNumbered_1 (by decide)
def F_slices_ContainsFunc___impl_Event_impl_Event___impl_wasNumbered_1 : TF := ⟨(.seq (.reg none [.p (.mv 4 (.c (.bool false))) .unit])
 (.seq (.reg none [.p (.mv 5 (.t 0)) .unit,
  .p (.mv 6 (.t 1)) .unit,
  .p (.callB 7 n_slices_IndexFunc___impl_Event_impl_Event_ [((.t 5), 0), ((.t 6), 0)]) .unit,
  .p (.bin 8 false .geq (.t 7) (.c (.int .i64 0))) .unit,
  .p (.mv 4 (.t 8)) .unit])
 .ret)),
 9, 2, [.t 4]⟩
theorem m_slices_ContainsFunc___impl_Event_impl_Event___impl_wasNumbered_1 : mH Try.prog 152 [] = some (F_slices_ContainsFunc___impl_Event_impl_Event___impl_wasNumbered_1.code.x, F_slices_ContainsFunc___impl_Event_impl_Event___impl_wasNumbered_1.N, F_slices_ContainsFunc___impl_Event_impl_Event___impl_wasNumbered_1.np, F_slices_ContainsFunc___impl_Event_impl_Event___impl_wasNumbered_1.res) := by kernel_rfl
noncomputable def T_slices_ContainsFunc___impl_Event_impl_Event___impl_wasNumbered_1 : (List (Int × (Int × List (Int)) × (Int × Int × Int × List UInt8) × List (Int))) × Int × (Int × List (Int)) × (Int × Int × Int × List UInt8) × List (Int) → Option (Bool) := evF [fn_slices_IndexFunc___impl_Event_impl_Event___impl_wasNumbered_1, fn_impl_wasNumbered_1] F_slices_ContainsFunc___impl_Event_impl_Event___impl_wasNumbered_1 [.cell (.sl false (.pair (.int .i64) (.pair (.pair (.int .i64) (.sl false (.int .i64))) (.pair (.pair (.int .i64) (.pair (.int .i64) (.pair (.int .i64) .str))) (.sl false (.int .i64)))))), .cell (.fn 153 (.rp (.pair (.int .i64) (.pair (.pair (.int .i64) (.sl false (.int .i64))) (.pair (.pair (.int .i64) (.pair (.int .i64) (.pair (.int .i64) .str))) (.sl false (.int .i64)))))))] [] [.cell .bool] []
noncomputable def fn_slices_ContainsFunc___impl_Event_impl_Event___impl_wasNumbered_1 : TFn := ⟨152, [.cell (.sl false (.pair (.int .i64) (.pair (.pair (.int .i64) (.sl false (.int .i64))) (.pair (.pair (.int .i64) (.pair (.int .i64) (.pair (.int .i64) .str))) (.sl false (.int .i64)))))), .cell (.fn 153 (.rp (.pair (.int .i64) (.pair (.pair (.int .i64) (.sl false (.int .i64))) (.pair (.pair (.int .i64) (.pair (.int .i64) (.pair (.int .i64) .str))) (.sl false (.int .i64)))))))], [], [.cell .bool], [], T_slices_ContainsFunc___impl_Event_impl_Event___impl_wasNumbered_1⟩
theorem ok_slices_ContainsFunc___impl_Event_impl_Event___impl_wasNumbered_1 : FnOk Try.prog fn_slices_ContainsFunc___impl_Event_impl_Event___impl_wasNumbered_1 := evF_ok mixed (allOk_cons ok_slices_IndexFunc___impl_Event_impl_Event___impl_wasNumbered_1 (allOk_cons ok_impl_wasNumbered_1 allOk_nil)) m_slices_ContainsFunc___impl_Event_impl_Event___impl_wasNumbered_1 (by decide)
def F_impl_wasNumbered : TF := ⟨(.seq (.reg none [.p (.boxZ 3 (.t 1)) .unit,
  .p (.mv 4 (.c (.bool false))) .unit])
 (.seq (.reg none [.p (.mv 5 (.t 0)) .unit,
  .p (.mkF 6 153 [(.t 3)]) .unit,
  .p (.callB 7 n_slices_ContainsFunc___impl_Event_impl_Event_ [((.t 5), 0), ((.t 6), 0)]) .unit,
  .p (.mv 4 (.t 7)) .unit])
 .ret)),
 8, 2, [.t 4]⟩
theorem m_impl_wasNumbered : mH Try.prog 118 [(0, 0, .z)] = some (F_impl_wasNumbered.code.x, F_impl_wasNumbered.N, F_impl_wasNumbered.np, F_impl_wasNumbered.res) := by kernel_rfl
noncomputable def T_impl_wasNumbered : (List (Int × (Int × List (Int)) × (Int × Int × Int × List UInt8) × List (Int))) × Int × (Int × List (Int)) × (Int × Int × Int × List UInt8) × List (Int) → Option (Bool) := evF [fn_impl_wasNumbered_1, fn_slices_ContainsFunc___impl_Event_impl_Event___impl_wasNumbered_1] F_impl_wasNumbered [.cell (.sl false (.pair (.int .i64) (.pair (.pair (.int .i64) (.sl false (.int .i64))) (.pair (.pair (.int .i64) (.pair (.int .i64) (.pair (.int .i64) .str))) (.sl false (.int .i64)))))), .agg (.pair (.int .i64) (.pair (.pair (.int .i64) (.sl false (.int .i64))) (.pair (.pair (.int .i64) (.pair (.int .i64) (.pair (.int .i64) .str))) (.sl false (.int .i64)))))] [] [.cell .bool] []
noncomputable def fn_impl_wasNumbered : TFn := ⟨118, [.cell (.sl false (.pair (.int .i64) (.pair (.pair (.int .i64) (.sl false (.int .i64))) (.pair (.pair (.int .i64) (.pair (.int .i64) (.pair (.int .i64) .str))) (.sl false (.int .i64)))))), .agg (.pair (.int .i64) (.pair (.pair (.int .i64) (.sl false (.int .i64))) (.pair (.pair (.int .i64) (.pair (.int .i64) (.pair (.int .i64) .str))) (.sl false (.int .i64)))))], [], [.cell .bool], [], T_impl_wasNumbered⟩
theorem ok_impl_wasNumbered : FnOk Try.prog fn_impl_wasNumbered := evF_ok mixed (allOk_cons ok_impl_wasNumbered_1 (allOk_cons ok_slices_ContainsFunc___impl_Event_impl_Event___impl_wasNumbered_1 allOk_nil)) m_impl_wasNumbered (by decide)
def B_impl_SaidFirst_1 : TC := (.seq (.reg none [.p (.bin 18 false .lss (.t 17) (.t 16)) .unit])
 (.seq (.cond (.t 18) .skip (.exit 2))
 (.seq (.block 3 (.seq (.reg none [.p (.iadr 19 8 (.t 15) (.t 17)) .unit,
  .p (.load 20 (.t 19) 8 true) .unit,
  .p (.alloc 6 [(.lit (.int .i64 0)), (.lit (.int .i64 0)), (.sl true 1 []), (.lit (.int .i64 0)), (.lit (.int .i64 0)), (.lit (.int .i64 0)), (.lit (.string (ba []))), (.sl true 1 [])]) .unit,
  .p (.store (.t 6) (.t 20) 8) .unit])
 (.seq (.join ⟨[(1, false), (8, false), (9, false), (10, false), (15, false), (16, false), (17, false), (30, false)], [.box (.pair (.sl false (.pair (.int .i64) (.sl false (.int .i64)))) (.pair (.sl false (.pair (.int .i64) (.pair .bool (.pair (.pair (.int .i64) (.pair (.pair (.int .i64) (.sl false (.int .i64))) (.pair (.sl false (.pair (.int .i64) (.pair (.int .i64) (.pair (.int .i64) .str)))) (.pair (.sl false (.int .i64)) (.pair (.sl false .str) (.pair (.int .i64) (.pair (.int .i64) (.pair (.int .i64) (.pair (.int .i64) (.pair (.int .i64) (.pair (.int .i64) (.pair (.int .i64) (.pair (.int .i64) (.pair (.int .i64) (.sl false (.int .i64)))))))))))))))) (.pair (.int .i64) (.pair (.int .i64) (.pair (.pair (.int .i64) (.sl false (.int .i64))) (.pair (.sl false (.pair (.int .i64) (.pair (.int .i64) (.pair (.int .i64) (.sl false (.pair (.int .i64) (.pair (.int .i64) (.pair (.int .i64) .str)))))))) (.sl false (.pair (.int .i64) (.pair (.pair (.int .i64) (.sl false (.int .i64))) (.pair (.pair (.int .i64) (.pair (.int .i64) (.pair (.int .i64) .str))) (.sl false (.int .i64)))))))))))))) (.pair (.sl false (.pair (.int .i64) (.pair (.int .i64) (.pair (.int .i64) (.pair (.pair (.int .i64) (.pair (.int .i64) (.pair (.int .i64) .str))) (.pair (.pair (.int .i64) (.pair (.int .i64) (.pair (.int .i64) (.pair (.int .i64) (.pair (.int .i64) (.sl false (.int .i64))))))) (.pair (.int .i64) (.pair (.int .i64) (.pair (.int .i64) (.sl false (.pair (.int .i64) (.pair (.int .i64) (.pair (.int .i64) .str))))))))))))) (.sl false (.pair (.int .i64) (.pair (.pair (.int .i64) (.sl false (.int .i64))) (.pair (.pair (.int .i64) (.pair (.int .i64) (.pair (.int .i64) .str))) (.sl false (.int .i64))))))))), .cell (.sl false (.pair (.int .i64) (.pair .bool (.pair (.pair (.int .i64) (.pair (.pair (.int .i64) (.sl false (.int .i64))) (.pair (.sl false (.pair (.int .i64) (.pair (.int .i64) (.pair (.int .i64) .str)))) (.pair (.sl false (.int .i64)) (.pair (.sl false .str) (.pair (.int .i64) (.pair (.int .i64) (.pair (.int .i64) (.pair (.int .i64) (.pair (.int .i64) (.pair (.int .i64) (.pair (.int .i64) (.pair (.int .i64) (.pair (.int .i64) (.sl false (.int .i64)))))))))))))))) (.pair (.int .i64) (.pair (.int .i64) (.pair (.pair (.int .i64) (.sl false (.int .i64))) (.pair (.sl false (.pair (.int .i64) (.pair (.int .i64) (.pair (.int .i64) (.sl false (.pair (.int .i64) (.pair (.int .i64) (.pair (.int .i64) .str)))))))) (.sl false (.pair (.int .i64) (.pair (.pair (.int .i64) (.sl false (.int .i64))) (.pair (.pair (.int .i64) (.pair (.int .i64) (.pair (.int .i64) .str))) (.sl false (.int .i64)))))))))))))), .cell (.int .i64), .cell (.int .i64), .cell (.sl false (.pair (.int .i64) (.pair (.pair (.int .i64) (.sl false (.int .i64))) (.pair (.pair (.int .i64) (.pair (.int .i64) (.pair (.int .i64) .str))) (.sl false (.int .i64)))))), .cell (.int .i64), .cell (.int .i64), .cell .bool]⟩ (.reg none [.p (.fadr 21 (.t 6) 0) .unit,
  .p (.load 22 (.t 21) 1 false) .unit,
  .p (.bin 23 false .eql (.t 22) (.c (.int .i64 1))) .unit,
  .p (.mv 24 (.t 23)) .unit,
  .g 24 true (some 25) (.fadr 25 (.t 1) 3) .unit,
  .g 24 true (some 26) (.load 26 (.t 25) 1 false) .unit,
  .g 24 true (some 27) (.load 27 (.t 6) 8 true) .unit,
  .g 24 true (some 28) (.callB 28 n_impl_wasNumbered [((.t 26), 0), ((.t 27), 0)]) .unit,
  .g 24 true (some 29) (.un 29 .not (.t 28)) .unit,
  .p (.pick 30 (.t 24) (.t 29) (.c (.bool false))) .unit]))
 (.cond (.t 30) (.seq (.reg none [.p (.mv 2 (.c (.bool false))) .unit])
 .ret) .skip))))
 (.reg none [.p (.bin 31 false .add (.t 17) (.c (.int .i64 1))) .unit,
  .p (.mv 17 (.t 31)) .unit]))))
noncomputable def L_impl_SaidFirst_1 : Nat → (List (Int × List (Int)) × List (Int × Bool × (Int × (Int × List (Int)) × List (Int × Int × Int × List UInt8) × List (Int) × List (List UInt8) × Int × Int × Int × Int × Int × Int × Int × Int × Int × List (Int)) × Int × Int × (Int × List (Int)) × List (Int × Int × Int × List (Int × Int × Int × List UInt8)) × List (Int × (Int × List (Int)) × (Int × Int × Int × List UInt8) × List (Int))) × List (Int × Int × Int × (Int × Int × Int × List UInt8) × (Int × Int × Int × Int × Int × List (Int)) × Int × Int × Int × List (Int × Int × Int × List UInt8)) × List (Int × (Int × List (Int)) × (Int × Int × Int × List UInt8) × List (Int))) × (List (Int × Bool × (Int × (Int × List (Int)) × List (Int × Int × Int × List UInt8) × List (Int) × List (List UInt8) × Int × Int × Int × Int × Int × Int × Int × Int × Int × List (Int)) × Int × Int × (Int × List (Int)) × List (Int × Int × Int × List (Int × Int × Int × List UInt8)) × List (Int × (Int × List (Int)) × (Int × Int × Int × List UInt8) × List (Int)))) × (Int) × (Int) × (List (Int × (Int × List (Int)) × (Int × Int × Int × List UInt8) × List (Int))) × (Int) × Int → Option (((List (Int × List (Int)) × List (Int × Bool × (Int × (Int × List (Int)) × List (Int × Int × Int × List UInt8) × List (Int) × List (List UInt8) × Int × Int × Int × Int × Int × Int × Int × Int × Int × List (Int)) × Int × Int × (Int × List (Int)) × List (Int × Int × Int × List (Int × Int × Int × List UInt8)) × List (Int × (Int × List (Int)) × (Int × Int × Int × List UInt8) × List (Int))) × List (Int × Int × Int × (Int × Int × Int × List UInt8) × (Int × Int × Int × Int × Int × List (Int)) × Int × Int × Int × List (Int × Int × Int × List UInt8)) × List (Int × (Int × List (Int)) × (Int × Int × Int × List UInt8) × List (Int))) × (List (Int × Bool × (Int × (Int × List (Int)) × List (Int × Int × Int × List UInt8) × List (Int) × List (List UInt8) × Int × Int × Int × Int × Int × Int × Int × Int × Int × List (Int)) × Int × Int × (Int × List (Int)) × List (Int × Int × Int × List (Int × Int × Int × List UInt8)) × List (Int × (Int × List (Int)) × (Int × Int × Int × List UInt8) × List (Int)))) × (Int) × Int) ⊕ (Bool)) := evL [fn_impl_wasNumbered] (finT [.t 2] [] [.cell .bool]) 2 ⟨[(1, false), (8, false), (9, false), (10, false), (15, false), (16, false), (17, false)], [.box (.pair (.sl false (.pair (.int .i64) (.sl false (.int .i64)))) (.pair (.sl false (.pair (.int .i64) (.pair .bool (.pair (.pair (.int .i64) (.pair (.pair (.int .i64) (.sl false (.int .i64))) (.pair (.sl false (.pair (.int .i64) (.pair (.int .i64) (.pair (.int .i64) .str)))) (.pair (.sl false (.int .i64)) (.pair (.sl false .str) (.pair (.int .i64) (.pair (.int .i64) (.pair (.int .i64) (.pair (.int .i64) (.pair (.int .i64) (.pair (.int .i64) (.pair (.int .i64) (.pair (.int .i64) (.pair (.int .i64) (.sl false (.int .i64)))))))))))))))) (.pair (.int .i64) (.pair (.int .i64) (.pair (.pair (.int .i64) (.sl false (.int .i64))) (.pair (.sl false (.pair (.int .i64) (.pair (.int .i64) (.pair (.int .i64) (.sl false (.pair (.int .i64) (.pair (.int .i64) (.pair (.int .i64) .str)))))))) (.sl false (.pair (.int .i64) (.pair (.pair (.int .i64) (.sl false (.int .i64))) (.pair (.pair (.int .i64) (.pair (.int .i64) (.pair (.int .i64) .str))) (.sl false (.int .i64)))))))))))))) (.pair (.sl false (.pair (.int .i64) (.pair (.int .i64) (.pair (.int .i64) (.pair (.pair (.int .i64) (.pair (.int .i64) (.pair (.int .i64) .str))) (.pair (.pair (.int .i64) (.pair (.int .i64) (.pair (.int .i64) (.pair (.int .i64) (.pair (.int .i64) (.sl false (.int .i64))))))) (.pair (.int .i64) (.pair (.int .i64) (.pair (.int .i64) (.sl false (.pair (.int .i64) (.pair (.int .i64) (.pair (.int .i64) .str))))))))))))) (.sl false (.pair (.int .i64) (.pair (.pair (.int .i64) (.sl false (.int .i64))) (.pair (.pair (.int .i64) (.pair (.int .i64) (.pair (.int .i64) .str))) (.sl false (.int .i64))))))))), .cell (.sl false (.pair (.int .i64) (.pair .bool (.pair (.pair (.int .i64) (.pair (.pair (.int .i64) (.sl false (.int .i64))) (.pair (.sl false (.pair (.int .i64) (.pair (.int .i64) (.pair (.int .i64) .str)))) (.pair (.sl false (.int .i64)) (.pair (.sl false .str) (.pair (.int .i64) (.pair (.int .i64) (.pair (.int .i64) (.pair (.int .i64) (.pair (.int .i64) (.pair (.int .i64) (.pair (.int .i64) (.pair (.int .i64) (.pair (.int .i64) (.sl false (.int .i64)))))))))))))))) (.pair (.int .i64) (.pair (.int .i64) (.pair (.pair (.int .i64) (.sl false (.int .i64))) (.pair (.sl false (.pair (.int .i64) (.pair (.int .i64) (.pair (.int .i64) (.sl false (.pair (.int .i64) (.pair (.int .i64) (.pair (.int .i64) .str)))))))) (.sl false (.pair (.int .i64) (.pair (.pair (.int .i64) (.sl false (.int .i64))) (.pair (.pair (.int .i64) (.pair (.int .i64) (.pair (.int .i64) .str))) (.sl false (.int .i64)))))))))))))), .cell (.int .i64), .cell (.int .i64), .cell (.sl false (.pair (.int .i64) (.pair (.pair (.int .i64) (.sl false (.int .i64))) (.pair (.pair (.int .i64) (.pair (.int .i64) (.pair (.int .i64) .str))) (.sl false (.int .i64)))))), .cell (.int .i64), .cell (.int .i64)]⟩ ⟨[(1, false), (8, false), (9, false), (10, false)], [.box (.pair (.sl false (.pair (.int .i64) (.sl false (.int .i64)))) (.pair (.sl false (.pair (.int .i64) (.pair .bool (.pair (.pair (.int .i64) (.pair (.pair (.int .i64) (.sl false (.int .i64))) (.pair (.sl false (.pair (.int .i64) (.pair (.int .i64) (.pair (.int .i64) .str)))) (.pair (.sl false (.int .i64)) (.pair (.sl false .str) (.pair (.int .i64) (.pair (.int .i64) (.pair (.int .i64) (.pair (.int .i64) (.pair (.int .i64) (.pair (.int .i64) (.pair (.int .i64) (.pair (.int .i64) (.pair (.int .i64) (.sl false (.int .i64)))))))))))))))) (.pair (.int .i64) (.pair (.int .i64) (.pair (.pair (.int .i64) (.sl false (.int .i64))) (.pair (.sl false (.pair (.int .i64) (.pair (.int .i64) (.pair (.int .i64) (.sl false (.pair (.int .i64) (.pair (.int .i64) (.pair (.int .i64) .str)))))))) (.sl false (.pair (.int .i64) (.pair (.pair (.int .i64) (.sl false (.int .i64))) (.pair (.pair (.int .i64) (.pair (.int .i64) (.pair (.int .i64) .str))) (.sl false (.int .i64)))))))))))))) (.pair (.sl false (.pair (.int .i64) (.pair (.int .i64) (.pair (.int .i64) (.pair (.pair (.int .i64) (.pair (.int .i64) (.pair (.int .i64) .str))) (.pair (.pair (.int .i64) (.pair (.int .i64) (.pair (.int .i64) (.pair (.int .i64) (.pair (.int .i64) (.sl false (.int .i64))))))) (.pair (.int .i64) (.pair (.int .i64) (.pair (.int .i64) (.sl false (.pair (.int .i64) (.pair (.int .i64) (.pair (.int .i64) .str))))))))))))) (.sl false (.pair (.int .i64) (.pair (.pair (.int .i64) (.sl false (.int .i64))) (.pair (.pair (.int .i64) (.pair (.int .i64) (.pair (.int .i64) .str))) (.sl false (.int .i64))))))))), .cell (.sl false (.pair (.int .i64) (.pair .bool (.pair (.pair (.int .i64) (.pair (.pair (.int .i64) (.sl false (.int .i64))) (.pair (.sl false (.pair (.int .i64) (.pair (.int .i64) (.pair (.int .i64) .str)))) (.pair (.sl false (.int .i64)) (.pair (.sl false .str) (.pair (.int .i64) (.pair (.int .i64) (.pair (.int .i64) (.pair (.int .i64) (.pair (.int .i64) (.pair (.int .i64) (.pair (.int .i64) (.pair (.int .i64) (.pair (.int .i64) (.sl false (.int .i64)))))))))))))))) (.pair (.int .i64) (.pair (.int .i64) (.pair (.pair (.int .i64) (.sl false (.int .i64))) (.pair (.sl false (.pair (.int .i64) (.pair (.int .i64) (.pair (.int .i64) (.sl false (.pair (.int .i64) (.pair (.int .i64) (.pair (.int .i64) .str)))))))) (.sl false (.pair (.int .i64) (.pair (.pair (.int .i64) (.sl false (.int .i64))) (.pair (.pair (.int .i64) (.pair (.int .i64) (.pair (.int .i64) .str))) (.sl false (.int .i64)))))))))))))), .cell (.int .i64), .cell (.int .i64)]⟩ B_impl_SaidFirst_1
def B_impl_SaidFirst_2 : TC := (.seq (.reg none [.p (.bin 11 false .lss (.t 10) (.t 9)) .unit])
 (.seq (.cond (.t 11) .skip (.exit 0))
 (.seq (.block 1 (.seq (.reg none [.p (.iadr 12 24 (.t 8) (.t 10)) .unit,
  .p (.load 13 (.t 12) 24 true) .unit,
  .p (.alloc 4 [(.lit (.int .i64 0)), (.lit (.bool false)), (.lit (.int .i64 0)), (.lit (.int .i64 0)), (.sl true 1 []), (.sl true 4 []), (.sl true 1 []), (.sl true 1 []), (.lit (.int .i64 0)), (.lit (.int .i64 0)), (.lit (.int .i64 0)), (.lit (.int .i64 0)), (.lit (.int .i64 0)), (.lit (.int .i64 0)), (.lit (.int .i64 0)), (.lit (.int .i64 0)), (.lit (.int .i64 0)), (.sl true 1 []), (.lit (.int .i64 0)), (.lit (.int .i64 0)), (.lit (.int .i64 0)), (.sl true 1 []), (.sl true 4 []), (.sl true 8 [])]) .unit,
  .p (.store (.t 4) (.t 13) 24) .unit])
 (.seq (.reg none [.p (.fadr 14 (.t 4) 23) .unit,
  .p (.load 15 (.t 14) 1 false) .unit,
  .p (.lenB 16 (.t 15)) .unit,
  .p (.mv 17 (.c (.int .i64 0))) .unit])
 (.jl 2 ⟨[(1, false), (8, false), (9, false), (10, false), (15, false), (16, false), (17, false)], [.box (.pair (.sl false (.pair (.int .i64) (.sl false (.int .i64)))) (.pair (.sl false (.pair (.int .i64) (.pair .bool (.pair (.pair (.int .i64) (.pair (.pair (.int .i64) (.sl false (.int .i64))) (.pair (.sl false (.pair (.int .i64) (.pair (.int .i64) (.pair (.int .i64) .str)))) (.pair (.sl false (.int .i64)) (.pair (.sl false .str) (.pair (.int .i64) (.pair (.int .i64) (.pair (.int .i64) (.pair (.int .i64) (.pair (.int .i64) (.pair (.int .i64) (.pair (.int .i64) (.pair (.int .i64) (.pair (.int .i64) (.sl false (.int .i64)))))))))))))))) (.pair (.int .i64) (.pair (.int .i64) (.pair (.pair (.int .i64) (.sl false (.int .i64))) (.pair (.sl false (.pair (.int .i64) (.pair (.int .i64) (.pair (.int .i64) (.sl false (.pair (.int .i64) (.pair (.int .i64) (.pair (.int .i64) .str)))))))) (.sl false (.pair (.int .i64) (.pair (.pair (.int .i64) (.sl false (.int .i64))) (.pair (.pair (.int .i64) (.pair (.int .i64) (.pair (.int .i64) .str))) (.sl false (.int .i64)))))))))))))) (.pair (.sl false (.pair (.int .i64) (.pair (.int .i64) (.pair (.int .i64) (.pair (.pair (.int .i64) (.pair (.int .i64) (.pair (.int .i64) .str))) (.pair (.pair (.int .i64) (.pair (.int .i64) (.pair (.int .i64) (.pair (.int .i64) (.pair (.int .i64) (.sl false (.int .i64))))))) (.pair (.int .i64) (.pair (.int .i64) (.pair (.int .i64) (.sl false (.pair (.int .i64) (.pair (.int .i64) (.pair (.int .i64) .str))))))))))))) (.sl false (.pair (.int .i64) (.pair (.pair (.int .i64) (.sl false (.int .i64))) (.pair (.pair (.int .i64) (.pair (.int .i64) (.pair (.int .i64) .str))) (.sl false (.int .i64))))))))), .cell (.sl false (.pair (.int .i64) (.pair .bool (.pair (.pair (.int .i64) (.pair (.pair (.int .i64) (.sl false (.int .i64))) (.pair (.sl false (.pair (.int .i64) (.pair (.int .i64) (.pair (.int .i64) .str)))) (.pair (.sl false (.int .i64)) (.pair (.sl false .str) (.pair (.int .i64) (.pair (.int .i64) (.pair (.int .i64) (.pair (.int .i64) (.pair (.int .i64) (.pair (.int .i64) (.pair (.int .i64) (.pair (.int .i64) (.pair (.int .i64) (.sl false (.int .i64)))))))))))))))) (.pair (.int .i64) (.pair (.int .i64) (.pair (.pair (.int .i64) (.sl false (.int .i64))) (.pair (.sl false (.pair (.int .i64) (.pair (.int .i64) (.pair (.int .i64) (.sl false (.pair (.int .i64) (.pair (.int .i64) (.pair (.int .i64) .str)))))))) (.sl false (.pair (.int .i64) (.pair (.pair (.int .i64) (.sl false (.int .i64))) (.pair (.pair (.int .i64) (.pair (.int .i64) (.pair (.int .i64) .str))) (.sl false (.int .i64)))))))))))))), .cell (.int .i64), .cell (.int .i64), .cell (.sl false (.pair (.int .i64) (.pair (.pair (.int .i64) (.sl false (.int .i64))) (.pair (.pair (.int .i64) (.pair (.int .i64) (.pair (.int .i64) .str))) (.sl false (.int .i64)))))), .cell (.int .i64), .cell (.int .i64)]⟩ ⟨[(1, false), (8, false), (9, false), (10, false)], [.box (.pair (.sl false (.pair (.int .i64) (.sl false (.int .i64)))) (.pair (.sl false (.pair (.int .i64) (.pair .bool (.pair (.pair (.int .i64) (.pair (.pair (.int .i64) (.sl false (.int .i64))) (.pair (.sl false (.pair (.int .i64) (.pair (.int .i64) (.pair (.int .i64) .str)))) (.pair (.sl false (.int .i64)) (.pair (.sl false .str) (.pair (.int .i64) (.pair (.int .i64) (.pair (.int .i64) (.pair (.int .i64) (.pair (.int .i64) (.pair (.int .i64) (.pair (.int .i64) (.pair (.int .i64) (.pair (.int .i64) (.sl false (.int .i64)))))))))))))))) (.pair (.int .i64) (.pair (.int .i64) (.pair (.pair (.int .i64) (.sl false (.int .i64))) (.pair (.sl false (.pair (.int .i64) (.pair (.int .i64) (.pair (.int .i64) (.sl false (.pair (.int .i64) (.pair (.int .i64) (.pair (.int .i64) .str)))))))) (.sl false (.pair (.int .i64) (.pair (.pair (.int .i64) (.sl false (.int .i64))) (.pair (.pair (.int .i64) (.pair (.int .i64) (.pair (.int .i64) .str))) (.sl false (.int .i64)))))))))))))) (.pair (.sl false (.pair (.int .i64) (.pair (.int .i64) (.pair (.int .i64) (.pair (.pair (.int .i64) (.pair (.int .i64) (.pair (.int .i64) .str))) (.pair (.pair (.int .i64) (.pair (.int .i64) (.pair (.int .i64) (.pair (.int .i64) (.pair (.int .i64) (.sl false (.int .i64))))))) (.pair (.int .i64) (.pair (.int .i64) (.pair (.int .i64) (.sl false (.pair (.int .i64) (.pair (.int .i64) (.pair (.int .i64) .str))))))))))))) (.sl false (.pair (.int .i64) (.pair (.pair (.int .i64) (.sl false (.int .i64))) (.pair (.pair (.int .i64) (.pair (.int .i64) (.pair (.int .i64) .str))) (.sl false (.int .i64))))))))), .cell (.sl false (.pair (.int .i64) (.pair .bool (.pair (.pair (.int .i64) (.pair (.pair (.int .i64) (.sl false (.int .i64))) (.pair (.sl false (.pair (.int .i64) (.pair (.int .i64) (.pair (.int .i64) .str)))) (.pair (.sl false (.int .i64)) (.pair (.sl false .str) (.pair (.int .i64) (.pair (.int .i64) (.pair (.int .i64) (.pair (.int .i64) (.pair (.int .i64) (.pair (.int .i64) (.pair (.int .i64) (.pair (.int .i64) (.pair (.int .i64) (.sl false (.int .i64)))))))))))))))) (.pair (.int .i64) (.pair (.int .i64) (.pair (.pair (.int .i64) (.sl false (.int .i64))) (.pair (.sl false (.pair (.int .i64) (.pair (.int .i64) (.pair (.int .i64) (.sl false (.pair (.int .i64) (.pair (.int .i64) (.pair (.int .i64) .str)))))))) (.sl false (.pair (.int .i64) (.pair (.pair (.int .i64) (.sl false (.int .i64))) (.pair (.pair (.int .i64) (.pair (.int .i64) (.pair (.int .i64) .str))) (.sl false (.int .i64)))))))))))))), .cell (.int .i64), .cell (.int .i64)]⟩ B_impl_SaidFirst_1))))
 (.reg none [.p (.bin 32 false .add (.t 10) (.c (.int .i64 1))) .unit,
  .p (.mv 10 (.t 32)) .unit]))))
noncomputable def L_impl_SaidFirst_2 : Nat → (List (Int × List (Int)) × List (Int × Bool × (Int × (Int × List (Int)) × List (Int × Int × Int × List UInt8) × List (Int) × List (List UInt8) × Int × Int × Int × Int × Int × Int × Int × Int × Int × List (Int)) × Int × Int × (Int × List (Int)) × List (Int × Int × Int × List (Int × Int × Int × List UInt8)) × List (Int × (Int × List (Int)) × (Int × Int × Int × List UInt8) × List (Int))) × List (Int × Int × Int × (Int × Int × Int × List UInt8) × (Int × Int × Int × Int × Int × List (Int)) × Int × Int × Int × List (Int × Int × Int × List UInt8)) × List (Int × (Int × List (Int)) × (Int × Int × Int × List UInt8) × List (Int))) × (List (Int × Bool × (Int × (Int × List (Int)) × List (Int × Int × Int × List UInt8) × List (Int) × List (List UInt8) × Int × Int × Int × Int × Int × Int × Int × Int × Int × List (Int)) × Int × Int × (Int × List (Int)) × List (Int × Int × Int × List (Int × Int × Int × List UInt8)) × List (Int × (Int × List (Int)) × (Int × Int × Int × List UInt8) × List (Int)))) × (Int) × Int → Option ((Unit) ⊕ (Bool)) := evL [fn_impl_wasNumbered] (finT [.t 2] [] [.cell .bool]) 0 ⟨[(1, false), (8, false), (9, false), (10, false)], [.box (.pair (.sl false (.pair (.int .i64) (.sl false (.int .i64)))) (.pair (.sl false (.pair (.int .i64) (.pair .bool (.pair (.pair (.int .i64) (.pair (.pair (.int .i64) (.sl false (.int .i64))) (.pair (.sl false (.pair (.int .i64) (.pair (.int .i64) (.pair (.int .i64) .str)))) (.pair (.sl false (.int .i64)) (.pair (.sl false .str) (.pair (.int .i64) (.pair (.int .i64) (.pair (.int .i64) (.pair (.int .i64) (.pair (.int .i64) (.pair (.int .i64) (.pair (.int .i64) (.pair (.int .i64) (.pair (.int .i64) (.sl false (.int .i64)))))))))))))))) (.pair (.int .i64) (.pair (.int .i64) (.pair (.pair (.int .i64) (.sl false (.int .i64))) (.pair (.sl false (.pair (.int .i64) (.pair (.int .i64) (.pair (.int .i64) (.sl false (.pair (.int .i64) (.pair (.int .i64) (.pair (.int .i64) .str)))))))) (.sl false (.pair (.int .i64) (.pair (.pair (.int .i64) (.sl false (.int .i64))) (.pair (.pair (.int .i64) (.pair (.int .i64) (.pair (.int .i64) .str))) (.sl false (.int .i64)))))))))))))) (.pair (.sl false (.pair (.int .i64) (.pair (.int .i64) (.pair (.int .i64) (.pair (.pair (.int .i64) (.pair (.int .i64) (.pair (.int .i64) .str))) (.pair (.pair (.int .i64) (.pair (.int .i64) (.pair (.int .i64) (.pair (.int .i64) (.pair (.int .i64) (.sl false (.int .i64))))))) (.pair (.int .i64) (.pair (.int .i64) (.pair (.int .i64) (.sl false (.pair (.int .i64) (.pair (.int .i64) (.pair (.int .i64) .str))))))))))))) (.sl false (.pair (.int .i64) (.pair (.pair (.int .i64) (.sl false (.int .i64))) (.pair (.pair (.int .i64) (.pair (.int .i64) (.pair (.int .i64) .str))) (.sl false (.int .i64))))))))), .cell (.sl false (.pair (.int .i64) (.pair .bool (.pair (.pair (.int .i64) (.pair (.pair (.int .i64) (.sl false (.int .i64))) (.pair (.sl false (.pair (.int .i64) (.pair (.int .i64) (.pair (.int .i64) .str)))) (.pair (.sl false (.int .i64)) (.pair (.sl false .str) (.pair (.int .i64) (.pair (.int .i64) (.pair (.int .i64) (.pair (.int .i64) (.pair (.int .i64) (.pair (.int .i64) (.pair (.int .i64) (.pair (.int .i64) (.pair (.int .i64) (.sl false (.int .i64)))))))))))))))) (.pair (.int .i64) (.pair (.int .i64) (.pair (.pair (.int .i64) (.sl false (.int .i64))) (.pair (.sl false (.pair (.int .i64) (.pair (.int .i64) (.pair (.int .i64) (.sl false (.pair (.int .i64) (.pair (.int .i64) (.pair (.int .i64) .str)))))))) (.sl false (.pair (.int .i64) (.pair (.pair (.int .i64) (.sl false (.int .i64))) (.pair (.pair (.int .i64) (.pair (.int .i64) (.pair (.int .i64) .str))) (.sl false (.int .i64)))))))))))))), .cell (.int .i64), .cell (.int .i64)]⟩ ⟨[], []⟩ B_impl_SaidFirst_2
def F_impl_SaidFirst : TF := ⟨(.seq (.reg none [.p (.box 1 (.t 0)) .unit,
  .p (.mv 2 (.c (.bool false))) .unit])
 (.seq (.seq (.reg none [.p (.fadr 7 (.t 1) 1) .unit,
  .p (.load 8 (.t 7) 1 false) .unit,
  .p (.lenB 9 (.t 8)) .unit,
  .p (.mv 10 (.c (.int .i64 0))) .unit])
 (.jl 0 ⟨[(1, false), (8, false), (9, false), (10, false)], [.box (.pair (.sl false (.pair (.int .i64) (.sl false (.int .i64)))) (.pair (.sl false (.pair (.int .i64) (.pair .bool (.pair (.pair (.int .i64) (.pair (.pair (.int .i64) (.sl false (.int .i64))) (.pair (.sl false (.pair (.int .i64) (.pair (.int .i64) (.pair (.int .i64) .str)))) (.pair (.sl false (.int .i64)) (.pair (.sl false .str) (.pair (.int .i64) (.pair (.int .i64) (.pair (.int .i64) (.pair (.int .i64) (.pair (.int .i64) (.pair (.int .i64) (.pair (.int .i64) (.pair (.int .i64) (.pair (.int .i64) (.sl false (.int .i64)))))))))))))))) (.pair (.int .i64) (.pair (.int .i64) (.pair (.pair (.int .i64) (.sl false (.int .i64))) (.pair (.sl false (.pair (.int .i64) (.pair (.int .i64) (.pair (.int .i64) (.sl false (.pair (.int .i64) (.pair (.int .i64) (.pair (.int .i64) .str)))))))) (.sl false (.pair (.int .i64) (.pair (.pair (.int .i64) (.sl false (.int .i64))) (.pair (.pair (.int .i64) (.pair (.int .i64) (.pair (.int .i64) .str))) (.sl false (.int .i64)))))))))))))) (.pair (.sl false (.pair (.int .i64) (.pair (.int .i64) (.pair (.int .i64) (.pair (.pair (.int .i64) (.pair (.int .i64) (.pair (.int .i64) .str))) (.pair (.pair (.int .i64) (.pair (.int .i64) (.pair (.int .i64) (.pair (.int .i64) (.pair (.int .i64) (.sl false (.int .i64))))))) (.pair (.int .i64) (.pair (.int .i64) (.pair (.int .i64) (.sl false (.pair (.int .i64) (.pair (.int .i64) (.pair (.int .i64) .str))))))))))))) (.sl false (.pair (.int .i64) (.pair (.pair (.int .i64) (.sl false (.int .i64))) (.pair (.pair (.int .i64) (.pair (.int .i64) (.pair (.int .i64) .str))) (.sl false (.int .i64))))))))), .cell (.sl false (.pair (.int .i64) (.pair .bool (.pair (.pair (.int .i64) (.pair (.pair (.int .i64) (.sl false (.int .i64))) (.pair (.sl false (.pair (.int .i64) (.pair (.int .i64) (.pair (.int .i64) .str)))) (.pair (.sl false (.int .i64)) (.pair (.sl false .str) (.pair (.int .i64) (.pair (.int .i64) (.pair (.int .i64) (.pair (.int .i64) (.pair (.int .i64) (.pair (.int .i64) (.pair (.int .i64) (.pair (.int .i64) (.pair (.int .i64) (.sl false (.int .i64)))))))))))))))) (.pair (.int .i64) (.pair (.int .i64) (.pair (.pair (.int .i64) (.sl false (.int .i64))) (.pair (.sl false (.pair (.int .i64) (.pair (.int .i64) (.pair (.int .i64) (.sl false (.pair (.int .i64) (.pair (.int .i64) (.pair (.int .i64) .str)))))))) (.sl false (.pair (.int .i64) (.pair (.pair (.int .i64) (.sl false (.int .i64))) (.pair (.pair (.int .i64) (.pair (.int .i64) (.pair (.int .i64) .str))) (.sl false (.int .i64)))))))))))))), .cell (.int .i64), .cell (.int .i64)]⟩ ⟨[], []⟩ B_impl_SaidFirst_2))
 (.seq (.reg none [.p (.mv 2 (.c (.bool true))) .unit])
 .ret))),
 33, 1, [.t 2]⟩
theorem m_impl_SaidFirst : mH Try.prog 56 [] = some (F_impl_SaidFirst.code.x, F_impl_SaidFirst.N, F_impl_SaidFirst.np, F_impl_SaidFirst.res) := by kernel_rfl
noncomputable def T_impl_SaidFirst : List (Int × List (Int)) × List (Int × Bool × (Int × (Int × List (Int)) × List (Int × Int × Int × List UInt8) × List (Int) × List (List UInt8) × Int × Int × Int × Int × Int × Int × Int × Int × Int × List (Int)) × Int × Int × (Int × List (Int)) × List (Int × Int × Int × List (Int × Int × Int × List UInt8)) × List (Int × (Int × List (Int)) × (Int × Int × Int × List UInt8) × List (Int))) × List (Int × Int × Int × (Int × Int × Int × List UInt8) × (Int × Int × Int × Int × Int × List (Int)) × Int × Int × Int × List (Int × Int × Int × List UInt8)) × List (Int × (Int × List (Int)) × (Int × Int × Int × List UInt8) × List (Int)) → Option (Bool) := evF [fn_impl_wasNumbered] F_impl_SaidFirst [.agg (.pair (.sl false (.pair (.int .i64) (.sl false (.int .i64)))) (.pair (.sl false (.pair (.int .i64) (.pair .bool (.pair (.pair (.int .i64) (.pair (.pair (.int .i64) (.sl false (.int .i64))) (.pair (.sl false (.pair (.int .i64) (.pair (.int .i64) (.pair (.int .i64) .str)))) (.pair (.sl false (.int .i64)) (.pair (.sl false .str) (.pair (.int .i64) (.pair (.int .i64) (.pair (.int .i64) (.pair (.int .i64) (.pair (.int .i64) (.pair (.int .i64) (.pair (.int .i64) (.pair (.int .i64) (.pair (.int .i64) (.sl false (.int .i64)))))))))))))))) (.pair (.int .i64) (.pair (.int .i64) (.pair (.pair (.int .i64) (.sl false (.int .i64))) (.pair (.sl false (.pair (.int .i64) (.pair (.int .i64) (.pair (.int .i64) (.sl false (.pair (.int .i64) (.pair (.int .i64) (.pair (.int .i64) .str)))))))) (.sl false (.pair (.int .i64) (.pair (.pair (.int .i64) (.sl false (.int .i64))) (.pair (.pair (.int .i64) (.pair (.int .i64) (.pair (.int .i64) .str))) (.sl false (.int .i64)))))))))))))) (.pair (.sl false (.pair (.int .i64) (.pair (.int .i64) (.pair (.int .i64) (.pair (.pair (.int .i64) (.pair (.int .i64) (.pair (.int .i64) .str))) (.pair (.pair (.int .i64) (.pair (.int .i64) (.pair (.int .i64) (.pair (.int .i64) (.pair (.int .i64) (.sl false (.int .i64))))))) (.pair (.int .i64) (.pair (.int .i64) (.pair (.int .i64) (.sl false (.pair (.int .i64) (.pair (.int .i64) (.pair (.int .i64) .str))))))))))))) (.sl false (.pair (.int .i64) (.pair (.pair (.int .i64) (.sl false (.int .i64))) (.pair (.pair (.int .i64) (.pair (.int .i64) (.pair (.int .i64) .str))) (.sl false (.int .i64)))))))))] [] [.cell .bool] []
noncomputable def fn_impl_SaidFirst : TFn := ⟨56, [.agg (.pair (.sl false (.pair (.int .i64) (.sl false (.int .i64)))) (.pair (.sl false (.pair (.int .i64) (.pair .bool (.pair (.pair (.int .i64) (.pair (.pair (.int .i64) (.sl false (.int .i64))) (.pair (.sl false (.pair (.int .i64) (.pair (.int .i64) (.pair (.int .i64) .str)))) (.pair (.sl false (.int .i64)) (.pair (.sl false .str) (.pair (.int .i64) (.pair (.int .i64) (.pair (.int .i64) (.pair (.int .i64) (.pair (.int .i64) (.pair (.int .i64) (.pair (.int .i64) (.pair (.int .i64) (.pair (.int .i64) (.sl false (.int .i64)))))))))))))))) (.pair (.int .i64) (.pair (.int .i64) (.pair (.pair (.int .i64) (.sl false (.int .i64))) (.pair (.sl false (.pair (.int .i64) (.pair (.int .i64) (.pair (.int .i64) (.sl false (.pair (.int .i64) (.pair (.int .i64) (.pair (.int .i64) .str)))))))) (.sl false (.pair (.int .i64) (.pair (.pair (.int .i64) (.sl false (.int .i64))) (.pair (.pair (.int .i64) (.pair (.int .i64) (.pair (.int .i64) .str))) (.sl false (.int .i64)))))))))))))) (.pair (.sl false (.pair (.int .i64) (.pair (.int .i64) (.pair (.int .i64) (.pair (.pair (.int .i64) (.pair (.int .i64) (.pair (.int .i64) .str))) (.pair (.pair (.int .i64) (.pair (.int .i64) (.pair (.int .i64) (.pair (.int .i64) (.pair (.int .i64) (.sl false (.int .i64))))))) (.pair (.int .i64) (.pair (.int .i64) (.pair (.int .i64) (.sl false (.pair (.int .i64) (.pair (.int .i64) (.pair (.int .i64) .str))))))))))))) (.sl false (.pair (.int .i64) (.pair (.pair (.int .i64) (.sl false (.int .i64))) (.pair (.pair (.int .i64) (.pair (.int .i64) (.pair (.int .i64) .str))) (.sl false (.int .i64)))))))))], [], [.cell .bool], [], T_impl_SaidFirst⟩
theorem ok_impl_SaidFirst : FnOk Try.prog fn_impl_SaidFirst := evF_ok mixed (allOk_cons ok_impl_wasNumbered allOk_nil) m_impl_SaidFirst (by decide)
def B_laws_eqIntS_1 : TC := (.seq (.seq (.reg none [.p (.mv 11 (.t 5)) .unit,
  .p (.mv 12 (.t 0)) .unit,
  .p (.lenB 13 (.t 12)) .unit,
  .p (.bin 14 false .lss (.t 11) (.t 13)) .unit])
 (.cond (.t 14) .skip (.exit 0)))
 (.seq (.block 1 (.seq (.reg (some [[], [], [0, 1], [2], [], [], [4, 5], [6], [3, 7]]) [.p (.mv 17 (.t 0)) .unit,
  .p (.mv 18 (.t 5)) .unit,
  .p (.iadr 19 1 (.t 17) (.t 18)) .unit,
  .p (.load 20 (.t 19) 1 false) .unit,
  .p (.mv 21 (.t 1)) .unit,
  .p (.mv 22 (.t 5)) .unit,
  .p (.iadr 23 1 (.t 21) (.t 22)) .unit,
  .p (.load 24 (.t 23) 1 false) .unit,
  .p (.bin 25 false .neq (.t 20) (.t 24)) .unit])
 (.cond (.t 25) (.seq (.reg none [.p (.mv 4 (.c (.bool false))) .unit])
 .ret) .skip)))
 (.reg none [.p (.mv 15 (.t 5)) .unit,
  .p (.bin 16 false .add (.t 15) (.c (.int .i64 1))) .unit,
  .p (.mv 5 (.t 16)) .unit])))
noncomputable def L_laws_eqIntS_1 : Nat → (List (Int)) × (List (Int)) × Int → Option ((Unit) ⊕ (Bool)) := evL [] (finT [.t 4] [] [.cell .bool]) 0 ⟨[(0, true), (1, true), (5, false)], [.cell (.sl false (.int .i64)), .cell (.sl false (.int .i64)), .cell (.int .i64)]⟩ ⟨[], []⟩ B_laws_eqIntS_1
def F_laws_eqIntS : TF := ⟨(.seq (.reg none [.p (.mv 4 (.c (.bool false))) .unit])
 (.seq (.seq (.reg none [.p (.mv 6 (.t 0)) .unit,
  .p (.lenB 7 (.t 6)) .unit,
  .p (.mv 8 (.t 1)) .unit,
  .p (.lenB 9 (.t 8)) .unit,
  .p (.bin 10 false .neq (.t 7) (.t 9)) .unit])
 (.cond (.t 10) (.seq (.reg none [.p (.mv 4 (.c (.bool false))) .unit])
 .ret) .skip))
 (.seq (.seq (.reg none [.p (.mv 5 (.c (.int .i64 0))) .unit])
 (.jl 0 ⟨[(0, true), (1, true), (5, false)], [.cell (.sl false (.int .i64)), .cell (.sl false (.int .i64)), .cell (.int .i64)]⟩ ⟨[], []⟩ B_laws_eqIntS_1))
 (.seq (.reg none [.p (.mv 4 (.c (.bool true))) .unit])
 .ret)))),
 26, 2, [.t 4]⟩
theorem m_laws_eqIntS : mH Try.prog 78 [] = some (F_laws_eqIntS.code.x, F_laws_eqIntS.N, F_laws_eqIntS.np, F_laws_eqIntS.res) := by kernel_rfl
noncomputable def T_laws_eqIntS : (List (Int)) × List (Int) → Option (Bool) := evF [] F_laws_eqIntS [.cell (.sl false (.int .i64)), .cell (.sl false (.int .i64))] [] [.cell .bool] []
noncomputable def fn_laws_eqIntS : TFn := ⟨78, [.cell (.sl false (.int .i64)), .cell (.sl false (.int .i64))], [], [.cell .bool], [], T_laws_eqIntS⟩
theorem ok_laws_eqIntS : FnOk Try.prog fn_laws_eqIntS := evF_ok mixed allOk_nil m_laws_eqIntS (by decide)
def F_laws_eqRing : TF := ⟨(.seq (.reg none [.p (.box 2 (.t 0)) .unit,
  .p (.box 3 (.t 1)) .unit,
  .p (.mv 4 (.c (.bool false))) .unit])
 (.seq (.seq (.reg none [.p (.fadr 5 (.t 2) 0) .unit,
  .p (.load 6 (.t 5) 1 false) .unit,
  .p (.fadr 7 (.t 3) 0) .unit,
  .p (.load 8 (.t 7) 1 false) .unit,
  .p (.bin 9 false .neq (.t 6) (.t 8)) .unit])
 (.cond (.t 9) (.seq (.reg none [.p (.mv 4 (.c (.bool false))) .unit])
 .ret) .skip))
 (.seq (.seq (.reg none [.p (.fadr 10 (.t 2) 1) .unit,
  .p (.load 11 (.t 10) 1 false) .unit,
  .p (.fadr 12 (.t 3) 1) .unit,
  .p (.load 13 (.t 12) 1 false) .unit,
  .p (.callB 14 n_laws_eqIntS [((.t 11), 0), ((.t 13), 0)]) .unit,
  .p (.un 15 .not (.t 14)) .unit])
 (.cond (.t 15) (.seq (.reg none [.p (.mv 4 (.c (.bool false))) .unit])
 .ret) .skip))
 (.seq (.reg none [.p (.mv 4 (.c (.bool true))) .unit])
 .ret)))),
 16, 2, [.t 4]⟩
theorem m_laws_eqRing : mH Try.prog 154 [] = some (F_laws_eqRing.code.x, F_laws_eqRing.N, F_laws_eqRing.np, F_laws_eqRing.res) := by kernel_rfl
noncomputable def T_laws_eqRing : (Int × List (Int)) × Int × List (Int) → Option (Bool) := evF [fn_laws_eqIntS] F_laws_eqRing [.agg (.pair (.int .i64) (.sl false (.int .i64))), .agg (.pair (.int .i64) (.sl false (.int .i64)))] [] [.cell .bool] []
noncomputable def fn_laws_eqRing : TFn := ⟨154, [.agg (.pair (.int .i64) (.sl false (.int .i64))), .agg (.pair (.int .i64) (.sl false (.int .i64)))], [], [.cell .bool], [], T_laws_eqRing⟩
theorem ok_laws_eqRing : FnOk Try.prog fn_laws_eqRing := evF_ok mixed (allOk_cons ok_laws_eqIntS allOk_nil) m_laws_eqRing (by decide)
def B_laws_eqRingS_1 : TC := (.seq (.seq (.reg none [.p (.mv 11 (.t 5)) .unit,
  .p (.mv 12 (.t 0)) .unit,
  .p (.lenB 13 (.t 12)) .unit,
  .p (.bin 14 false .lss (.t 11) (.t 13)) .unit])
 (.cond (.t 14) .skip (.exit 0)))
 (.seq (.block 1 (.seq (.reg (some [[], [], [0, 1], [2], [], [], [4, 5], [6], [3, 7], [8]]) [.p (.mv 17 (.t 0)) .unit,
  .p (.mv 18 (.t 5)) .unit,
  .p (.iadr 19 2 (.t 17) (.t 18)) .unit,
  .p (.load 20 (.t 19) 2 true) .unit,
  .p (.mv 21 (.t 1)) .unit,
  .p (.mv 22 (.t 5)) .unit,
  .p (.iadr 23 2 (.t 21) (.t 22)) .unit,
  .p (.load 24 (.t 23) 2 true) .unit,
  .p (.callB 25 n_laws_eqRing [((.t 20), 0), ((.t 24), 0)]) .unit,
  .p (.un 26 .not (.t 25)) .unit])
 (.cond (.t 26) (.seq (.reg none [.p (.mv 4 (.c (.bool false))) .unit])
 .ret) .skip)))
 (.reg none [.p (.mv 15 (.t 5)) .unit,
  .p (.bin 16 false .add (.t 15) (.c (.int .i64 1))) .unit,
  .p (.mv 5 (.t 16)) .unit])))
noncomputable def L_laws_eqRingS_1 : Nat → (List (Int × List (Int))) × (List (Int × List (Int))) × Int → Option ((Unit) ⊕ (Bool)) := evL [fn_laws_eqRing] (finT [.t 4] [] [.cell .bool]) 0 ⟨[(0, true), (1, true), (5, false)], [.cell (.sl false (.pair (.int .i64) (.sl false (.int .i64)))), .cell (.sl false (.pair (.int .i64) (.sl false (.int .i64)))), .cell (.int .i64)]⟩ ⟨[], []⟩ B_laws_eqRingS_1
def F_laws_eqRingS : TF := ⟨(.seq (.reg none [.p (.mv 4 (.c (.bool false))) .unit])
 (.seq (.seq (.reg none [.p (.mv 6 (.t 0)) .unit,
  .p (.lenB 7 (.t 6)) .unit,
  .p (.mv 8 (.t 1)) .unit,
  .p (.lenB 9 (.t 8)) .unit,
  .p (.bin 10 false .neq (.t 7) (.t 9)) .unit])
 (.cond (.t 10) (.seq (.reg none [.p (.mv 4 (.c (.bool false))) .unit])
 .ret) .skip))
 (.seq (.seq (.reg none [.p (.mv 5 (.c (.int .i64 0))) .unit])
 (.jl 0 ⟨[(0, true), (1, true), (5, false)], [.cell (.sl false (.pair (.int .i64) (.sl false (.int .i64)))), .cell (.sl false (.pair (.int .i64) (.sl false (.int .i64)))), .cell (.int .i64)]⟩ ⟨[], []⟩ B_laws_eqRingS_1))
 (.seq (.reg none [.p (.mv 4 (.c (.bool true))) .unit])
 .ret)))),
 27, 2, [.t 4]⟩
theorem m_laws_eqRingS : mH Try.prog 119 [] = some (F_laws_eqRingS.code.x, F_laws_eqRingS.N, F_laws_eqRingS.np, F_laws_eqRingS.res) := by kernel_rfl
noncomputable def T_laws_eqRingS : (List (Int × List (Int))) × List (Int × List (Int)) → Option (Bool) := evF [fn_laws_eqRing] F_laws_eqRingS [.cell (.sl false (.pair (.int .i64) (.sl false (.int .i64)))), .cell (.sl false (.pair (.int .i64) (.sl false (.int .i64))))] [] [.cell .bool] []
noncomputable def fn_laws_eqRingS : TFn := ⟨119, [.cell (.sl false (.pair (.int .i64) (.sl false (.int .i64)))), .cell (.sl false (.pair (.int .i64) (.sl false (.int .i64))))], [], [.cell .bool], [], T_laws_eqRingS⟩
theorem ok_laws_eqRingS : FnOk Try.prog fn_laws_eqRingS := evF_ok mixed (allOk_cons ok_laws_eqRing allOk_nil) m_laws_eqRingS (by decide)
def F_laws_eqItem : TF := ⟨(.seq (.reg none [.p (.box 2 (.t 0)) .unit,
  .p (.box 3 (.t 1)) .unit,
  .p (.mv 4 (.c (.bool false))) .unit])
 (.seq (.seq (.reg none [.p (.fadr 5 (.t 2) 0) .unit,
  .p (.load 6 (.t 5) 1 false) .unit,
  .p (.fadr 7 (.t 3) 0) .unit,
  .p (.load 8 (.t 7) 1 false) .unit,
  .p (.bin 9 false .neq (.t 6) (.t 8)) .unit])
 (.cond (.t 9) (.seq (.reg none [.p (.mv 4 (.c (.bool false))) .unit])
 .ret) .skip))
 (.seq (.seq (.reg none [.p (.fadr 10 (.t 2) 1) .unit,
  .p (.load 11 (.t 10) 1 false) .unit,
  .p (.fadr 12 (.t 3) 1) .unit,
  .p (.load 13 (.t 12) 1 false) .unit,
  .p (.bin 14 false .neq (.t 11) (.t 13)) .unit])
 (.cond (.t 14) (.seq (.reg none [.p (.mv 4 (.c (.bool false))) .unit])
 .ret) .skip))
 (.seq (.seq (.reg none [.p (.fadr 15 (.t 2) 2) .unit,
  .p (.load 16 (.t 15) 1 false) .unit,
  .p (.fadr 17 (.t 3) 2) .unit,
  .p (.load 18 (.t 17) 1 false) .unit,
  .p (.bin 19 false .neq (.t 16) (.t 18)) .unit])
 (.cond (.t 19) (.seq (.reg none [.p (.mv 4 (.c (.bool false))) .unit])
 .ret) .skip))
 (.seq (.seq (.reg none [.p (.fadr 20 (.t 2) 3) .unit,
  .p (.load 21 (.t 20) 1 false) .unit,
  .p (.fadr 22 (.t 3) 3) .unit,
  .p (.load 23 (.t 22) 1 false) .unit,
  .p (.bin 24 false .neq (.t 21) (.t 23)) .unit])
 (.cond (.t 24) (.seq (.reg none [.p (.mv 4 (.c (.bool false))) .unit])
 .ret) .skip))
 (.seq (.reg none [.p (.mv 4 (.c (.bool true))) .unit])
 .ret)))))),
 25, 2, [.t 4]⟩
theorem m_laws_eqItem : mH Try.prog 136 [] = some (F_laws_eqItem.code.x, F_laws_eqItem.N, F_laws_eqItem.np, F_laws_eqItem.res) := by kernel_rfl
noncomputable def T_laws_eqItem : (Int × Int × Int × List UInt8) × Int × Int × Int × List UInt8 → Option (Bool) := evF [] F_laws_eqItem [.agg (.pair (.int .i64) (.pair (.int .i64) (.pair (.int .i64) .str))), .agg (.pair (.int .i64) (.pair (.int .i64) (.pair (.int .i64) .str)))] [] [.cell .bool] []
noncomputable def fn_laws_eqItem : TFn := ⟨136, [.agg (.pair (.int .i64) (.pair (.int .i64) (.pair (.int .i64) .str))), .agg (.pair (.int .i64) (.pair (.int .i64) (.pair (.int .i64) .str)))], [], [.cell .bool], [], T_laws_eqItem⟩
theorem ok_laws_eqItem : FnOk Try.prog fn_laws_eqItem := evF_ok mixed allOk_nil m_laws_eqItem (by decide)
def B_laws_eqItemS_1 : TC := (.seq (.seq (.reg none [.p (.mv 11 (.t 5)) .unit,
  .p (.mv 12 (.t 0)) .unit,
  .p (.lenB 13 (.t 12)) .unit,
  .p (.bin 14 false .lss (.t 11) (.t 13)) .unit])
 (.cond (.t 14) .skip (.exit 0)))
 (.seq (.block 1 (.seq (.reg (some [[], [], [0, 1], [2], [], [], [4, 5], [6], [3, 7], [8]]) [.p (.mv 17 (.t 0)) .unit,
  .p (.mv 18 (.t 5)) .unit,
  .p (.iadr 19 4 (.t 17) (.t 18)) .unit,
  .p (.load 20 (.t 19) 4 true) .unit,
  .p (.mv 21 (.t 1)) .unit,
  .p (.mv 22 (.t 5)) .unit,
  .p (.iadr 23 4 (.t 21) (.t 22)) .unit,
  .p (.load 24 (.t 23) 4 true) .unit,
  .p (.callB 25 n_laws_eqItem [((.t 20), 0), ((.t 24), 0)]) .unit,
  .p (.un 26 .not (.t 25)) .unit])
 (.cond (.t 26) (.seq (.reg none [.p (.mv 4 (.c (.bool false))) .unit])
 .ret) .skip)))
 (.reg none [.p (.mv 15 (.t 5)) .unit,
  .p (.bin 16 false .add (.t 15) (.c (.int .i64 1))) .unit,
  .p (.mv 5 (.t 16)) .unit])))
noncomputable def L_laws_eqItemS_1 : Nat → (List (Int × Int × Int × List UInt8)) × (List (Int × Int × Int × List UInt8)) × Int → Option ((Unit) ⊕ (Bool)) := evL [fn_laws_eqItem] (finT [.t 4] [] [.cell .bool]) 0 ⟨[(0, true), (1, true), (5, false)], [.cell (.sl false (.pair (.int .i64) (.pair (.int .i64) (.pair (.int .i64) .str)))), .cell (.sl false (.pair (.int .i64) (.pair (.int .i64) (.pair (.int .i64) .str)))), .cell (.int .i64)]⟩ ⟨[], []⟩ B_laws_eqItemS_1
def F_laws_eqItemS : TF := ⟨(.seq (.reg none [.p (.mv 4 (.c (.bool false))) .unit])
 (.seq (.seq (.reg none [.p (.mv 6 (.t 0)) .unit,
  .p (.lenB 7 (.t 6)) .unit,
  .p (.mv 8 (.t 1)) .unit,
  .p (.lenB 9 (.t 8)) .unit,
  .p (.bin 10 false .neq (.t 7) (.t 9)) .unit])
 (.cond (.t 10) (.seq (.reg none [.p (.mv 4 (.c (.bool false))) .unit])
 .ret) .skip))
 (.seq (.seq (.reg none [.p (.mv 5 (.c (.int .i64 0))) .unit])
 (.jl 0 ⟨[(0, true), (1, true), (5, false)], [.cell (.sl false (.pair (.int .i64) (.pair (.int .i64) (.pair (.int .i64) .str)))), .cell (.sl false (.pair (.int .i64) (.pair (.int .i64) (.pair (.int .i64) .str)))), .cell (.int .i64)]⟩ ⟨[], []⟩ B_laws_eqItemS_1))
 (.seq (.reg none [.p (.mv 4 (.c (.bool true))) .unit])
 .ret)))),
 27, 2, [.t 4]⟩
theorem m_laws_eqItemS : mH Try.prog 86 [] = some (F_laws_eqItemS.code.x, F_laws_eqItemS.N, F_laws_eqItemS.np, F_laws_eqItemS.res) := by kernel_rfl
noncomputable def T_laws_eqItemS : (List (Int × Int × Int × List UInt8)) × List (Int × Int × Int × List UInt8) → Option (Bool) := evF [fn_laws_eqItem] F_laws_eqItemS [.cell (.sl false (.pair (.int .i64) (.pair (.int .i64) (.pair (.int .i64) .str)))), .cell (.sl false (.pair (.int .i64) (.pair (.int .i64) (.pair (.int .i64) .str))))] [] [.cell .bool] []
noncomputable def fn_laws_eqItemS : TFn := ⟨86, [.cell (.sl false (.pair (.int .i64) (.pair (.int .i64) (.pair (.int .i64) .str)))), .cell (.sl false (.pair (.int .i64) (.pair (.int .i64) (.pair (.int .i64) .str))))], [], [.cell .bool], [], T_laws_eqItemS⟩
theorem ok_laws_eqItemS : FnOk Try.prog fn_laws_eqItemS := evF_ok mixed (allOk_cons ok_laws_eqItem allOk_nil) m_laws_eqItemS (by decide)
def B_laws_eqStringS_1 : TC := (.seq (.seq (.reg none [.p (.mv 11 (.t 5)) .unit,
  .p (.mv 12 (.t 0)) .unit,
  .p (.lenB 13 (.t 12)) .unit,
  .p (.bin 14 false .lss (.t 11) (.t 13)) .unit])
 (.cond (.t 14) .skip (.exit 0)))
 (.seq (.block 1 (.seq (.reg (some [[], [], [0, 1], [2], [], [], [4, 5], [6], [3, 7]]) [.p (.mv 17 (.t 0)) .unit,
  .p (.mv 18 (.t 5)) .unit,
  .p (.iadr 19 1 (.t 17) (.t 18)) .unit,
  .p (.load 20 (.t 19) 1 false) .unit,
  .p (.mv 21 (.t 1)) .unit,
  .p (.mv 22 (.t 5)) .unit,
  .p (.iadr 23 1 (.t 21) (.t 22)) .unit,
  .p (.load 24 (.t 23) 1 false) .unit,
  .p (.bin 25 false .neq (.t 20) (.t 24)) .unit])
 (.cond (.t 25) (.seq (.reg none [.p (.mv 4 (.c (.bool false))) .unit])
 .ret) .skip)))
 (.reg none [.p (.mv 15 (.t 5)) .unit,
  .p (.bin 16 false .add (.t 15) (.c (.int .i64 1))) .unit,
  .p (.mv 5 (.t 16)) .unit])))
noncomputable def L_laws_eqStringS_1 : Nat → (List (List UInt8)) × (List (List UInt8)) × Int → Option ((Unit) ⊕ (Bool)) := evL [] (finT [.t 4] [] [.cell .bool]) 0 ⟨[(0, true), (1, true), (5, false)], [.cell (.sl false .str), .cell (.sl false .str), .cell (.int .i64)]⟩ ⟨[], []⟩ B_laws_eqStringS_1
def F_laws_eqStringS : TF := ⟨(.seq (.reg none [.p (.mv 4 (.c (.bool false))) .unit])
 (.seq (.seq (.reg none [.p (.mv 6 (.t 0)) .unit,
  .p (.lenB 7 (.t 6)) .unit,
  .p (.mv 8 (.t 1)) .unit,
  .p (.lenB 9 (.t 8)) .unit,
  .p (.bin 10 false .neq (.t 7) (.t 9)) .unit])
 (.cond (.t 10) (.seq (.reg none [.p (.mv 4 (.c (.bool false))) .unit])
 .ret) .skip))
 (.seq (.seq (.reg none [.p (.mv 5 (.c (.int .i64 0))) .unit])
 (.jl 0 ⟨[(0, true), (1, true), (5, false)], [.cell (.sl false .str), .cell (.sl false .str), .cell (.int .i64)]⟩ ⟨[], []⟩ B_laws_eqStringS_1))
 (.seq (.reg none [.p (.mv 4 (.c (.bool true))) .unit])
 .ret)))),
 26, 2, [.t 4]⟩
theorem m_laws_eqStringS : mH Try.prog 83 [] = some (F_laws_eqStringS.code.x, F_laws_eqStringS.N, F_laws_eqStringS.np, F_laws_eqStringS.res) := by kernel_rfl
noncomputable def T_laws_eqStringS : (List (List UInt8)) × List (List UInt8) → Option (Bool) := evF [] F_laws_eqStringS [.cell (.sl false .str), .cell (.sl false .str)] [] [.cell .bool] []
noncomputable def fn_laws_eqStringS : TFn := ⟨83, [.cell (.sl false .str), .cell (.sl false .str)], [], [.cell .bool], [], T_laws_eqStringS⟩
theorem ok_laws_eqStringS : FnOk Try.prog fn_laws_eqStringS := evF_ok mixed allOk_nil m_laws_eqStringS (by decide)
def F_laws_eqToken : TF := ⟨(.seq (.reg none [.p (.box 2 (.t 0)) .unit,
  .p (.box 3 (.t 1)) .unit,
  .p (.mv 4 (.c (.bool false))) .unit])
 (.seq (.seq (.reg none [.p (.fadr 5 (.t 2) 0) .unit,
  .p (.load 6 (.t 5) 1 false) .unit,
  .p (.fadr 7 (.t 3) 0) .unit,
  .p (.load 8 (.t 7) 1 false) .unit,
  .p (.bin 9 false .neq (.t 6) (.t 8)) .unit])
 (.cond (.t 9) (.seq (.reg none [.p (.mv 4 (.c (.bool false))) .unit])
 .ret) .skip))
 (.seq (.seq (.reg none [.p (.fadr 10 (.t 2) 1) .unit,
  .p (.load 11 (.t 10) 1 false) .unit,
  .p (.fadr 12 (.t 3) 1) .unit,
  .p (.load 13 (.t 12) 1 false) .unit,
  .p (.bin 14 false .neq (.t 11) (.t 13)) .unit])
 (.cond (.t 14) (.seq (.reg none [.p (.mv 4 (.c (.bool false))) .unit])
 .ret) .skip))
 (.seq (.seq (.reg none [.p (.fadr 15 (.t 2) 2) .unit,
  .p (.load 16 (.t 15) 1 false) .unit,
  .p (.fadr 17 (.t 3) 2) .unit,
  .p (.load 18 (.t 17) 1 false) .unit,
  .p (.bin 19 false .neq (.t 16) (.t 18)) .unit])
 (.cond (.t 19) (.seq (.reg none [.p (.mv 4 (.c (.bool false))) .unit])
 .ret) .skip))
 (.seq (.seq (.reg none [.p (.fadr 20 (.t 2) 3) .unit,
  .p (.load 21 (.t 20) 1 false) .unit,
  .p (.fadr 22 (.t 3) 3) .unit,
  .p (.load 23 (.t 22) 1 false) .unit,
  .p (.bin 24 false .neq (.t 21) (.t 23)) .unit])
 (.cond (.t 24) (.seq (.reg none [.p (.mv 4 (.c (.bool false))) .unit])
 .ret) .skip))
 (.seq (.seq (.reg none [.p (.fadr 25 (.t 2) 4) .unit,
  .p (.load 26 (.t 25) 1 false) .unit,
  .p (.fadr 27 (.t 3) 4) .unit,
  .p (.load 28 (.t 27) 1 false) .unit,
  .p (.bin 29 false .neq (.t 26) (.t 28)) .unit])
 (.cond (.t 29) (.seq (.reg none [.p (.mv 4 (.c (.bool false))) .unit])
 .ret) .skip))
 (.seq (.seq (.reg none [.p (.fadr 30 (.t 2) 5) .unit,
  .p (.load 31 (.t 30) 1 false) .unit,
  .p (.fadr 32 (.t 3) 5) .unit,
  .p (.load 33 (.t 32) 1 false) .unit,
  .p (.callB 34 n_laws_eqIntS [((.t 31), 0), ((.t 33), 0)]) .unit,
  .p (.un 35 .not (.t 34)) .unit])
 (.cond (.t 35) (.seq (.reg none [.p (.mv 4 (.c (.bool false))) .unit])
 .ret) .skip))
 (.seq (.reg none [.p (.mv 4 (.c (.bool true))) .unit])
 .ret)))))))),
 36, 2, [.t 4]⟩
theorem m_laws_eqToken : mH Try.prog 21 [] = some (F_laws_eqToken.code.x, F_laws_eqToken.N, F_laws_eqToken.np, F_laws_eqToken.res) := by kernel_rfl
noncomputable def T_laws_eqToken : (Int × Int × Int × Int × Int × List (Int)) × Int × Int × Int × Int × Int × List (Int) → Option (Bool) := evF [fn_laws_eqIntS] F_laws_eqToken [.agg (.pair (.int .i64) (.pair (.int .i64) (.pair (.int .i64) (.pair (.int .i64) (.pair (.int .i64) (.sl false (.int .i64))))))), .agg (.pair (.int .i64) (.pair (.int .i64) (.pair (.int .i64) (.pair (.int .i64) (.pair (.int .i64) (.sl false (.int .i64)))))))] [] [.cell .bool] []
noncomputable def fn_laws_eqToken : TFn := ⟨21, [.agg (.pair (.int .i64) (.pair (.int .i64) (.pair (.int .i64) (.pair (.int .i64) (.pair (.int .i64) (.sl false (.int .i64))))))), .agg (.pair (.int .i64) (.pair (.int .i64) (.pair (.int .i64) (.pair (.int .i64) (.pair (.int .i64) (.sl false (.int .i64)))))))], [], [.cell .bool], [], T_laws_eqToken⟩
theorem ok_laws_eqToken : FnOk Try.prog fn_laws_eqToken := evF_ok mixed (allOk_cons ok_laws_eqIntS allOk_nil) m_laws_eqToken (by decide)
def F_laws_eqMate : TF := ⟨(.seq (.reg none [.p (.box 2 (.t 0)) .unit,
  .p (.box 3 (.t 1)) .unit,
  .p (.mv 4 (.c (.bool false))) .unit])
 (.seq (.seq (.reg none [.p (.fadr 5 (.t 2) 0) .unit,
  .p (.load 6 (.t 5) 1 false) .unit,
  .p (.fadr 7 (.t 3) 0) .unit,
  .p (.load 8 (.t 7) 1 false) .unit,
  .p (.bin 9 false .neq (.t 6) (.t 8)) .unit])
 (.cond (.t 9) (.seq (.reg none [.p (.mv 4 (.c (.bool false))) .unit])
 .ret) .skip))
 (.seq (.seq (.reg none [.p (.fadr 10 (.t 2) 1) .unit,
  .p (.load 11 (.t 10) 2 true) .unit,
  .p (.fadr 12 (.t 3) 1) .unit,
  .p (.load 13 (.t 12) 2 true) .unit,
  .p (.callB 14 n_laws_eqRing [((.t 11), 0), ((.t 13), 0)]) .unit,
  .p (.un 15 .not (.t 14)) .unit])
 (.cond (.t 15) (.seq (.reg none [.p (.mv 4 (.c (.bool false))) .unit])
 .ret) .skip))
 (.seq (.seq (.reg none [.p (.fadr 16 (.t 2) 3) .unit,
  .p (.load 17 (.t 16) 1 false) .unit,
  .p (.fadr 18 (.t 3) 3) .unit,
  .p (.load 19 (.t 18) 1 false) .unit,
  .p (.callB 20 n_laws_eqItemS [((.t 17), 0), ((.t 19), 0)]) .unit,
  .p (.un 21 .not (.t 20)) .unit])
 (.cond (.t 21) (.seq (.reg none [.p (.mv 4 (.c (.bool false))) .unit])
 .ret) .skip))
 (.seq (.seq (.reg none [.p (.fadr 22 (.t 2) 4) .unit,
  .p (.load 23 (.t 22) 1 false) .unit,
  .p (.fadr 24 (.t 3) 4) .unit,
  .p (.load 25 (.t 24) 1 false) .unit,
  .p (.callB 26 n_laws_eqIntS [((.t 23), 0), ((.t 25), 0)]) .unit,
  .p (.un 27 .not (.t 26)) .unit])
 (.cond (.t 27) (.seq (.reg none [.p (.mv 4 (.c (.bool false))) .unit])
 .ret) .skip))
 (.seq (.seq (.reg none [.p (.fadr 28 (.t 2) 5) .unit,
  .p (.load 29 (.t 28) 1 false) .unit,
  .p (.fadr 30 (.t 3) 5) .unit,
  .p (.load 31 (.t 30) 1 false) .unit,
  .p (.callB 32 n_laws_eqStringS [((.t 29), 0), ((.t 31), 0)]) .unit,
  .p (.un 33 .not (.t 32)) .unit])
 (.cond (.t 33) (.seq (.reg none [.p (.mv 4 (.c (.bool false))) .unit])
 .ret) .skip))
 (.seq (.seq (.reg none [.p (.fadr 34 (.t 2) 6) .unit,
  .p (.load 35 (.t 34) 1 false) .unit,
  .p (.fadr 36 (.t 3) 6) .unit,
  .p (.load 37 (.t 36) 1 false) .unit,
  .p (.bin 38 false .neq (.t 35) (.t 37)) .unit])
 (.cond (.t 38) (.seq (.reg none [.p (.mv 4 (.c (.bool false))) .unit])
 .ret) .skip))
 (.seq (.seq (.reg none [.p (.fadr 39 (.t 2) 7) .unit,
  .p (.load 40 (.t 39) 1 false) .unit,
  .p (.fadr 41 (.t 3) 7) .unit,
  .p (.load 42 (.t 41) 1 false) .unit,
  .p (.bin 43 false .neq (.t 40) (.t 42)) .unit])
 (.cond (.t 43) (.seq (.reg none [.p (.mv 4 (.c (.bool false))) .unit])
 .ret) .skip))
 (.seq (.seq (.reg none [.p (.fadr 44 (.t 2) 8) .unit,
  .p (.load 45 (.t 44) 1 false) .unit,
  .p (.fadr 46 (.t 3) 8) .unit,
  .p (.load 47 (.t 46) 1 false) .unit,
  .p (.bin 48 false .neq (.t 45) (.t 47)) .unit])
 (.cond (.t 48) (.seq (.reg none [.p (.mv 4 (.c (.bool false))) .unit])
 .ret) .skip))
 (.seq (.seq (.reg none [.p (.fadr 49 (.t 2) 9) .unit,
  .p (.load 50 (.t 49) 1 false) .unit,
  .p (.fadr 51 (.t 3) 9) .unit,
  .p (.load 52 (.t 51) 1 false) .unit,
  .p (.bin 53 false .neq (.t 50) (.t 52)) .unit])
 (.cond (.t 53) (.seq (.reg none [.p (.mv 4 (.c (.bool false))) .unit])
 .ret) .skip))
 (.seq (.seq (.reg none [.p (.fadr 54 (.t 2) 10) .unit,
  .p (.load 55 (.t 54) 6 true) .unit,
  .p (.fadr 56 (.t 3) 10) .unit,
  .p (.load 57 (.t 56) 6 true) .unit,
  .p (.callB 58 n_laws_eqToken [((.t 55), 0), ((.t 57), 0)]) .unit,
  .p (.un 59 .not (.t 58)) .unit])
 (.cond (.t 59) (.seq (.reg none [.p (.mv 4 (.c (.bool false))) .unit])
 .ret) .skip))
 (.seq (.reg none [.p (.mv 4 (.c (.bool true))) .unit])
 .ret)))))))))))),
 60, 2, [.t 4]⟩
theorem m_laws_eqMate : mH Try.prog 179 [] = some (F_laws_eqMate.code.x, F_laws_eqMate.N, F_laws_eqMate.np, F_laws_eqMate.res) := by kernel_rfl
noncomputable def T_laws_eqMate : (Int × (Int × List (Int)) × List (Int × Int × Int × List UInt8) × List (Int) × List (List UInt8) × Int × Int × Int × Int × Int × Int × Int × Int × Int × List (Int)) × Int × (Int × List (Int)) × List (Int × Int × Int × List UInt8) × List (Int) × List (List UInt8) × Int × Int × Int × Int × Int × Int × Int × Int × Int × List (Int) → Option (Bool) := evF [fn_laws_eqRing, fn_laws_eqItemS, fn_laws_eqIntS, fn_laws_eqStringS, fn_laws_eqToken] F_laws_eqMate [.agg (.pair (.int .i64) (.pair (.pair (.int .i64) (.sl false (.int .i64))) (.pair (.sl false (.pair (.int .i64) (.pair (.int .i64) (.pair (.int .i64) .str)))) (.pair (.sl false (.int .i64)) (.pair (.sl false .str) (.pair (.int .i64) (.pair (.int .i64) (.pair (.int .i64) (.pair (.int .i64) (.pair (.int .i64) (.pair (.int .i64) (.pair (.int .i64) (.pair (.int .i64) (.pair (.int .i64) (.sl false (.int .i64)))))))))))))))), .agg (.pair (.int .i64) (.pair (.pair (.int .i64) (.sl false (.int .i64))) (.pair (.sl false (.pair (.int .i64) (.pair (.int .i64) (.pair (.int .i64) .str)))) (.pair (.sl false (.int .i64)) (.pair (.sl false .str) (.pair (.int .i64) (.pair (.int .i64) (.pair (.int .i64) (.pair (.int .i64) (.pair (.int .i64) (.pair (.int .i64) (.pair (.int .i64) (.pair (.int .i64) (.pair (.int .i64) (.sl false (.int .i64))))))))))))))))] [] [.cell .bool] []
noncomputable def fn_laws_eqMate : TFn := ⟨179, [.agg (.pair (.int .i64) (.pair (.pair (.int .i64) (.sl false (.int .i64))) (.pair (.sl false (.pair (.int .i64) (.pair (.int .i64) (.pair (.int .i64) .str)))) (.pair (.sl false (.int .i64)) (.pair (.sl false .str) (.pair (.int .i64) (.pair (.int .i64) (.pair (.int .i64) (.pair (.int .i64) (.pair (.int .i64) (.pair (.int .i64) (.pair (.int .i64) (.pair (.int .i64) (.pair (.int .i64) (.sl false (.int .i64)))))))))))))))), .agg (.pair (.int .i64) (.pair (.pair (.int .i64) (.sl false (.int .i64))) (.pair (.sl false (.pair (.int .i64) (.pair (.int .i64) (.pair (.int .i64) .str)))) (.pair (.sl false (.int .i64)) (.pair (.sl false .str) (.pair (.int .i64) (.pair (.int .i64) (.pair (.int .i64) (.pair (.int .i64) (.pair (.int .i64) (.pair (.int .i64) (.pair (.int .i64) (.pair (.int .i64) (.pair (.int .i64) (.sl false (.int .i64))))))))))))))))], [], [.cell .bool], [], T_laws_eqMate⟩
theorem ok_laws_eqMate : FnOk Try.prog fn_laws_eqMate := evF_ok mixed (allOk_cons ok_laws_eqRing (allOk_cons ok_laws_eqItemS (allOk_cons ok_laws_eqIntS (allOk_cons ok_laws_eqStringS (allOk_cons ok_laws_eqToken allOk_nil))))) m_laws_eqMate (by decide)
def F_laws_eqBundle : TF := ⟨(.seq (.reg none [.p (.box 2 (.t 0)) .unit,
  .p (.box 3 (.t 1)) .unit,
  .p (.mv 4 (.c (.bool false))) .unit])
 (.seq (.seq (.reg none [.p (.fadr 5 (.t 2) 0) .unit,
  .p (.load 6 (.t 5) 1 false) .unit,
  .p (.fadr 7 (.t 3) 0) .unit,
  .p (.load 8 (.t 7) 1 false) .unit,
  .p (.bin 9 false .neq (.t 6) (.t 8)) .unit])
 (.cond (.t 9) (.seq (.reg none [.p (.mv 4 (.c (.bool false))) .unit])
 .ret) .skip))
 (.seq (.seq (.reg none [.p (.fadr 10 (.t 2) 1) .unit,
  .p (.load 11 (.t 10) 1 false) .unit,
  .p (.fadr 12 (.t 3) 1) .unit,
  .p (.load 13 (.t 12) 1 false) .unit,
  .p (.bin 14 false .neq (.t 11) (.t 13)) .unit])
 (.cond (.t 14) (.seq (.reg none [.p (.mv 4 (.c (.bool false))) .unit])
 .ret) .skip))
 (.seq (.seq (.reg none [.p (.fadr 15 (.t 2) 2) .unit,
  .p (.load 16 (.t 15) 1 false) .unit,
  .p (.fadr 17 (.t 3) 2) .unit,
  .p (.load 18 (.t 17) 1 false) .unit,
  .p (.bin 19 false .neq (.t 16) (.t 18)) .unit])
 (.cond (.t 19) (.seq (.reg none [.p (.mv 4 (.c (.bool false))) .unit])
 .ret) .skip))
 (.seq (.seq (.reg none [.p (.fadr 20 (.t 2) 3) .unit,
  .p (.load 21 (.t 20) 1 false) .unit,
  .p (.fadr 22 (.t 3) 3) .unit,
  .p (.load 23 (.t 22) 1 false) .unit,
  .p (.callB 24 n_laws_eqItemS [((.t 21), 0), ((.t 23), 0)]) .unit,
  .p (.un 25 .not (.t 24)) .unit])
 (.cond (.t 25) (.seq (.reg none [.p (.mv 4 (.c (.bool false))) .unit])
 .ret) .skip))
 (.seq (.reg none [.p (.mv 4 (.c (.bool true))) .unit])
 .ret)))))),
 26, 2, [.t 4]⟩
theorem m_laws_eqBundle : mH Try.prog 31 [] = some (F_laws_eqBundle.code.x, F_laws_eqBundle.N, F_laws_eqBundle.np, F_laws_eqBundle.res) := by kernel_rfl
noncomputable def T_laws_eqBundle : (Int × Int × Int × List (Int × Int × Int × List UInt8)) × Int × Int × Int × List (Int × Int × Int × List UInt8) → Option (Bool) := evF [fn_laws_eqItemS] F_laws_eqBundle [.agg (.pair (.int .i64) (.pair (.int .i64) (.pair (.int .i64) (.sl false (.pair (.int .i64) (.pair (.int .i64) (.pair (.int .i64) .str))))))), .agg (.pair (.int .i64) (.pair (.int .i64) (.pair (.int .i64) (.sl false (.pair (.int .i64) (.pair (.int .i64) (.pair (.int .i64) .str)))))))] [] [.cell .bool] []
noncomputable def fn_laws_eqBundle : TFn := ⟨31, [.agg (.pair (.int .i64) (.pair (.int .i64) (.pair (.int .i64) (.sl false (.pair (.int .i64) (.pair (.int .i64) (.pair (.int .i64) .str))))))), .agg (.pair (.int .i64) (.pair (.int .i64) (.pair (.int .i64) (.sl false (.pair (.int .i64) (.pair (.int .i64) (.pair (.int .i64) .str)))))))], [], [.cell .bool], [], T_laws_eqBundle⟩
theorem ok_laws_eqBundle : FnOk Try.prog fn_laws_eqBundle := evF_ok mixed (allOk_cons ok_laws_eqItemS allOk_nil) m_laws_eqBundle (by decide)
def B_laws_eqBundleS_1 : TC := (.seq (.seq (.reg none [.p (.mv 11 (.t 5)) .unit,
  .p (.mv 12 (.t 0)) .unit,
  .p (.lenB 13 (.t 12)) .unit,
  .p (.bin 14 false .lss (.t 11) (.t 13)) .unit])
 (.cond (.t 14) .skip (.exit 0)))
 (.seq (.block 1 (.seq (.reg (some [[], [], [0, 1], [2], [], [], [4, 5], [6], [3, 7], [8]]) [.p (.mv 17 (.t 0)) .unit,
  .p (.mv 18 (.t 5)) .unit,
  .p (.iadr 19 4 (.t 17) (.t 18)) .unit,
  .p (.load 20 (.t 19) 4 true) .unit,
  .p (.mv 21 (.t 1)) .unit,
  .p (.mv 22 (.t 5)) .unit,
  .p (.iadr 23 4 (.t 21) (.t 22)) .unit,
  .p (.load 24 (.t 23) 4 true) .unit,
  .p (.callB 25 n_laws_eqBundle [((.t 20), 0), ((.t 24), 0)]) .unit,
  .p (.un 26 .not (.t 25)) .unit])
 (.cond (.t 26) (.seq (.reg none [.p (.mv 4 (.c (.bool false))) .unit])
 .ret) .skip)))
 (.reg none [.p (.mv 15 (.t 5)) .unit,
  .p (.bin 16 false .add (.t 15) (.c (.int .i64 1))) .unit,
  .p (.mv 5 (.t 16)) .unit])))
noncomputable def L_laws_eqBundleS_1 : Nat → (List (Int × Int × Int × List (Int × Int × Int × List UInt8))) × (List (Int × Int × Int × List (Int × Int × Int × List UInt8))) × Int → Option ((Unit) ⊕ (Bool)) := evL [fn_laws_eqBundle] (finT [.t 4] [] [.cell .bool]) 0 ⟨[(0, true), (1, true), (5, false)], [.cell (.sl false (.pair (.int .i64) (.pair (.int .i64) (.pair (.int .i64) (.sl false (.pair (.int .i64) (.pair (.int .i64) (.pair (.int .i64) .str)))))))), .cell (.sl false (.pair (.int .i64) (.pair (.int .i64) (.pair (.int .i64) (.sl false (.pair (.int .i64) (.pair (.int .i64) (.pair (.int .i64) .str)))))))), .cell (.int .i64)]⟩ ⟨[], []⟩ B_laws_eqBundleS_1
def F_laws_eqBundleS : TF := ⟨(.seq (.reg none [.p (.mv 4 (.c (.bool false))) .unit])
 (.seq (.seq (.reg none [.p (.mv 6 (.t 0)) .unit,
  .p (.lenB 7 (.t 6)) .unit,
  .p (.mv 8 (.t 1)) .unit,
  .p (.lenB 9 (.t 8)) .unit,
  .p (.bin 10 false .neq (.t 7) (.t 9)) .unit])
 (.cond (.t 10) (.seq (.reg none [.p (.mv 4 (.c (.bool false))) .unit])
 .ret) .skip))
 (.seq (.seq (.reg none [.p (.mv 5 (.c (.int .i64 0))) .unit])
 (.jl 0 ⟨[(0, true), (1, true), (5, false)], [.cell (.sl false (.pair (.int .i64) (.pair (.int .i64) (.pair (.int .i64) (.sl false (.pair (.int .i64) (.pair (.int .i64) (.pair (.int .i64) .str)))))))), .cell (.sl false (.pair (.int .i64) (.pair (.int .i64) (.pair (.int .i64) (.sl false (.pair (.int .i64) (.pair (.int .i64) (.pair (.int .i64) .str)))))))), .cell (.int .i64)]⟩ ⟨[], []⟩ B_laws_eqBundleS_1))
 (.seq (.reg none [.p (.mv 4 (.c (.bool true))) .unit])
 .ret)))),
 27, 2, [.t 4]⟩
theorem m_laws_eqBundleS : mH Try.prog 180 [] = some (F_laws_eqBundleS.code.x, F_laws_eqBundleS.N, F_laws_eqBundleS.np, F_laws_eqBundleS.res) := by kernel_rfl
noncomputable def T_laws_eqBundleS : (List (Int × Int × Int × List (Int × Int × Int × List UInt8))) × List (Int × Int × Int × List (Int × Int × Int × List UInt8)) → Option (Bool) := evF [fn_laws_eqBundle] F_laws_eqBundleS [.cell (.sl false (.pair (.int .i64) (.pair (.int .i64) (.pair (.int .i64) (.sl false (.pair (.int .i64) (.pair (.int .i64) (.pair (.int .i64) .str)))))))), .cell (.sl false (.pair (.int .i64) (.pair (.int .i64) (.pair (.int .i64) (.sl false (.pair (.int .i64) (.pair (.int .i64) (.pair (.int .i64) .str))))))))] [] [.cell .bool] []
noncomputable def fn_laws_eqBundleS : TFn := ⟨180, [.cell (.sl false (.pair (.int .i64) (.pair (.int .i64) (.pair (.int .i64) (.sl false (.pair (.int .i64) (.pair (.int .i64) (.pair (.int .i64) .str)))))))), .cell (.sl false (.pair (.int .i64) (.pair (.int .i64) (.pair (.int .i64) (.sl false (.pair (.int .i64) (.pair (.int .i64) (.pair (.int .i64) .str))))))))], [], [.cell .bool], [], T_laws_eqBundleS⟩
theorem ok_laws_eqBundleS : FnOk Try.prog fn_laws_eqBundleS := evF_ok mixed (allOk_cons ok_laws_eqBundle allOk_nil) m_laws_eqBundleS (by decide)
def F_laws_eqEvent : TF := ⟨(.seq (.reg none [.p (.box 2 (.t 0)) .unit,
  .p (.box 3 (.t 1)) .unit,
  .p (.mv 4 (.c (.bool false))) .unit])
 (.seq (.seq (.reg none [.p (.fadr 5 (.t 2) 0) .unit,
  .p (.load 6 (.t 5) 1 false) .unit,
  .p (.fadr 7 (.t 3) 0) .unit,
  .p (.load 8 (.t 7) 1 false) .unit,
  .p (.bin 9 false .neq (.t 6) (.t 8)) .unit])
 (.cond (.t 9) (.seq (.reg none [.p (.mv 4 (.c (.bool false))) .unit])
 .ret) .skip))
 (.seq (.seq (.reg none [.p (.fadr 10 (.t 2) 1) .unit,
  .p (.load 11 (.t 10) 2 true) .unit,
  .p (.fadr 12 (.t 3) 1) .unit,
  .p (.load 13 (.t 12) 2 true) .unit,
  .p (.callB 14 n_laws_eqRing [((.t 11), 0), ((.t 13), 0)]) .unit,
  .p (.un 15 .not (.t 14)) .unit])
 (.cond (.t 15) (.seq (.reg none [.p (.mv 4 (.c (.bool false))) .unit])
 .ret) .skip))
 (.seq (.seq (.reg none [.p (.fadr 16 (.t 2) 3) .unit,
  .p (.load 17 (.t 16) 4 true) .unit,
  .p (.fadr 18 (.t 3) 3) .unit,
  .p (.load 19 (.t 18) 4 true) .unit,
  .p (.callB 20 n_laws_eqItem [((.t 17), 0), ((.t 19), 0)]) .unit,
  .p (.un 21 .not (.t 20)) .unit])
 (.cond (.t 21) (.seq (.reg none [.p (.mv 4 (.c (.bool false))) .unit])
 .ret) .skip))
 (.seq (.seq (.reg none [.p (.fadr 22 (.t 2) 7) .unit,
  .p (.load 23 (.t 22) 1 false) .unit,
  .p (.fadr 24 (.t 3) 7) .unit,
  .p (.load 25 (.t 24) 1 false) .unit,
  .p (.callB 26 n_laws_eqIntS [((.t 23), 0), ((.t 25), 0)]) .unit,
  .p (.un 27 .not (.t 26)) .unit])
 (.cond (.t 27) (.seq (.reg none [.p (.mv 4 (.c (.bool false))) .unit])
 .ret) .skip))
 (.seq (.reg none [.p (.mv 4 (.c (.bool true))) .unit])
 .ret)))))),
 28, 2, [.t 4]⟩
theorem m_laws_eqEvent : mH Try.prog 157 [] = some (F_laws_eqEvent.code.x, F_laws_eqEvent.N, F_laws_eqEvent.np, F_laws_eqEvent.res) := by kernel_rfl
noncomputable def T_laws_eqEvent : (Int × (Int × List (Int)) × (Int × Int × Int × List UInt8) × List (Int)) × Int × (Int × List (Int)) × (Int × Int × Int × List UInt8) × List (Int) → Option (Bool) := evF [fn_laws_eqRing, fn_laws_eqItem, fn_laws_eqIntS] F_laws_eqEvent [.agg (.pair (.int .i64) (.pair (.pair (.int .i64) (.sl false (.int .i64))) (.pair (.pair (.int .i64) (.pair (.int .i64) (.pair (.int .i64) .str))) (.sl false (.int .i64))))), .agg (.pair (.int .i64) (.pair (.pair (.int .i64) (.sl false (.int .i64))) (.pair (.pair (.int .i64) (.pair (.int .i64) (.pair (.int .i64) .str))) (.sl false (.int .i64)))))] [] [.cell .bool] []
noncomputable def fn_laws_eqEvent : TFn := ⟨157, [.agg (.pair (.int .i64) (.pair (.pair (.int .i64) (.sl false (.int .i64))) (.pair (.pair (.int .i64) (.pair (.int .i64) (.pair (.int .i64) .str))) (.sl false (.int .i64))))), .agg (.pair (.int .i64) (.pair (.pair (.int .i64) (.sl false (.int .i64))) (.pair (.pair (.int .i64) (.pair (.int .i64) (.pair (.int .i64) .str))) (.sl false (.int .i64)))))], [], [.cell .bool], [], T_laws_eqEvent⟩
theorem ok_laws_eqEvent : FnOk Try.prog fn_laws_eqEvent := evF_ok mixed (allOk_cons ok_laws_eqRing (allOk_cons ok_laws_eqItem (allOk_cons ok_laws_eqIntS allOk_nil))) m_laws_eqEvent (by decide)
def B_laws_eqEventS_1 : TC := (.seq (.seq (.reg none [.p (.mv 11 (.t 5)) .unit,
  .p (.mv 12 (.t 0)) .unit,
  .p (.lenB 13 (.t 12)) .unit,
  .p (.bin 14 false .lss (.t 11) (.t 13)) .unit])
 (.cond (.t 14) .skip (.exit 0)))
 (.seq (.block 1 (.seq (.reg (some [[], [], [0, 1], [2], [], [], [4, 5], [6], [3, 7], [8]]) [.p (.mv 17 (.t 0)) .unit,
  .p (.mv 18 (.t 5)) .unit,
  .p (.iadr 19 8 (.t 17) (.t 18)) .unit,
  .p (.load 20 (.t 19) 8 true) .unit,
  .p (.mv 21 (.t 1)) .unit,
  .p (.mv 22 (.t 5)) .unit,
  .p (.iadr 23 8 (.t 21) (.t 22)) .unit,
  .p (.load 24 (.t 23) 8 true) .unit,
  .p (.callB 25 n_laws_eqEvent [((.t 20), 0), ((.t 24), 0)]) .unit,
  .p (.un 26 .not (.t 25)) .unit])
 (.cond (.t 26) (.seq (.reg none [.p (.mv 4 (.c (.bool false))) .unit])
 .ret) .skip)))
 (.reg none [.p (.mv 15 (.t 5)) .unit,
  .p (.bin 16 false .add (.t 15) (.c (.int .i64 1))) .unit,
  .p (.mv 5 (.t 16)) .unit])))
noncomputable def L_laws_eqEventS_1 : Nat → (List (Int × (Int × List (Int)) × (Int × Int × Int × List UInt8) × List (Int))) × (List (Int × (Int × List (Int)) × (Int × Int × Int × List UInt8) × List (Int))) × Int → Option ((Unit) ⊕ (Bool)) := evL [fn_laws_eqEvent] (finT [.t 4] [] [.cell .bool]) 0 ⟨[(0, true), (1, true), (5, false)], [.cell (.sl false (.pair (.int .i64) (.pair (.pair (.int .i64) (.sl false (.int .i64))) (.pair (.pair (.int .i64) (.pair (.int .i64) (.pair (.int .i64) .str))) (.sl false (.int .i64)))))), .cell (.sl false (.pair (.int .i64) (.pair (.pair (.int .i64) (.sl false (.int .i64))) (.pair (.pair (.int .i64) (.pair (.int .i64) (.pair (.int .i64) .str))) (.sl false (.int .i64)))))), .cell (.int .i64)]⟩ ⟨[], []⟩ B_laws_eqEventS_1
def F_laws_eqEventS : TF := ⟨(.seq (.reg none [.p (.mv 4 (.c (.bool false))) .unit])
 (.seq (.seq (.reg none [.p (.mv 6 (.t 0)) .unit,
  .p (.lenB 7 (.t 6)) .unit,
  .p (.mv 8 (.t 1)) .unit,
  .p (.lenB 9 (.t 8)) .unit,
  .p (.bin 10 false .neq (.t 7) (.t 9)) .unit])
 (.cond (.t 10) (.seq (.reg none [.p (.mv 4 (.c (.bool false))) .unit])
 .ret) .skip))
 (.seq (.seq (.reg none [.p (.mv 5 (.c (.int .i64 0))) .unit])
 (.jl 0 ⟨[(0, true), (1, true), (5, false)], [.cell (.sl false (.pair (.int .i64) (.pair (.pair (.int .i64) (.sl false (.int .i64))) (.pair (.pair (.int .i64) (.pair (.int .i64) (.pair (.int .i64) .str))) (.sl false (.int .i64)))))), .cell (.sl false (.pair (.int .i64) (.pair (.pair (.int .i64) (.sl false (.int .i64))) (.pair (.pair (.int .i64) (.pair (.int .i64) (.pair (.int .i64) .str))) (.sl false (.int .i64)))))), .cell (.int .i64)]⟩ ⟨[], []⟩ B_laws_eqEventS_1))
 (.seq (.reg none [.p (.mv 4 (.c (.bool true))) .unit])
 .ret)))),
 27, 2, [.t 4]⟩
theorem m_laws_eqEventS : mH Try.prog 122 [] = some (F_laws_eqEventS.code.x, F_laws_eqEventS.N, F_laws_eqEventS.np, F_laws_eqEventS.res) := by kernel_rfl
noncomputable def T_laws_eqEventS : (List (Int × (Int × List (Int)) × (Int × Int × Int × List UInt8) × List (Int))) × List (Int × (Int × List (Int)) × (Int × Int × Int × List UInt8) × List (Int)) → Option (Bool) := evF [fn_laws_eqEvent] F_laws_eqEventS [.cell (.sl false (.pair (.int .i64) (.pair (.pair (.int .i64) (.sl false (.int .i64))) (.pair (.pair (.int .i64) (.pair (.int .i64) (.pair (.int .i64) .str))) (.sl false (.int .i64)))))), .cell (.sl false (.pair (.int .i64) (.pair (.pair (.int .i64) (.sl false (.int .i64))) (.pair (.pair (.int .i64) (.pair (.int .i64) (.pair (.int .i64) .str))) (.sl false (.int .i64))))))] [] [.cell .bool] []
noncomputable def fn_laws_eqEventS : TFn := ⟨122, [.cell (.sl false (.pair (.int .i64) (.pair (.pair (.int .i64) (.sl false (.int .i64))) (.pair (.pair (.int .i64) (.pair (.int .i64) (.pair (.int .i64) .str))) (.sl false (.int .i64)))))), .cell (.sl false (.pair (.int .i64) (.pair (.pair (.int .i64) (.sl false (.int .i64))) (.pair (.pair (.int .i64) (.pair (.int .i64) (.pair (.int .i64) .str))) (.sl false (.int .i64))))))], [], [.cell .bool], [], T_laws_eqEventS⟩
theorem ok_laws_eqEventS : FnOk Try.prog fn_laws_eqEventS := evF_ok mixed (allOk_cons ok_laws_eqEvent allOk_nil) m_laws_eqEventS (by decide)
def F_laws_eqDaemon : TF := ⟨(.seq (.reg none [.p (.box 2 (.t 0)) .unit,
  .p (.box 3 (.t 1)) .unit,
  .p (.mv 4 (.c (.bool false))) .unit])
 (.seq (.seq (.reg none [.p (.fadr 5 (.t 2) 0) .unit,
  .p (.load 6 (.t 5) 1 false) .unit,
  .p (.fadr 7 (.t 3) 0) .unit,
  .p (.load 8 (.t 7) 1 false) .unit,
  .p (.bin 9 false .neq (.t 6) (.t 8)) .unit])
 (.cond (.t 9) (.seq (.reg none [.p (.mv 4 (.c (.bool false))) .unit])
 .ret) .skip))
 (.seq (.seq (.reg none [.p (.fadr 10 (.t 2) 1) .unit,
  .p (.load 11 (.t 10) 1 false) .unit,
  .p (.fadr 12 (.t 3) 1) .unit,
  .p (.load 13 (.t 12) 1 false) .unit,
  .p (.bin 14 true .neq (.t 11) (.t 13)) .unit])
 (.cond (.t 14) (.seq (.reg none [.p (.mv 4 (.c (.bool false))) .unit])
 .ret) .skip))
 (.seq (.seq (.reg none [.p (.fadr 15 (.t 2) 2) .unit,
  .p (.load 16 (.t 15) 16 true) .unit,
  .p (.fadr 17 (.t 3) 2) .unit,
  .p (.load 18 (.t 17) 16 true) .unit,
  .p (.callB 19 n_laws_eqMate [((.t 16), 0), ((.t 18), 0)]) .unit,
  .p (.un 20 .not (.t 19)) .unit])
 (.cond (.t 20) (.seq (.reg none [.p (.mv 4 (.c (.bool false))) .unit])
 .ret) .skip))
 (.seq (.seq (.reg none [.p (.fadr 21 (.t 2) 18) .unit,
  .p (.load 22 (.t 21) 1 false) .unit,
  .p (.fadr 23 (.t 3) 18) .unit,
  .p (.load 24 (.t 23) 1 false) .unit,
  .p (.bin 25 false .neq (.t 22) (.t 24)) .unit])
 (.cond (.t 25) (.seq (.reg none [.p (.mv 4 (.c (.bool false))) .unit])
 .ret) .skip))
 (.seq (.seq (.reg none [.p (.fadr 26 (.t 2) 19) .unit,
  .p (.load 27 (.t 26) 1 false) .unit,
  .p (.fadr 28 (.t 3) 19) .unit,
  .p (.load 29 (.t 28) 1 false) .unit,
  .p (.bin 30 false .neq (.t 27) (.t 29)) .unit])
 (.cond (.t 30) (.seq (.reg none [.p (.mv 4 (.c (.bool false))) .unit])
 .ret) .skip))
 (.seq (.seq (.reg none [.p (.fadr 31 (.t 2) 20) .unit,
  .p (.load 32 (.t 31) 2 true) .unit,
  .p (.fadr 33 (.t 3) 20) .unit,
  .p (.load 34 (.t 33) 2 true) .unit,
  .p (.callB 35 n_laws_eqRing [((.t 32), 0), ((.t 34), 0)]) .unit,
  .p (.un 36 .not (.t 35)) .unit])
 (.cond (.t 36) (.seq (.reg none [.p (.mv 4 (.c (.bool false))) .unit])
 .ret) .skip))
 (.seq (.seq (.reg none [.p (.fadr 37 (.t 2) 22) .unit,
  .p (.load 38 (.t 37) 1 false) .unit,
  .p (.fadr 39 (.t 3) 22) .unit,
  .p (.load 40 (.t 39) 1 false) .unit,
  .p (.callB 41 n_laws_eqBundleS [((.t 38), 0), ((.t 40), 0)]) .unit,
  .p (.un 42 .not (.t 41)) .unit])
 (.cond (.t 42) (.seq (.reg none [.p (.mv 4 (.c (.bool false))) .unit])
 .ret) .skip))
 (.seq (.seq (.reg none [.p (.fadr 43 (.t 2) 23) .unit,
  .p (.load 44 (.t 43) 1 false) .unit,
  .p (.fadr 45 (.t 3) 23) .unit,
  .p (.load 46 (.t 45) 1 false) .unit,
  .p (.callB 47 n_laws_eqEventS [((.t 44), 0), ((.t 46), 0)]) .unit,
  .p (.un 48 .not (.t 47)) .unit])
 (.cond (.t 48) (.seq (.reg none [.p (.mv 4 (.c (.bool false))) .unit])
 .ret) .skip))
 (.seq (.reg none [.p (.mv 4 (.c (.bool true))) .unit])
 .ret)))))))))),
 49, 2, [.t 4]⟩
theorem m_laws_eqDaemon : mH Try.prog 155 [] = some (F_laws_eqDaemon.code.x, F_laws_eqDaemon.N, F_laws_eqDaemon.np, F_laws_eqDaemon.res) := by kernel_rfl
noncomputable def T_laws_eqDaemon : (Int × Bool × (Int × (Int × List (Int)) × List (Int × Int × Int × List UInt8) × List (Int) × List (List UInt8) × Int × Int × Int × Int × Int × Int × Int × Int × Int × List (Int)) × Int × Int × (Int × List (Int)) × List (Int × Int × Int × List (Int × Int × Int × List UInt8)) × List (Int × (Int × List (Int)) × (Int × Int × Int × List UInt8) × List (Int))) × Int × Bool × (Int × (Int × List (Int)) × List (Int × Int × Int × List UInt8) × List (Int) × List (List UInt8) × Int × Int × Int × Int × Int × Int × Int × Int × Int × List (Int)) × Int × Int × (Int × List (Int)) × List (Int × Int × Int × List (Int × Int × Int × List UInt8)) × List (Int × (Int × List (Int)) × (Int × Int × Int × List UInt8) × List (Int)) → Option (Bool) := evF [fn_laws_eqMate, fn_laws_eqRing, fn_laws_eqBundleS, fn_laws_eqEventS] F_laws_eqDaemon [.agg (.pair (.int .i64) (.pair .bool (.pair (.pair (.int .i64) (.pair (.pair (.int .i64) (.sl false (.int .i64))) (.pair (.sl false (.pair (.int .i64) (.pair (.int .i64) (.pair (.int .i64) .str)))) (.pair (.sl false (.int .i64)) (.pair (.sl false .str) (.pair (.int .i64) (.pair (.int .i64) (.pair (.int .i64) (.pair (.int .i64) (.pair (.int .i64) (.pair (.int .i64) (.pair (.int .i64) (.pair (.int .i64) (.pair (.int .i64) (.sl false (.int .i64)))))))))))))))) (.pair (.int .i64) (.pair (.int .i64) (.pair (.pair (.int .i64) (.sl false (.int .i64))) (.pair (.sl false (.pair (.int .i64) (.pair (.int .i64) (.pair (.int .i64) (.sl false (.pair (.int .i64) (.pair (.int .i64) (.pair (.int .i64) .str)))))))) (.sl false (.pair (.int .i64) (.pair (.pair (.int .i64) (.sl false (.int .i64))) (.pair (.pair (.int .i64) (.pair (.int .i64) (.pair (.int .i64) .str))) (.sl false (.int .i64))))))))))))), .agg (.pair (.int .i64) (.pair .bool (.pair (.pair (.int .i64) (.pair (.pair (.int .i64) (.sl false (.int .i64))) (.pair (.sl false (.pair (.int .i64) (.pair (.int .i64) (.pair (.int .i64) .str)))) (.pair (.sl false (.int .i64)) (.pair (.sl false .str) (.pair (.int .i64) (.pair (.int .i64) (.pair (.int .i64) (.pair (.int .i64) (.pair (.int .i64) (.pair (.int .i64) (.pair (.int .i64) (.pair (.int .i64) (.pair (.int .i64) (.sl false (.int .i64)))))))))))))))) (.pair (.int .i64) (.pair (.int .i64) (.pair (.pair (.int .i64) (.sl false (.int .i64))) (.pair (.sl false (.pair (.int .i64) (.pair (.int .i64) (.pair (.int .i64) (.sl false (.pair (.int .i64) (.pair (.int .i64) (.pair (.int .i64) .str)))))))) (.sl false (.pair (.int .i64) (.pair (.pair (.int .i64) (.sl false (.int .i64))) (.pair (.pair (.int .i64) (.pair (.int .i64) (.pair (.int .i64) .str))) (.sl false (.int .i64)))))))))))))] [] [.cell .bool] []
noncomputable def fn_laws_eqDaemon : TFn := ⟨155, [.agg (.pair (.int .i64) (.pair .bool (.pair (.pair (.int .i64) (.pair (.pair (.int .i64) (.sl false (.int .i64))) (.pair (.sl false (.pair (.int .i64) (.pair (.int .i64) (.pair (.int .i64) .str)))) (.pair (.sl false (.int .i64)) (.pair (.sl false .str) (.pair (.int .i64) (.pair (.int .i64) (.pair (.int .i64) (.pair (.int .i64) (.pair (.int .i64) (.pair (.int .i64) (.pair (.int .i64) (.pair (.int .i64) (.pair (.int .i64) (.sl false (.int .i64)))))))))))))))) (.pair (.int .i64) (.pair (.int .i64) (.pair (.pair (.int .i64) (.sl false (.int .i64))) (.pair (.sl false (.pair (.int .i64) (.pair (.int .i64) (.pair (.int .i64) (.sl false (.pair (.int .i64) (.pair (.int .i64) (.pair (.int .i64) .str)))))))) (.sl false (.pair (.int .i64) (.pair (.pair (.int .i64) (.sl false (.int .i64))) (.pair (.pair (.int .i64) (.pair (.int .i64) (.pair (.int .i64) .str))) (.sl false (.int .i64))))))))))))), .agg (.pair (.int .i64) (.pair .bool (.pair (.pair (.int .i64) (.pair (.pair (.int .i64) (.sl false (.int .i64))) (.pair (.sl false (.pair (.int .i64) (.pair (.int .i64) (.pair (.int .i64) .str)))) (.pair (.sl false (.int .i64)) (.pair (.sl false .str) (.pair (.int .i64) (.pair (.int .i64) (.pair (.int .i64) (.pair (.int .i64) (.pair (.int .i64) (.pair (.int .i64) (.pair (.int .i64) (.pair (.int .i64) (.pair (.int .i64) (.sl false (.int .i64)))))))))))))))) (.pair (.int .i64) (.pair (.int .i64) (.pair (.pair (.int .i64) (.sl false (.int .i64))) (.pair (.sl false (.pair (.int .i64) (.pair (.int .i64) (.pair (.int .i64) (.sl false (.pair (.int .i64) (.pair (.int .i64) (.pair (.int .i64) .str)))))))) (.sl false (.pair (.int .i64) (.pair (.pair (.int .i64) (.sl false (.int .i64))) (.pair (.pair (.int .i64) (.pair (.int .i64) (.pair (.int .i64) .str))) (.sl false (.int .i64)))))))))))))], [], [.cell .bool], [], T_laws_eqDaemon⟩
theorem ok_laws_eqDaemon : FnOk Try.prog fn_laws_eqDaemon := evF_ok mixed (allOk_cons ok_laws_eqMate (allOk_cons ok_laws_eqRing (allOk_cons ok_laws_eqBundleS (allOk_cons ok_laws_eqEventS allOk_nil)))) m_laws_eqDaemon (by decide)
def B_laws_eqDaemonS_1 : TC := (.seq (.seq (.reg none [.p (.mv 11 (.t 5)) .unit,
  .p (.mv 12 (.t 0)) .unit,
  .p (.lenB 13 (.t 12)) .unit,
  .p (.bin 14 false .lss (.t 11) (.t 13)) .unit])
 (.cond (.t 14) .skip (.exit 0)))
 (.seq (.block 1 (.seq (.reg (some [[], [], [0, 1], [2], [], [], [4, 5], [6], [3, 7], [8]]) [.p (.mv 17 (.t 0)) .unit,
  .p (.mv 18 (.t 5)) .unit,
  .p (.iadr 19 24 (.t 17) (.t 18)) .unit,
  .p (.load 20 (.t 19) 24 true) .unit,
  .p (.mv 21 (.t 1)) .unit,
  .p (.mv 22 (.t 5)) .unit,
  .p (.iadr 23 24 (.t 21) (.t 22)) .unit,
  .p (.load 24 (.t 23) 24 true) .unit,
  .p (.callB 25 n_laws_eqDaemon [((.t 20), 0), ((.t 24), 0)]) .unit,
  .p (.un 26 .not (.t 25)) .unit])
 (.cond (.t 26) (.seq (.reg none [.p (.mv 4 (.c (.bool false))) .unit])
 .ret) .skip)))
 (.reg none [.p (.mv 15 (.t 5)) .unit,
  .p (.bin 16 false .add (.t 15) (.c (.int .i64 1))) .unit,
  .p (.mv 5 (.t 16)) .unit])))
noncomputable def L_laws_eqDaemonS_1 : Nat → (List (Int × Bool × (Int × (Int × List (Int)) × List (Int × Int × Int × List UInt8) × List (Int) × List (List UInt8) × Int × Int × Int × Int × Int × Int × Int × Int × Int × List (Int)) × Int × Int × (Int × List (Int)) × List (Int × Int × Int × List (Int × Int × Int × List UInt8)) × List (Int × (Int × List (Int)) × (Int × Int × Int × List UInt8) × List (Int)))) × (List (Int × Bool × (Int × (Int × List (Int)) × List (Int × Int × Int × List UInt8) × List (Int) × List (List UInt8) × Int × Int × Int × Int × Int × Int × Int × Int × Int × List (Int)) × Int × Int × (Int × List (Int)) × List (Int × Int × Int × List (Int × Int × Int × List UInt8)) × List (Int × (Int × List (Int)) × (Int × Int × Int × List UInt8) × List (Int)))) × Int → Option ((Unit) ⊕ (Bool)) := evL [fn_laws_eqDaemon] (finT [.t 4] [] [.cell .bool]) 0 ⟨[(0, true), (1, true), (5, false)], [.cell (.sl false (.pair (.int .i64) (.pair .bool (.pair (.pair (.int .i64) (.pair (.pair (.int .i64) (.sl false (.int .i64))) (.pair (.sl false (.pair (.int .i64) (.pair (.int .i64) (.pair (.int .i64) .str)))) (.pair (.sl false (.int .i64)) (.pair (.sl false .str) (.pair (.int .i64) (.pair (.int .i64) (.pair (.int .i64) (.pair (.int .i64) (.pair (.int .i64) (.pair (.int .i64) (.pair (.int .i64) (.pair (.int .i64) (.pair (.int .i64) (.sl false (.int .i64)))))))))))))))) (.pair (.int .i64) (.pair (.int .i64) (.pair (.pair (.int .i64) (.sl false (.int .i64))) (.pair (.sl false (.pair (.int .i64) (.pair (.int .i64) (.pair (.int .i64) (.sl false (.pair (.int .i64) (.pair (.int .i64) (.pair (.int .i64) .str)))))))) (.sl false (.pair (.int .i64) (.pair (.pair (.int .i64) (.sl false (.int .i64))) (.pair (.pair (.int .i64) (.pair (.int .i64) (.pair (.int .i64) .str))) (.sl false (.int .i64)))))))))))))), .cell (.sl false (.pair (.int .i64) (.pair .bool (.pair (.pair (.int .i64) (.pair (.pair (.int .i64) (.sl false (.int .i64))) (.pair (.sl false (.pair (.int .i64) (.pair (.int .i64) (.pair (.int .i64) .str)))) (.pair (.sl false (.int .i64)) (.pair (.sl false .str) (.pair (.int .i64) (.pair (.int .i64) (.pair (.int .i64) (.pair (.int .i64) (.pair (.int .i64) (.pair (.int .i64) (.pair (.int .i64) (.pair (.int .i64) (.pair (.int .i64) (.sl false (.int .i64)))))))))))))))) (.pair (.int .i64) (.pair (.int .i64) (.pair (.pair (.int .i64) (.sl false (.int .i64))) (.pair (.sl false (.pair (.int .i64) (.pair (.int .i64) (.pair (.int .i64) (.sl false (.pair (.int .i64) (.pair (.int .i64) (.pair (.int .i64) .str)))))))) (.sl false (.pair (.int .i64) (.pair (.pair (.int .i64) (.sl false (.int .i64))) (.pair (.pair (.int .i64) (.pair (.int .i64) (.pair (.int .i64) .str))) (.sl false (.int .i64)))))))))))))), .cell (.int .i64)]⟩ ⟨[], []⟩ B_laws_eqDaemonS_1
def F_laws_eqDaemonS : TF := ⟨(.seq (.reg none [.p (.mv 4 (.c (.bool false))) .unit])
 (.seq (.seq (.reg none [.p (.mv 6 (.t 0)) .unit,
  .p (.lenB 7 (.t 6)) .unit,
  .p (.mv 8 (.t 1)) .unit,
  .p (.lenB 9 (.t 8)) .unit,
  .p (.bin 10 false .neq (.t 7) (.t 9)) .unit])
 (.cond (.t 10) (.seq (.reg none [.p (.mv 4 (.c (.bool false))) .unit])
 .ret) .skip))
 (.seq (.seq (.reg none [.p (.mv 5 (.c (.int .i64 0))) .unit])
 (.jl 0 ⟨[(0, true), (1, true), (5, false)], [.cell (.sl false (.pair (.int .i64) (.pair .bool (.pair (.pair (.int .i64) (.pair (.pair (.int .i64) (.sl false (.int .i64))) (.pair (.sl false (.pair (.int .i64) (.pair (.int .i64) (.pair (.int .i64) .str)))) (.pair (.sl false (.int .i64)) (.pair (.sl false .str) (.pair (.int .i64) (.pair (.int .i64) (.pair (.int .i64) (.pair (.int .i64) (.pair (.int .i64) (.pair (.int .i64) (.pair (.int .i64) (.pair (.int .i64) (.pair (.int .i64) (.sl false (.int .i64)))))))))))))))) (.pair (.int .i64) (.pair (.int .i64) (.pair (.pair (.int .i64) (.sl false (.int .i64))) (.pair (.sl false (.pair (.int .i64) (.pair (.int .i64) (.pair (.int .i64) (.sl false (.pair (.int .i64) (.pair (.int .i64) (.pair (.int .i64) .str)))))))) (.sl false (.pair (.int .i64) (.pair (.pair (.int .i64) (.sl false (.int .i64))) (.pair (.pair (.int .i64) (.pair (.int .i64) (.pair (.int .i64) .str))) (.sl false (.int .i64)))))))))))))), .cell (.sl false (.pair (.int .i64) (.pair .bool (.pair (.pair (.int .i64) (.pair (.pair (.int .i64) (.sl false (.int .i64))) (.pair (.sl false (.pair (.int .i64) (.pair (.int .i64) (.pair (.int .i64) .str)))) (.pair (.sl false (.int .i64)) (.pair (.sl false .str) (.pair (.int .i64) (.pair (.int .i64) (.pair (.int .i64) (.pair (.int .i64) (.pair (.int .i64) (.pair (.int .i64) (.pair (.int .i64) (.pair (.int .i64) (.pair (.int .i64) (.sl false (.int .i64)))))))))))))))) (.pair (.int .i64) (.pair (.int .i64) (.pair (.pair (.int .i64) (.sl false (.int .i64))) (.pair (.sl false (.pair (.int .i64) (.pair (.int .i64) (.pair (.int .i64) (.sl false (.pair (.int .i64) (.pair (.int .i64) (.pair (.int .i64) .str)))))))) (.sl false (.pair (.int .i64) (.pair (.pair (.int .i64) (.sl false (.int .i64))) (.pair (.pair (.int .i64) (.pair (.int .i64) (.pair (.int .i64) .str))) (.sl false (.int .i64)))))))))))))), .cell (.int .i64)]⟩ ⟨[], []⟩ B_laws_eqDaemonS_1))
 (.seq (.reg none [.p (.mv 4 (.c (.bool true))) .unit])
 .ret)))),
 27, 2, [.t 4]⟩
theorem m_laws_eqDaemonS : mH Try.prog 120 [] = some (F_laws_eqDaemonS.code.x, F_laws_eqDaemonS.N, F_laws_eqDaemonS.np, F_laws_eqDaemonS.res) := by kernel_rfl
noncomputable def T_laws_eqDaemonS : (List (Int × Bool × (Int × (Int × List (Int)) × List (Int × Int × Int × List UInt8) × List (Int) × List (List UInt8) × Int × Int × Int × Int × Int × Int × Int × Int × Int × List (Int)) × Int × Int × (Int × List (Int)) × List (Int × Int × Int × List (Int × Int × Int × List UInt8)) × List (Int × (Int × List (Int)) × (Int × Int × Int × List UInt8) × List (Int)))) × List (Int × Bool × (Int × (Int × List (Int)) × List (Int × Int × Int × List UInt8) × List (Int) × List (List UInt8) × Int × Int × Int × Int × Int × Int × Int × Int × Int × List (Int)) × Int × Int × (Int × List (Int)) × List (Int × Int × Int × List (Int × Int × Int × List UInt8)) × List (Int × (Int × List (Int)) × (Int × Int × Int × List UInt8) × List (Int))) → Option (Bool) := evF [fn_laws_eqDaemon] F_laws_eqDaemonS [.cell (.sl false (.pair (.int .i64) (.pair .bool (.pair (.pair (.int .i64) (.pair (.pair (.int .i64) (.sl false (.int .i64))) (.pair (.sl false (.pair (.int .i64) (.pair (.int .i64) (.pair (.int .i64) .str)))) (.pair (.sl false (.int .i64)) (.pair (.sl false .str) (.pair (.int .i64) (.pair (.int .i64) (.pair (.int .i64) (.pair (.int .i64) (.pair (.int .i64) (.pair (.int .i64) (.pair (.int .i64) (.pair (.int .i64) (.pair (.int .i64) (.sl false (.int .i64)))))))))))))))) (.pair (.int .i64) (.pair (.int .i64) (.pair (.pair (.int .i64) (.sl false (.int .i64))) (.pair (.sl false (.pair (.int .i64) (.pair (.int .i64) (.pair (.int .i64) (.sl false (.pair (.int .i64) (.pair (.int .i64) (.pair (.int .i64) .str)))))))) (.sl false (.pair (.int .i64) (.pair (.pair (.int .i64) (.sl false (.int .i64))) (.pair (.pair (.int .i64) (.pair (.int .i64) (.pair (.int .i64) .str))) (.sl false (.int .i64)))))))))))))), .cell (.sl false (.pair (.int .i64) (.pair .bool (.pair (.pair (.int .i64) (.pair (.pair (.int .i64) (.sl false (.int .i64))) (.pair (.sl false (.pair (.int .i64) (.pair (.int .i64) (.pair (.int .i64) .str)))) (.pair (.sl false (.int .i64)) (.pair (.sl false .str) (.pair (.int .i64) (.pair (.int .i64) (.pair (.int .i64) (.pair (.int .i64) (.pair (.int .i64) (.pair (.int .i64) (.pair (.int .i64) (.pair (.int .i64) (.pair (.int .i64) (.sl false (.int .i64)))))))))))))))) (.pair (.int .i64) (.pair (.int .i64) (.pair (.pair (.int .i64) (.sl false (.int .i64))) (.pair (.sl false (.pair (.int .i64) (.pair (.int .i64) (.pair (.int .i64) (.sl false (.pair (.int .i64) (.pair (.int .i64) (.pair (.int .i64) .str)))))))) (.sl false (.pair (.int .i64) (.pair (.pair (.int .i64) (.sl false (.int .i64))) (.pair (.pair (.int .i64) (.pair (.int .i64) (.pair (.int .i64) .str))) (.sl false (.int .i64))))))))))))))] [] [.cell .bool] []
noncomputable def fn_laws_eqDaemonS : TFn := ⟨120, [.cell (.sl false (.pair (.int .i64) (.pair .bool (.pair (.pair (.int .i64) (.pair (.pair (.int .i64) (.sl false (.int .i64))) (.pair (.sl false (.pair (.int .i64) (.pair (.int .i64) (.pair (.int .i64) .str)))) (.pair (.sl false (.int .i64)) (.pair (.sl false .str) (.pair (.int .i64) (.pair (.int .i64) (.pair (.int .i64) (.pair (.int .i64) (.pair (.int .i64) (.pair (.int .i64) (.pair (.int .i64) (.pair (.int .i64) (.pair (.int .i64) (.sl false (.int .i64)))))))))))))))) (.pair (.int .i64) (.pair (.int .i64) (.pair (.pair (.int .i64) (.sl false (.int .i64))) (.pair (.sl false (.pair (.int .i64) (.pair (.int .i64) (.pair (.int .i64) (.sl false (.pair (.int .i64) (.pair (.int .i64) (.pair (.int .i64) .str)))))))) (.sl false (.pair (.int .i64) (.pair (.pair (.int .i64) (.sl false (.int .i64))) (.pair (.pair (.int .i64) (.pair (.int .i64) (.pair (.int .i64) .str))) (.sl false (.int .i64)))))))))))))), .cell (.sl false (.pair (.int .i64) (.pair .bool (.pair (.pair (.int .i64) (.pair (.pair (.int .i64) (.sl false (.int .i64))) (.pair (.sl false (.pair (.int .i64) (.pair (.int .i64) (.pair (.int .i64) .str)))) (.pair (.sl false (.int .i64)) (.pair (.sl false .str) (.pair (.int .i64) (.pair (.int .i64) (.pair (.int .i64) (.pair (.int .i64) (.pair (.int .i64) (.pair (.int .i64) (.pair (.int .i64) (.pair (.int .i64) (.pair (.int .i64) (.sl false (.int .i64)))))))))))))))) (.pair (.int .i64) (.pair (.int .i64) (.pair (.pair (.int .i64) (.sl false (.int .i64))) (.pair (.sl false (.pair (.int .i64) (.pair (.int .i64) (.pair (.int .i64) (.sl false (.pair (.int .i64) (.pair (.int .i64) (.pair (.int .i64) .str)))))))) (.sl false (.pair (.int .i64) (.pair (.pair (.int .i64) (.sl false (.int .i64))) (.pair (.pair (.int .i64) (.pair (.int .i64) (.pair (.int .i64) .str))) (.sl false (.int .i64))))))))))))))], [], [.cell .bool], [], T_laws_eqDaemonS⟩
theorem ok_laws_eqDaemonS : FnOk Try.prog fn_laws_eqDaemonS := evF_ok mixed (allOk_cons ok_laws_eqDaemon allOk_nil) m_laws_eqDaemonS (by decide)
def F_laws_eqLetter : TF := ⟨(.seq (.reg none [.p (.box 2 (.t 0)) .unit,
  .p (.box 3 (.t 1)) .unit,
  .p (.mv 4 (.c (.bool false))) .unit])
 (.seq (.seq (.reg none [.p (.fadr 5 (.t 2) 0) .unit,
  .p (.load 6 (.t 5) 1 false) .unit,
  .p (.fadr 7 (.t 3) 0) .unit,
  .p (.load 8 (.t 7) 1 false) .unit,
  .p (.bin 9 false .neq (.t 6) (.t 8)) .unit])
 (.cond (.t 9) (.seq (.reg none [.p (.mv 4 (.c (.bool false))) .unit])
 .ret) .skip))
 (.seq (.seq (.reg none [.p (.fadr 10 (.t 2) 1) .unit,
  .p (.load 11 (.t 10) 1 false) .unit,
  .p (.fadr 12 (.t 3) 1) .unit,
  .p (.load 13 (.t 12) 1 false) .unit,
  .p (.bin 14 false .neq (.t 11) (.t 13)) .unit])
 (.cond (.t 14) (.seq (.reg none [.p (.mv 4 (.c (.bool false))) .unit])
 .ret) .skip))
 (.seq (.seq (.reg none [.p (.fadr 15 (.t 2) 2) .unit,
  .p (.load 16 (.t 15) 1 false) .unit,
  .p (.fadr 17 (.t 3) 2) .unit,
  .p (.load 18 (.t 17) 1 false) .unit,
  .p (.bin 19 false .neq (.t 16) (.t 18)) .unit])
 (.cond (.t 19) (.seq (.reg none [.p (.mv 4 (.c (.bool false))) .unit])
 .ret) .skip))
 (.seq (.seq (.reg none [.p (.fadr 20 (.t 2) 3) .unit,
  .p (.load 21 (.t 20) 4 true) .unit,
  .p (.fadr 22 (.t 3) 3) .unit,
  .p (.load 23 (.t 22) 4 true) .unit,
  .p (.callB 24 n_laws_eqItem [((.t 21), 0), ((.t 23), 0)]) .unit,
  .p (.un 25 .not (.t 24)) .unit])
 (.cond (.t 25) (.seq (.reg none [.p (.mv 4 (.c (.bool false))) .unit])
 .ret) .skip))
 (.seq (.seq (.reg none [.p (.fadr 26 (.t 2) 7) .unit,
  .p (.load 27 (.t 26) 6 true) .unit,
  .p (.fadr 28 (.t 3) 7) .unit,
  .p (.load 29 (.t 28) 6 true) .unit,
  .p (.callB 30 n_laws_eqToken [((.t 27), 0), ((.t 29), 0)]) .unit,
  .p (.un 31 .not (.t 30)) .unit])
 (.cond (.t 31) (.seq (.reg none [.p (.mv 4 (.c (.bool false))) .unit])
 .ret) .skip))
 (.seq (.seq (.reg none [.p (.fadr 32 (.t 2) 13) .unit,
  .p (.load 33 (.t 32) 4 true) .unit,
  .p (.fadr 34 (.t 3) 13) .unit,
  .p (.load 35 (.t 34) 4 true) .unit,
  .p (.callB 36 n_laws_eqBundle [((.t 33), 0), ((.t 35), 0)]) .unit,
  .p (.un 37 .not (.t 36)) .unit])
 (.cond (.t 37) (.seq (.reg none [.p (.mv 4 (.c (.bool false))) .unit])
 .ret) .skip))
 (.seq (.reg none [.p (.mv 4 (.c (.bool true))) .unit])
 .ret)))))))),
 38, 2, [.t 4]⟩
theorem m_laws_eqLetter : mH Try.prog 156 [] = some (F_laws_eqLetter.code.x, F_laws_eqLetter.N, F_laws_eqLetter.np, F_laws_eqLetter.res) := by kernel_rfl
noncomputable def T_laws_eqLetter : (Int × Int × Int × (Int × Int × Int × List UInt8) × (Int × Int × Int × Int × Int × List (Int)) × Int × Int × Int × List (Int × Int × Int × List UInt8)) × Int × Int × Int × (Int × Int × Int × List UInt8) × (Int × Int × Int × Int × Int × List (Int)) × Int × Int × Int × List (Int × Int × Int × List UInt8) → Option (Bool) := evF [fn_laws_eqItem, fn_laws_eqToken, fn_laws_eqBundle] F_laws_eqLetter [.agg (.pair (.int .i64) (.pair (.int .i64) (.pair (.int .i64) (.pair (.pair (.int .i64) (.pair (.int .i64) (.pair (.int .i64) .str))) (.pair (.pair (.int .i64) (.pair (.int .i64) (.pair (.int .i64) (.pair (.int .i64) (.pair (.int .i64) (.sl false (.int .i64))))))) (.pair (.int .i64) (.pair (.int .i64) (.pair (.int .i64) (.sl false (.pair (.int .i64) (.pair (.int .i64) (.pair (.int .i64) .str)))))))))))), .agg (.pair (.int .i64) (.pair (.int .i64) (.pair (.int .i64) (.pair (.pair (.int .i64) (.pair (.int .i64) (.pair (.int .i64) .str))) (.pair (.pair (.int .i64) (.pair (.int .i64) (.pair (.int .i64) (.pair (.int .i64) (.pair (.int .i64) (.sl false (.int .i64))))))) (.pair (.int .i64) (.pair (.int .i64) (.pair (.int .i64) (.sl false (.pair (.int .i64) (.pair (.int .i64) (.pair (.int .i64) .str))))))))))))] [] [.cell .bool] []
noncomputable def fn_laws_eqLetter : TFn := ⟨156, [.agg (.pair (.int .i64) (.pair (.int .i64) (.pair (.int .i64) (.pair (.pair (.int .i64) (.pair (.int .i64) (.pair (.int .i64) .str))) (.pair (.pair (.int .i64) (.pair (.int .i64) (.pair (.int .i64) (.pair (.int .i64) (.pair (.int .i64) (.sl false (.int .i64))))))) (.pair (.int .i64) (.pair (.int .i64) (.pair (.int .i64) (.sl false (.pair (.int .i64) (.pair (.int .i64) (.pair (.int .i64) .str)))))))))))), .agg (.pair (.int .i64) (.pair (.int .i64) (.pair (.int .i64) (.pair (.pair (.int .i64) (.pair (.int .i64) (.pair (.int .i64) .str))) (.pair (.pair (.int .i64) (.pair (.int .i64) (.pair (.int .i64) (.pair (.int .i64) (.pair (.int .i64) (.sl false (.int .i64))))))) (.pair (.int .i64) (.pair (.int .i64) (.pair (.int .i64) (.sl false (.pair (.int .i64) (.pair (.int .i64) (.pair (.int .i64) .str))))))))))))], [], [.cell .bool], [], T_laws_eqLetter⟩
theorem ok_laws_eqLetter : FnOk Try.prog fn_laws_eqLetter := evF_ok mixed (allOk_cons ok_laws_eqItem (allOk_cons ok_laws_eqToken (allOk_cons ok_laws_eqBundle allOk_nil))) m_laws_eqLetter (by decide)
def B_laws_eqLetterS_1 : TC := (.seq (.seq (.reg none [.p (.mv 11 (.t 5)) .unit,
  .p (.mv 12 (.t 0)) .unit,
  .p (.lenB 13 (.t 12)) .unit,
  .p (.bin 14 false .lss (.t 11) (.t 13)) .unit])
 (.cond (.t 14) .skip (.exit 0)))
 (.seq (.block 1 (.seq (.reg (some [[], [], [0, 1], [2], [], [], [4, 5], [6], [3, 7], [8]]) [.p (.mv 17 (.t 0)) .unit,
  .p (.mv 18 (.t 5)) .unit,
  .p (.iadr 19 17 (.t 17) (.t 18)) .unit,
  .p (.load 20 (.t 19) 17 true) .unit,
  .p (.mv 21 (.t 1)) .unit,
  .p (.mv 22 (.t 5)) .unit,
  .p (.iadr 23 17 (.t 21) (.t 22)) .unit,
  .p (.load 24 (.t 23) 17 true) .unit,
  .p (.callB 25 n_laws_eqLetter [((.t 20), 0), ((.t 24), 0)]) .unit,
  .p (.un 26 .not (.t 25)) .unit])
 (.cond (.t 26) (.seq (.reg none [.p (.mv 4 (.c (.bool false))) .unit])
 .ret) .skip)))
 (.reg none [.p (.mv 15 (.t 5)) .unit,
  .p (.bin 16 false .add (.t 15) (.c (.int .i64 1))) .unit,
  .p (.mv 5 (.t 16)) .unit])))
noncomputable def L_laws_eqLetterS_1 : Nat → (List (Int × Int × Int × (Int × Int × Int × List UInt8) × (Int × Int × Int × Int × Int × List (Int)) × Int × Int × Int × List (Int × Int × Int × List UInt8))) × (List (Int × Int × Int × (Int × Int × Int × List UInt8) × (Int × Int × Int × Int × Int × List (Int)) × Int × Int × Int × List (Int × Int × Int × List UInt8))) × Int → Option ((Unit) ⊕ (Bool)) := evL [fn_laws_eqLetter] (finT [.t 4] [] [.cell .bool]) 0 ⟨[(0, true), (1, true), (5, false)], [.cell (.sl false (.pair (.int .i64) (.pair (.int .i64) (.pair (.int .i64) (.pair (.pair (.int .i64) (.pair (.int .i64) (.pair (.int .i64) .str))) (.pair (.pair (.int .i64) (.pair (.int .i64) (.pair (.int .i64) (.pair (.int .i64) (.pair (.int .i64) (.sl false (.int .i64))))))) (.pair (.int .i64) (.pair (.int .i64) (.pair (.int .i64) (.sl false (.pair (.int .i64) (.pair (.int .i64) (.pair (.int .i64) .str))))))))))))), .cell (.sl false (.pair (.int .i64) (.pair (.int .i64) (.pair (.int .i64) (.pair (.pair (.int .i64) (.pair (.int .i64) (.pair (.int .i64) .str))) (.pair (.pair (.int .i64) (.pair (.int .i64) (.pair (.int .i64) (.pair (.int .i64) (.pair (.int .i64) (.sl false (.int .i64))))))) (.pair (.int .i64) (.pair (.int .i64) (.pair (.int .i64) (.sl false (.pair (.int .i64) (.pair (.int .i64) (.pair (.int .i64) .str))))))))))))), .cell (.int .i64)]⟩ ⟨[], []⟩ B_laws_eqLetterS_1
def F_laws_eqLetterS : TF := ⟨(.seq (.reg none [.p (.mv 4 (.c (.bool false))) .unit])
 (.seq (.seq (.reg none [.p (.mv 6 (.t 0)) .unit,
  .p (.lenB 7 (.t 6)) .unit,
  .p (.mv 8 (.t 1)) .unit,
  .p (.lenB 9 (.t 8)) .unit,
  .p (.bin 10 false .neq (.t 7) (.t 9)) .unit])
 (.cond (.t 10) (.seq (.reg none [.p (.mv 4 (.c (.bool false))) .unit])
 .ret) .skip))
 (.seq (.seq (.reg none [.p (.mv 5 (.c (.int .i64 0))) .unit])
 (.jl 0 ⟨[(0, true), (1, true), (5, false)], [.cell (.sl false (.pair (.int .i64) (.pair (.int .i64) (.pair (.int .i64) (.pair (.pair (.int .i64) (.pair (.int .i64) (.pair (.int .i64) .str))) (.pair (.pair (.int .i64) (.pair (.int .i64) (.pair (.int .i64) (.pair (.int .i64) (.pair (.int .i64) (.sl false (.int .i64))))))) (.pair (.int .i64) (.pair (.int .i64) (.pair (.int .i64) (.sl false (.pair (.int .i64) (.pair (.int .i64) (.pair (.int .i64) .str))))))))))))), .cell (.sl false (.pair (.int .i64) (.pair (.int .i64) (.pair (.int .i64) (.pair (.pair (.int .i64) (.pair (.int .i64) (.pair (.int .i64) .str))) (.pair (.pair (.int .i64) (.pair (.int .i64) (.pair (.int .i64) (.pair (.int .i64) (.pair (.int .i64) (.sl false (.int .i64))))))) (.pair (.int .i64) (.pair (.int .i64) (.pair (.int .i64) (.sl false (.pair (.int .i64) (.pair (.int .i64) (.pair (.int .i64) .str))))))))))))), .cell (.int .i64)]⟩ ⟨[], []⟩ B_laws_eqLetterS_1))
 (.seq (.reg none [.p (.mv 4 (.c (.bool true))) .unit])
 .ret)))),
 27, 2, [.t 4]⟩
theorem m_laws_eqLetterS : mH Try.prog 121 [] = some (F_laws_eqLetterS.code.x, F_laws_eqLetterS.N, F_laws_eqLetterS.np, F_laws_eqLetterS.res) := by kernel_rfl
noncomputable def T_laws_eqLetterS : (List (Int × Int × Int × (Int × Int × Int × List UInt8) × (Int × Int × Int × Int × Int × List (Int)) × Int × Int × Int × List (Int × Int × Int × List UInt8))) × List (Int × Int × Int × (Int × Int × Int × List UInt8) × (Int × Int × Int × Int × Int × List (Int)) × Int × Int × Int × List (Int × Int × Int × List UInt8)) → Option (Bool) := evF [fn_laws_eqLetter] F_laws_eqLetterS [.cell (.sl false (.pair (.int .i64) (.pair (.int .i64) (.pair (.int .i64) (.pair (.pair (.int .i64) (.pair (.int .i64) (.pair (.int .i64) .str))) (.pair (.pair (.int .i64) (.pair (.int .i64) (.pair (.int .i64) (.pair (.int .i64) (.pair (.int .i64) (.sl false (.int .i64))))))) (.pair (.int .i64) (.pair (.int .i64) (.pair (.int .i64) (.sl false (.pair (.int .i64) (.pair (.int .i64) (.pair (.int .i64) .str))))))))))))), .cell (.sl false (.pair (.int .i64) (.pair (.int .i64) (.pair (.int .i64) (.pair (.pair (.int .i64) (.pair (.int .i64) (.pair (.int .i64) .str))) (.pair (.pair (.int .i64) (.pair (.int .i64) (.pair (.int .i64) (.pair (.int .i64) (.pair (.int .i64) (.sl false (.int .i64))))))) (.pair (.int .i64) (.pair (.int .i64) (.pair (.int .i64) (.sl false (.pair (.int .i64) (.pair (.int .i64) (.pair (.int .i64) .str)))))))))))))] [] [.cell .bool] []
noncomputable def fn_laws_eqLetterS : TFn := ⟨121, [.cell (.sl false (.pair (.int .i64) (.pair (.int .i64) (.pair (.int .i64) (.pair (.pair (.int .i64) (.pair (.int .i64) (.pair (.int .i64) .str))) (.pair (.pair (.int .i64) (.pair (.int .i64) (.pair (.int .i64) (.pair (.int .i64) (.pair (.int .i64) (.sl false (.int .i64))))))) (.pair (.int .i64) (.pair (.int .i64) (.pair (.int .i64) (.sl false (.pair (.int .i64) (.pair (.int .i64) (.pair (.int .i64) .str))))))))))))), .cell (.sl false (.pair (.int .i64) (.pair (.int .i64) (.pair (.int .i64) (.pair (.pair (.int .i64) (.pair (.int .i64) (.pair (.int .i64) .str))) (.pair (.pair (.int .i64) (.pair (.int .i64) (.pair (.int .i64) (.pair (.int .i64) (.pair (.int .i64) (.sl false (.int .i64))))))) (.pair (.int .i64) (.pair (.int .i64) (.pair (.int .i64) (.sl false (.pair (.int .i64) (.pair (.int .i64) (.pair (.int .i64) .str)))))))))))))], [], [.cell .bool], [], T_laws_eqLetterS⟩
theorem ok_laws_eqLetterS : FnOk Try.prog fn_laws_eqLetterS := evF_ok mixed (allOk_cons ok_laws_eqLetter allOk_nil) m_laws_eqLetterS (by decide)
def F_laws_eqWorld : TF := ⟨(.seq (.reg none [.p (.box 2 (.t 0)) .unit,
  .p (.box 3 (.t 1)) .unit,
  .p (.mv 4 (.c (.bool false))) .unit])
 (.seq (.seq (.reg none [.p (.fadr 5 (.t 2) 0) .unit,
  .p (.load 6 (.t 5) 1 false) .unit,
  .p (.fadr 7 (.t 3) 0) .unit,
  .p (.load 8 (.t 7) 1 false) .unit,
  .p (.callB 9 n_laws_eqRingS [((.t 6), 0), ((.t 8), 0)]) .unit,
  .p (.un 10 .not (.t 9)) .unit])
 (.cond (.t 10) (.seq (.reg none [.p (.mv 4 (.c (.bool false))) .unit])
 .ret) .skip))
 (.seq (.seq (.reg none [.p (.fadr 11 (.t 2) 1) .unit,
  .p (.load 12 (.t 11) 1 false) .unit,
  .p (.fadr 13 (.t 3) 1) .unit,
  .p (.load 14 (.t 13) 1 false) .unit,
  .p (.callB 15 n_laws_eqDaemonS [((.t 12), 0), ((.t 14), 0)]) .unit,
  .p (.un 16 .not (.t 15)) .unit])
 (.cond (.t 16) (.seq (.reg none [.p (.mv 4 (.c (.bool false))) .unit])
 .ret) .skip))
 (.seq (.seq (.reg none [.p (.fadr 17 (.t 2) 2) .unit,
  .p (.load 18 (.t 17) 1 false) .unit,
  .p (.fadr 19 (.t 3) 2) .unit,
  .p (.load 20 (.t 19) 1 false) .unit,
  .p (.callB 21 n_laws_eqLetterS [((.t 18), 0), ((.t 20), 0)]) .unit,
  .p (.un 22 .not (.t 21)) .unit])
 (.cond (.t 22) (.seq (.reg none [.p (.mv 4 (.c (.bool false))) .unit])
 .ret) .skip))
 (.seq (.seq (.reg none [.p (.fadr 23 (.t 2) 3) .unit,
  .p (.load 24 (.t 23) 1 false) .unit,
  .p (.fadr 25 (.t 3) 3) .unit,
  .p (.load 26 (.t 25) 1 false) .unit,
  .p (.callB 27 n_laws_eqEventS [((.t 24), 0), ((.t 26), 0)]) .unit,
  .p (.un 28 .not (.t 27)) .unit])
 (.cond (.t 28) (.seq (.reg none [.p (.mv 4 (.c (.bool false))) .unit])
 .ret) .skip))
 (.seq (.reg none [.p (.mv 4 (.c (.bool true))) .unit])
 .ret)))))),
 29, 2, [.t 4]⟩
theorem m_laws_eqWorld : mH Try.prog 57 [] = some (F_laws_eqWorld.code.x, F_laws_eqWorld.N, F_laws_eqWorld.np, F_laws_eqWorld.res) := by kernel_rfl
noncomputable def T_laws_eqWorld : (List (Int × List (Int)) × List (Int × Bool × (Int × (Int × List (Int)) × List (Int × Int × Int × List UInt8) × List (Int) × List (List UInt8) × Int × Int × Int × Int × Int × Int × Int × Int × Int × List (Int)) × Int × Int × (Int × List (Int)) × List (Int × Int × Int × List (Int × Int × Int × List UInt8)) × List (Int × (Int × List (Int)) × (Int × Int × Int × List UInt8) × List (Int))) × List (Int × Int × Int × (Int × Int × Int × List UInt8) × (Int × Int × Int × Int × Int × List (Int)) × Int × Int × Int × List (Int × Int × Int × List UInt8)) × List (Int × (Int × List (Int)) × (Int × Int × Int × List UInt8) × List (Int))) × List (Int × List (Int)) × List (Int × Bool × (Int × (Int × List (Int)) × List (Int × Int × Int × List UInt8) × List (Int) × List (List UInt8) × Int × Int × Int × Int × Int × Int × Int × Int × Int × List (Int)) × Int × Int × (Int × List (Int)) × List (Int × Int × Int × List (Int × Int × Int × List UInt8)) × List (Int × (Int × List (Int)) × (Int × Int × Int × List UInt8) × List (Int))) × List (Int × Int × Int × (Int × Int × Int × List UInt8) × (Int × Int × Int × Int × Int × List (Int)) × Int × Int × Int × List (Int × Int × Int × List UInt8)) × List (Int × (Int × List (Int)) × (Int × Int × Int × List UInt8) × List (Int)) → Option (Bool) := evF [fn_laws_eqRingS, fn_laws_eqDaemonS, fn_laws_eqLetterS, fn_laws_eqEventS] F_laws_eqWorld [.agg (.pair (.sl false (.pair (.int .i64) (.sl false (.int .i64)))) (.pair (.sl false (.pair (.int .i64) (.pair .bool (.pair (.pair (.int .i64) (.pair (.pair (.int .i64) (.sl false (.int .i64))) (.pair (.sl false (.pair (.int .i64) (.pair (.int .i64) (.pair (.int .i64) .str)))) (.pair (.sl false (.int .i64)) (.pair (.sl false .str) (.pair (.int .i64) (.pair (.int .i64) (.pair (.int .i64) (.pair (.int .i64) (.pair (.int .i64) (.pair (.int .i64) (.pair (.int .i64) (.pair (.int .i64) (.pair (.int .i64) (.sl false (.int .i64)))))))))))))))) (.pair (.int .i64) (.pair (.int .i64) (.pair (.pair (.int .i64) (.sl false (.int .i64))) (.pair (.sl false (.pair (.int .i64) (.pair (.int .i64) (.pair (.int .i64) (.sl false (.pair (.int .i64) (.pair (.int .i64) (.pair (.int .i64) .str)))))))) (.sl false (.pair (.int .i64) (.pair (.pair (.int .i64) (.sl false (.int .i64))) (.pair (.pair (.int .i64) (.pair (.int .i64) (.pair (.int .i64) .str))) (.sl false (.int .i64)))))))))))))) (.pair (.sl false (.pair (.int .i64) (.pair (.int .i64) (.pair (.int .i64) (.pair (.pair (.int .i64) (.pair (.int .i64) (.pair (.int .i64) .str))) (.pair (.pair (.int .i64) (.pair (.int .i64) (.pair (.int .i64) (.pair (.int .i64) (.pair (.int .i64) (.sl false (.int .i64))))))) (.pair (.int .i64) (.pair (.int .i64) (.pair (.int .i64) (.sl false (.pair (.int .i64) (.pair (.int .i64) (.pair (.int .i64) .str))))))))))))) (.sl false (.pair (.int .i64) (.pair (.pair (.int .i64) (.sl false (.int .i64))) (.pair (.pair (.int .i64) (.pair (.int .i64) (.pair (.int .i64) .str))) (.sl false (.int .i64))))))))), .agg (.pair (.sl false (.pair (.int .i64) (.sl false (.int .i64)))) (.pair (.sl false (.pair (.int .i64) (.pair .bool (.pair (.pair (.int .i64) (.pair (.pair (.int .i64) (.sl false (.int .i64))) (.pair (.sl false (.pair (.int .i64) (.pair (.int .i64) (.pair (.int .i64) .str)))) (.pair (.sl false (.int .i64)) (.pair (.sl false .str) (.pair (.int .i64) (.pair (.int .i64) (.pair (.int .i64) (.pair (.int .i64) (.pair (.int .i64) (.pair (.int .i64) (.pair (.int .i64) (.pair (.int .i64) (.pair (.int .i64) (.sl false (.int .i64)))))))))))))))) (.pair (.int .i64) (.pair (.int .i64) (.pair (.pair (.int .i64) (.sl false (.int .i64))) (.pair (.sl false (.pair (.int .i64) (.pair (.int .i64) (.pair (.int .i64) (.sl false (.pair (.int .i64) (.pair (.int .i64) (.pair (.int .i64) .str)))))))) (.sl false (.pair (.int .i64) (.pair (.pair (.int .i64) (.sl false (.int .i64))) (.pair (.pair (.int .i64) (.pair (.int .i64) (.pair (.int .i64) .str))) (.sl false (.int .i64)))))))))))))) (.pair (.sl false (.pair (.int .i64) (.pair (.int .i64) (.pair (.int .i64) (.pair (.pair (.int .i64) (.pair (.int .i64) (.pair (.int .i64) .str))) (.pair (.pair (.int .i64) (.pair (.int .i64) (.pair (.int .i64) (.pair (.int .i64) (.pair (.int .i64) (.sl false (.int .i64))))))) (.pair (.int .i64) (.pair (.int .i64) (.pair (.int .i64) (.sl false (.pair (.int .i64) (.pair (.int .i64) (.pair (.int .i64) .str))))))))))))) (.sl false (.pair (.int .i64) (.pair (.pair (.int .i64) (.sl false (.int .i64))) (.pair (.pair (.int .i64) (.pair (.int .i64) (.pair (.int .i64) .str))) (.sl false (.int .i64)))))))))] [] [.cell .bool] []
noncomputable def fn_laws_eqWorld : TFn := ⟨57, [.agg (.pair (.sl false (.pair (.int .i64) (.sl false (.int .i64)))) (.pair (.sl false (.pair (.int .i64) (.pair .bool (.pair (.pair (.int .i64) (.pair (.pair (.int .i64) (.sl false (.int .i64))) (.pair (.sl false (.pair (.int .i64) (.pair (.int .i64) (.pair (.int .i64) .str)))) (.pair (.sl false (.int .i64)) (.pair (.sl false .str) (.pair (.int .i64) (.pair (.int .i64) (.pair (.int .i64) (.pair (.int .i64) (.pair (.int .i64) (.pair (.int .i64) (.pair (.int .i64) (.pair (.int .i64) (.pair (.int .i64) (.sl false (.int .i64)))))))))))))))) (.pair (.int .i64) (.pair (.int .i64) (.pair (.pair (.int .i64) (.sl false (.int .i64))) (.pair (.sl false (.pair (.int .i64) (.pair (.int .i64) (.pair (.int .i64) (.sl false (.pair (.int .i64) (.pair (.int .i64) (.pair (.int .i64) .str)))))))) (.sl false (.pair (.int .i64) (.pair (.pair (.int .i64) (.sl false (.int .i64))) (.pair (.pair (.int .i64) (.pair (.int .i64) (.pair (.int .i64) .str))) (.sl false (.int .i64)))))))))))))) (.pair (.sl false (.pair (.int .i64) (.pair (.int .i64) (.pair (.int .i64) (.pair (.pair (.int .i64) (.pair (.int .i64) (.pair (.int .i64) .str))) (.pair (.pair (.int .i64) (.pair (.int .i64) (.pair (.int .i64) (.pair (.int .i64) (.pair (.int .i64) (.sl false (.int .i64))))))) (.pair (.int .i64) (.pair (.int .i64) (.pair (.int .i64) (.sl false (.pair (.int .i64) (.pair (.int .i64) (.pair (.int .i64) .str))))))))))))) (.sl false (.pair (.int .i64) (.pair (.pair (.int .i64) (.sl false (.int .i64))) (.pair (.pair (.int .i64) (.pair (.int .i64) (.pair (.int .i64) .str))) (.sl false (.int .i64))))))))), .agg (.pair (.sl false (.pair (.int .i64) (.sl false (.int .i64)))) (.pair (.sl false (.pair (.int .i64) (.pair .bool (.pair (.pair (.int .i64) (.pair (.pair (.int .i64) (.sl false (.int .i64))) (.pair (.sl false (.pair (.int .i64) (.pair (.int .i64) (.pair (.int .i64) .str)))) (.pair (.sl false (.int .i64)) (.pair (.sl false .str) (.pair (.int .i64) (.pair (.int .i64) (.pair (.int .i64) (.pair (.int .i64) (.pair (.int .i64) (.pair (.int .i64) (.pair (.int .i64) (.pair (.int .i64) (.pair (.int .i64) (.sl false (.int .i64)))))))))))))))) (.pair (.int .i64) (.pair (.int .i64) (.pair (.pair (.int .i64) (.sl false (.int .i64))) (.pair (.sl false (.pair (.int .i64) (.pair (.int .i64) (.pair (.int .i64) (.sl false (.pair (.int .i64) (.pair (.int .i64) (.pair (.int .i64) .str)))))))) (.sl false (.pair (.int .i64) (.pair (.pair (.int .i64) (.sl false (.int .i64))) (.pair (.pair (.int .i64) (.pair (.int .i64) (.pair (.int .i64) .str))) (.sl false (.int .i64)))))))))))))) (.pair (.sl false (.pair (.int .i64) (.pair (.int .i64) (.pair (.int .i64) (.pair (.pair (.int .i64) (.pair (.int .i64) (.pair (.int .i64) .str))) (.pair (.pair (.int .i64) (.pair (.int .i64) (.pair (.int .i64) (.pair (.int .i64) (.pair (.int .i64) (.sl false (.int .i64))))))) (.pair (.int .i64) (.pair (.int .i64) (.pair (.int .i64) (.sl false (.pair (.int .i64) (.pair (.int .i64) (.pair (.int .i64) .str))))))))))))) (.sl false (.pair (.int .i64) (.pair (.pair (.int .i64) (.sl false (.int .i64))) (.pair (.pair (.int .i64) (.pair (.int .i64) (.pair (.int .i64) .str))) (.sl false (.int .i64)))))))))], [], [.cell .bool], [], T_laws_eqWorld⟩
theorem ok_laws_eqWorld : FnOk Try.prog fn_laws_eqWorld := evF_ok mixed (allOk_cons ok_laws_eqRingS (allOk_cons ok_laws_eqDaemonS (allOk_cons ok_laws_eqLetterS (allOk_cons ok_laws_eqEventS allOk_nil)))) m_laws_eqWorld (by decide)
def F_laws_FnExactSaidFirst : TF := ⟨(.seq (.reg none [.p (.box 1 (.t 0)) .unit,
  .p (.mv 2 (.c (.bool false))) .unit])
 (.seq (.reg none [.p (.mv 3 (.c (.int .i64 1048576))) .unit])
 (.seq (.reg none [.p (.load 7 (.t 1) 4 true) .unit,
  .p (.mv 8 (.t 3)) .unit,
  .p (.callB 9 n_laws_szWorld [((.t 7), 0), ((.t 8), 0)]) .unit,
  .p (.mv 3 (.t 9)) .unit])
 (.seq (.seq (.reg none [.p (.mv 10 (.t 3)) .unit,
  .p (.bin 11 false .lss (.t 10) (.c (.int .i64 0))) .unit])
 (.cond (.t 11) (.seq (.reg none [.p (.mv 2 (.c (.bool true))) .unit])
 .ret) .skip))
 (.seq (.reg none [.p (.load 12 (.t 1) 4 true) .unit,
  .p (.callB 13 n_laws_toWorld [((.t 12), 0)]) .unit,
  .p (.callB 14 n_spec_SaidFirst [((.t 13), 0)]) .unit,
  .p (.mv 4 (.t 14)) .unit])
 (.seq (.reg none [.p (.load 15 (.t 1) 4 true) .unit,
  .p (.callB 16 n_laws_toWorld [((.t 15), 0)]) .unit,
  .p (.alloc 5 [(.sl true 2 []), (.sl true 24 []), (.sl true 17 []), (.sl true 8 [])]) .unit,
  .p (.storeT (.t 5) 16 4) .unit])
 (.seq (.reg none [.p (.load 17 (.t 5) 4 true) .unit,
  .p (.callB 18 n_impl_SaidFirst [((.t 17), 0)]) .unit,
  .p (.mv 6 (.t 18)) .unit])
 (.seq (.seq (.reg none [.p (.mv 19 (.t 6)) .unit,
  .p (.mv 20 (.t 4)) .unit,
  .p (.bin 21 true .neq (.t 19) (.t 20)) .unit])
 (.cond (.t 21) (.seq (.reg none [.p (.mv 2 (.c (.bool false))) .unit])
 .ret) .skip))
 (.seq (.seq (.reg (some [[], [], [1], [0, 2, 2], [3]]) [.p (.load 22 (.t 5) 4 true) .unit,
  .p (.load 23 (.t 1) 4 true) .unit,
  .p (.callB 24 n_laws_toWorld [((.t 23), 0)]) .unit,
  .p (.callB 25 n_laws_eqWorld [((.t 22), 0), ((.t 24), 0)]) .unit,
  .p (.un 26 .not (.t 25)) .unit])
 (.cond (.t 26) (.seq (.reg none [.p (.mv 2 (.c (.bool false))) .unit])
 .ret) .skip))
 (.seq (.reg none [.p (.mv 2 (.c (.bool true))) .unit])
 .ret)))))))))),
 27, 1, [.t 2]⟩
theorem m_laws_FnExactSaidFirst : mH Try.prog 10 [(6, 3, .t)] = some (F_laws_FnExactSaidFirst.code.x, F_laws_FnExactSaidFirst.N, F_laws_FnExactSaidFirst.np, F_laws_FnExactSaidFirst.res) := by kernel_rfl
noncomputable def T_laws_FnExactSaidFirst : List (Int × List (Int)) × List (Int × Bool × (Int × (Int × List (Int)) × List (Int × Int × Int × List UInt8) × List (Int) × List (List UInt8) × Int × Int × Int × Int × Int × Int × Int × Int × Int × List (Int)) × Int × Int × (Int × List (Int)) × List (Int × Int × Int × List (Int × Int × Int × List UInt8)) × List (Int × (Int × List (Int)) × (Int × Int × Int × List UInt8) × List (Int))) × List (Int × Int × Int × (Int × Int × Int × List UInt8) × (Int × Int × Int × Int × Int × List (Int)) × Int × Int × Int × List (Int × Int × Int × List UInt8)) × List (Int × (Int × List (Int)) × (Int × Int × Int × List UInt8) × List (Int)) → Option (Bool) := evF [fn_laws_szWorld, fn_laws_toWorld, fn_spec_SaidFirst, fn_impl_SaidFirst, fn_laws_eqWorld] F_laws_FnExactSaidFirst [.agg (.pair (.sl false (.pair (.int .i64) (.sl false (.int .i64)))) (.pair (.sl false (.pair (.int .i64) (.pair .bool (.pair (.pair (.int .i64) (.pair (.pair (.int .i64) (.sl false (.int .i64))) (.pair (.sl false (.pair (.int .i64) (.pair (.int .i64) (.pair (.int .i64) .str)))) (.pair (.sl false (.int .i64)) (.pair (.sl false .str) (.pair (.int .i64) (.pair (.int .i64) (.pair (.int .i64) (.pair (.int .i64) (.pair (.int .i64) (.pair (.int .i64) (.pair (.int .i64) (.pair (.int .i64) (.pair (.int .i64) (.sl false (.int .i64)))))))))))))))) (.pair (.int .i64) (.pair (.int .i64) (.pair (.pair (.int .i64) (.sl false (.int .i64))) (.pair (.sl false (.pair (.int .i64) (.pair (.int .i64) (.pair (.int .i64) (.sl false (.pair (.int .i64) (.pair (.int .i64) (.pair (.int .i64) .str)))))))) (.sl false (.pair (.int .i64) (.pair (.pair (.int .i64) (.sl false (.int .i64))) (.pair (.pair (.int .i64) (.pair (.int .i64) (.pair (.int .i64) .str))) (.sl false (.int .i64)))))))))))))) (.pair (.sl false (.pair (.int .i64) (.pair (.int .i64) (.pair (.int .i64) (.pair (.pair (.int .i64) (.pair (.int .i64) (.pair (.int .i64) .str))) (.pair (.pair (.int .i64) (.pair (.int .i64) (.pair (.int .i64) (.pair (.int .i64) (.pair (.int .i64) (.sl false (.int .i64))))))) (.pair (.int .i64) (.pair (.int .i64) (.pair (.int .i64) (.sl false (.pair (.int .i64) (.pair (.int .i64) (.pair (.int .i64) .str))))))))))))) (.sl false (.pair (.int .i64) (.pair (.pair (.int .i64) (.sl false (.int .i64))) (.pair (.pair (.int .i64) (.pair (.int .i64) (.pair (.int .i64) .str))) (.sl false (.int .i64)))))))))] [] [.cell .bool] []
noncomputable def fn_laws_FnExactSaidFirst : TFn := ⟨10, [.agg (.pair (.sl false (.pair (.int .i64) (.sl false (.int .i64)))) (.pair (.sl false (.pair (.int .i64) (.pair .bool (.pair (.pair (.int .i64) (.pair (.pair (.int .i64) (.sl false (.int .i64))) (.pair (.sl false (.pair (.int .i64) (.pair (.int .i64) (.pair (.int .i64) .str)))) (.pair (.sl false (.int .i64)) (.pair (.sl false .str) (.pair (.int .i64) (.pair (.int .i64) (.pair (.int .i64) (.pair (.int .i64) (.pair (.int .i64) (.pair (.int .i64) (.pair (.int .i64) (.pair (.int .i64) (.pair (.int .i64) (.sl false (.int .i64)))))))))))))))) (.pair (.int .i64) (.pair (.int .i64) (.pair (.pair (.int .i64) (.sl false (.int .i64))) (.pair (.sl false (.pair (.int .i64) (.pair (.int .i64) (.pair (.int .i64) (.sl false (.pair (.int .i64) (.pair (.int .i64) (.pair (.int .i64) .str)))))))) (.sl false (.pair (.int .i64) (.pair (.pair (.int .i64) (.sl false (.int .i64))) (.pair (.pair (.int .i64) (.pair (.int .i64) (.pair (.int .i64) .str))) (.sl false (.int .i64)))))))))))))) (.pair (.sl false (.pair (.int .i64) (.pair (.int .i64) (.pair (.int .i64) (.pair (.pair (.int .i64) (.pair (.int .i64) (.pair (.int .i64) .str))) (.pair (.pair (.int .i64) (.pair (.int .i64) (.pair (.int .i64) (.pair (.int .i64) (.pair (.int .i64) (.sl false (.int .i64))))))) (.pair (.int .i64) (.pair (.int .i64) (.pair (.int .i64) (.sl false (.pair (.int .i64) (.pair (.int .i64) (.pair (.int .i64) .str))))))))))))) (.sl false (.pair (.int .i64) (.pair (.pair (.int .i64) (.sl false (.int .i64))) (.pair (.pair (.int .i64) (.pair (.int .i64) (.pair (.int .i64) .str))) (.sl false (.int .i64)))))))))], [], [.cell .bool], [], T_laws_FnExactSaidFirst⟩
theorem ok_laws_FnExactSaidFirst : FnOk Try.prog fn_laws_FnExactSaidFirst := evF_ok mixed (allOk_cons ok_laws_szWorld (allOk_cons ok_laws_toWorld (allOk_cons ok_spec_SaidFirst (allOk_cons ok_impl_SaidFirst (allOk_cons ok_laws_eqWorld allOk_nil))))) m_laws_FnExactSaidFirst (by decide)

end Xs
end Go.Proofs.Ytlblgfhdndpmfaa
