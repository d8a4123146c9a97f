/- The typed code of the functions, printed by program. -/
import Derived.Test.YtfepabohinkpgaaT7
import Derived.Test.YtfepabohinkpgaaProg
import Derived.KernelRfl

import Derived.Test.YtfepabohinkpgaaBld
namespace Go.Proofs.Ytfepabohinkpgaa
open Go Vm
namespace Xs
theorem mixed : Try.prog.follows .mixedOrders = true := by kernel_rfl
abbrev n_laws_FnExactAskText : Nat := 13
abbrev n_laws_szAsk : Nat := 28
abbrev n_spec_AskOk : Nat := 29
abbrev n_laws_toAsk : Nat := 30
abbrev n_impl_AskOk : Nat := 31
abbrev n_laws_eqAsk : Nat := 32
abbrev n_laws_eqStringS : Nat := 45
abbrev n_spec_AskText : Nat := 55
abbrev n_impl_AskText : Nat := 56
abbrev n_spec_l01In : Nat := 67
abbrev n_impl_inRange : Nat := 71
abbrev n_laws_szStringS : Nat := 73
abbrev n_spec_NameOk : Nat := 74
abbrev n_laws_toStringS : Nat := 75
abbrev n_impl_NameOk : Nat := 76
abbrev n_spec_l17Names : Nat := 83
abbrev n_impl_areNames : Nat := 84
abbrev n_impl_isLevel : Nat := 85
abbrev n_spec_l05Byte : Nat := 110
abbrev n_spec_l05Short : Nat := 111
abbrev n_spec_l01Var : Nat := 112
abbrev n_impl_octets : Nat := 113
abbrev n_impl_shortText : Nat := 114
abbrev n_impl_namesText : Nat := 115
abbrev n_impl_varText : Nat := 132
abbrev n___strings_Builder__WriteString : Nat := 133
abbrev n___strings_Builder__String : Nat := 134
def B_laws_szStringS_1 : TC := (.seq (.seq (.reg none [.p (.mv 12 (.t 5)) .unit,
  .p (.mv 13 (.t 0)) .unit,
  .p (.lenB 14 (.t 13)) .unit,
  .p (.bin 15 false .lss (.t 12) (.t 14)) .unit])
 (.cond (.t 15) .skip (.exit 0)))
 (.seq (.block 1 (.seq (.reg none [.p (.mv 18 (.t 1)) .unit,
  .p (.mv 19 (.t 0)) .unit,
  .p (.mv 20 (.t 5)) .unit,
  .p (.iadr 21 1 (.t 19) (.t 20)) .unit,
  .p (.load 22 (.t 21) 1 false) .unit,
  .p (.lenS 23 (.t 22)) .unit,
  .p (.bin 24 false .sub (.t 18) (.t 23)) .unit,
  .p (.mv 1 (.t 24)) .unit])
 (.seq (.reg none [.p (.mv 25 (.t 1)) .unit,
  .p (.bin 26 false .lss (.t 25) (.c (.int .i64 0))) .unit])
 (.cond (.t 26) (.seq (.reg none [.p (.mv 4 (.c (.int .i64 (-1)))) .unit])
 .ret) .skip))))
 (.reg none [.p (.mv 16 (.t 5)) .unit,
  .p (.bin 17 false .add (.t 16) (.c (.int .i64 1))) .unit,
  .p (.mv 5 (.t 17)) .unit])))
noncomputable def L_laws_szStringS_1 : Nat → (List (List UInt8)) × (Int) × Int → Option ((Int) ⊕ (Int)) := evL [] (finT [.t 4] [] [.cell (.int .i64)]) 0 ⟨[(0, true), (1, false), (5, false)], [.cell (.sl false .str), .cell (.int .i64), .cell (.int .i64)]⟩ ⟨[(1, false)], [.cell (.int .i64)]⟩ B_laws_szStringS_1
def F_laws_szStringS : TF := ⟨(.seq (.reg none [.p (.mv 4 (.c (.int .i64 0))) .unit])
 (.seq (.reg none [.p (.mv 6 (.t 1)) .unit,
  .p (.mv 7 (.t 0)) .unit,
  .p (.lenB 8 (.t 7)) .unit,
  .p (.bin 9 false .sub (.t 6) (.t 8)) .unit,
  .p (.mv 1 (.t 9)) .unit])
 (.seq (.seq (.reg none [.p (.mv 10 (.t 1)) .unit,
  .p (.bin 11 false .lss (.t 10) (.c (.int .i64 0))) .unit])
 (.cond (.t 11) (.seq (.reg none [.p (.mv 4 (.c (.int .i64 (-1)))) .unit])
 .ret) .skip))
 (.seq (.seq (.reg none [.p (.mv 5 (.c (.int .i64 0))) .unit])
 (.jl 0 ⟨[(0, true), (1, false), (5, false)], [.cell (.sl false .str), .cell (.int .i64), .cell (.int .i64)]⟩ ⟨[(1, false)], [.cell (.int .i64)]⟩ B_laws_szStringS_1))
 (.seq (.reg none [.p (.mv 27 (.t 1)) .unit,
  .p (.mv 4 (.t 27)) .unit])
 .ret))))),
 28, 2, [.t 4]⟩
theorem m_laws_szStringS : mH Try.prog 73 [] = some (F_laws_szStringS.code.x, F_laws_szStringS.N, F_laws_szStringS.np, F_laws_szStringS.res) := by kernel_rfl
noncomputable def T_laws_szStringS : (List (List UInt8)) × Int → Option (Int) := evF [] F_laws_szStringS [.cell (.sl false .str), .cell (.int .i64)] [] [.cell (.int .i64)] []
noncomputable def fn_laws_szStringS : TFn := ⟨73, [.cell (.sl false .str), .cell (.int .i64)], [], [.cell (.int .i64)], [], T_laws_szStringS⟩
theorem ok_laws_szStringS : FnOk Try.prog fn_laws_szStringS := evF_ok mixed allOk_nil m_laws_szStringS (by decide)
def F_laws_szAsk : TF := ⟨(.seq (.reg none [.p (.box 2 (.t 0)) .unit,
  .p (.mv 4 (.c (.int .i64 0))) .unit])
 (.seq (.reg none [.p (.mv 5 (.t 1)) .unit,
  .p (.fadr 6 (.t 2) 1) .unit,
  .p (.load 7 (.t 6) 1 false) .unit,
  .p (.lenS 8 (.t 7)) .unit,
  .p (.bin 9 false .sub (.t 5) (.t 8)) .unit,
  .p (.mv 1 (.t 9)) .unit])
 (.seq (.seq (.reg none [.p (.mv 10 (.t 1)) .unit,
  .p (.bin 11 false .lss (.t 10) (.c (.int .i64 0))) .unit])
 (.cond (.t 11) (.seq (.reg none [.p (.mv 4 (.c (.int .i64 (-1)))) .unit])
 .ret) .skip))
 (.seq (.reg none [.p (.fadr 12 (.t 2) 2) .unit,
  .p (.load 13 (.t 12) 1 false) .unit,
  .p (.mv 14 (.t 1)) .unit,
  .p (.callB 15 n_laws_szStringS [((.t 13), 0), ((.t 14), 0)]) .unit,
  .p (.mv 1 (.t 15)) .unit])
 (.seq (.seq (.reg none [.p (.mv 16 (.t 1)) .unit,
  .p (.bin 17 false .lss (.t 16) (.c (.int .i64 0))) .unit])
 (.cond (.t 17) (.seq (.reg none [.p (.mv 4 (.c (.int .i64 (-1)))) .unit])
 .ret) .skip))
 (.seq (.reg none [.p (.mv 18 (.t 1)) .unit,
  .p (.fadr 19 (.t 2) 4) .unit,
  .p (.load 20 (.t 19) 1 false) .unit,
  .p (.lenS 21 (.t 20)) .unit,
  .p (.bin 22 false .sub (.t 18) (.t 21)) .unit,
  .p (.mv 1 (.t 22)) .unit])
 (.seq (.seq (.reg none [.p (.mv 23 (.t 1)) .unit,
  .p (.bin 24 false .lss (.t 23) (.c (.int .i64 0))) .unit])
 (.cond (.t 24) (.seq (.reg none [.p (.mv 4 (.c (.int .i64 (-1)))) .unit])
 .ret) .skip))
 (.seq (.reg none [.p (.mv 25 (.t 1)) .unit,
  .p (.mv 4 (.t 25)) .unit])
 .ret)))))))),
 26, 2, [.t 4]⟩
theorem m_laws_szAsk : mH Try.prog 28 [] = some (F_laws_szAsk.code.x, F_laws_szAsk.N, F_laws_szAsk.np, F_laws_szAsk.res) := by kernel_rfl
noncomputable def T_laws_szAsk : (Int × List UInt8 × List (List UInt8) × Int × List UInt8) × Int → Option (Int) := evF [fn_laws_szStringS] F_laws_szAsk [.agg (.pair (.int .i64) (.pair .str (.pair (.sl false .str) (.pair (.int .i64) .str)))), .cell (.int .i64)] [] [.cell (.int .i64)] []
noncomputable def fn_laws_szAsk : TFn := ⟨28, [.agg (.pair (.int .i64) (.pair .str (.pair (.sl false .str) (.pair (.int .i64) .str)))), .cell (.int .i64)], [], [.cell (.int .i64)], [], T_laws_szAsk⟩
theorem ok_laws_szAsk : FnOk Try.prog fn_laws_szAsk := evF_ok mixed (allOk_cons ok_laws_szStringS allOk_nil) m_laws_szAsk (by decide)
def B_laws_toStringS_1 : TC := (.seq (.seq (.reg none [.p (.mv 8 (.t 4)) .unit,
  .p (.mv 9 (.t 0)) .unit,
  .p (.lenB 10 (.t 9)) .unit,
  .p (.bin 11 false .lss (.t 8) (.t 10)) .unit])
 (.cond (.t 11) .skip (.exit 0)))
 (.seq (.block 1 (.reg none [.p (.mvA 14 3) .unit,
  .p (.mv 15 (.t 4)) .unit,
  .p (.mv 16 (.t 0)) .unit,
  .p (.mv 17 (.t 4)) .unit,
  .p (.iadr 18 1 (.t 16) (.t 17)) .unit,
  .p (.load 19 (.t 18) 1 false) .unit,
  .p (.iadr 20 1 (.t 14) (.t 15)) .unit,
  .p (.store (.t 20) (.t 19) 1) .unit]))
 (.reg none [.p (.mv 12 (.t 4)) .unit,
  .p (.bin 13 false .add (.t 12) (.c (.int .i64 1))) .unit,
  .p (.mv 4 (.t 13)) .unit])))
noncomputable def L_laws_toStringS_1 : Nat → (List (List UInt8)) × (List (List UInt8)) × Int → Option ((List (List UInt8)) ⊕ (List (List UInt8))) := evL [] (finT [.t 2] [] [.cell (.sl true .str)]) 0 ⟨[(0, true), (3, false), (4, false)], [.cell (.sl false .str), .cell (.sl true .str), .cell (.int .i64)]⟩ ⟨[(3, false)], [.cell (.sl true .str)]⟩ B_laws_toStringS_1
def F_laws_toStringS : TF := ⟨(.seq (.reg none [.p (.mvN 2 1) .unit])
 (.seq (.reg none [.p (.mv 5 (.t 0)) .unit,
  .p (.lenB 6 (.t 5)) .unit,
  .p (.mkS 7 16 [(.lit (.string (ba [])))] (.t 6) (.t 6)) .str,
  .p (.mvT 3 7) .unit])
 (.seq (.seq (.reg none [.p (.mv 4 (.c (.int .i64 0))) .unit])
 (.jl 0 ⟨[(0, true), (3, false), (4, false)], [.cell (.sl false .str), .cell (.sl true .str), .cell (.int .i64)]⟩ ⟨[(3, false)], [.cell (.sl true .str)]⟩ B_laws_toStringS_1))
 (.seq (.reg none [.p (.mvT 21 3) .unit,
  .p (.mvT 2 21) .unit])
 .ret)))),
 22, 1, [.t 2]⟩
theorem m_laws_toStringS : mH Try.prog 75 [(1, 3, .t), (5, 0, .v), (6, 0, .t), (6, 1, .t)] = some (F_laws_toStringS.code.x, F_laws_toStringS.N, F_laws_toStringS.np, F_laws_toStringS.res) := by kernel_rfl
noncomputable def T_laws_toStringS : List (List UInt8) → Option (List (List UInt8)) := evF [] F_laws_toStringS [.cell (.sl false .str)] [] [.cell (.sl true .str)] []
noncomputable def fn_laws_toStringS : TFn := ⟨75, [.cell (.sl false .str)], [], [.cell (.sl true .str)], [], T_laws_toStringS⟩
theorem ok_laws_toStringS : FnOk Try.prog fn_laws_toStringS := evF_ok mixed allOk_nil m_laws_toStringS (by decide)
def F_laws_toAsk : TF := ⟨(.seq (.reg none [.p (.box 1 (.t 0)) .unit,
  .p (.alloc 2 [(.lit (.int .i64 0)), (.lit (.string (ba []))), (.sl true 1 []), (.lit (.int .i64 0)), (.lit (.string (ba [])))]) .unit])
 (.seq (.reg none [.p (.alloc 3 [(.lit (.int .i64 0)), (.lit (.string (ba []))), (.sl true 1 []), (.lit (.int .i64 0)), (.lit (.string (ba [])))]) .unit])
 (.seq (.reg none [.p (.fadr 4 (.t 1) 0) .unit,
  .p (.load 5 (.t 4) 1 false) .unit,
  .p (.fadr 6 (.t 3) 0) .unit,
  .p (.store (.t 6) (.t 5) 1) .unit])
 (.seq (.reg none [.p (.fadr 7 (.t 1) 1) .unit,
  .p (.load 8 (.t 7) 1 false) .unit,
  .p (.fadr 9 (.t 3) 1) .unit,
  .p (.store (.t 9) (.t 8) 1) .unit])
 (.seq (.reg none [.p (.fadr 10 (.t 1) 2) .unit,
  .p (.load 11 (.t 10) 1 false) .unit,
  .p (.callB 12 n_laws_toStringS [((.t 11), 0)]) .unit,
  .p (.fadr 13 (.t 3) 2) .unit,
  .p (.storeT (.t 13) 12 1) .unit])
 (.seq (.reg none [.p (.fadr 14 (.t 1) 3) .unit,
  .p (.load 15 (.t 14) 1 false) .unit,
  .p (.fadr 16 (.t 3) 3) .unit,
  .p (.store (.t 16) (.t 15) 1) .unit])
 (.seq (.reg none [.p (.fadr 17 (.t 1) 4) .unit,
  .p (.load 18 (.t 17) 1 false) .unit,
  .p (.fadr 19 (.t 3) 4) .unit,
  .p (.store (.t 19) (.t 18) 1) .unit])
 (.seq (.reg none [.p (.loadT 20 (.t 3) 5 true) .unit,
  .p (.storeT (.t 2) 20 5) .unit])
 .ret)))))))),
 21, 1, [.c 2 5 true]⟩
theorem m_laws_toAsk : mH Try.prog 30 [(4, 4, .t), (7, 0, .t), (7, 1, .t)] = some (F_laws_toAsk.code.x, F_laws_toAsk.N, F_laws_toAsk.np, F_laws_toAsk.res) := by kernel_rfl
noncomputable def T_laws_toAsk : Int × List UInt8 × List (List UInt8) × Int × List UInt8 → Option (Int × List UInt8 × List (List UInt8) × Int × List UInt8) := evF [fn_laws_toStringS] F_laws_toAsk [.agg (.pair (.int .i64) (.pair .str (.pair (.sl false .str) (.pair (.int .i64) .str))))] [] [.agg (.pair (.int .i64) (.pair .str (.pair (.sl true .str) (.pair (.int .i64) .str))))] []
noncomputable def fn_laws_toAsk : TFn := ⟨30, [.agg (.pair (.int .i64) (.pair .str (.pair (.sl false .str) (.pair (.int .i64) .str))))], [], [.agg (.pair (.int .i64) (.pair .str (.pair (.sl true .str) (.pair (.int .i64) .str))))], [], T_laws_toAsk⟩
theorem ok_laws_toAsk : FnOk Try.prog fn_laws_toAsk := evF_ok mixed (allOk_cons ok_laws_toStringS allOk_nil) m_laws_toAsk (by decide)
def F_spec_l01In : TF := ⟨(.seq (.reg none [.p (.mv 6 (.c (.bool false))) .unit])
 (.seq (.reg none [.p (.mv 7 (.t 0)) .unit,
  .p (.mv 8 (.t 1)) .unit,
  .p (.bin 9 false .geq (.t 7) (.t 8)) .unit,
  .p (.mv 10 (.t 9)) .unit,
  .g 10 true (some 11) (.mv 11 (.t 0)) .unit,
  .g 10 true (some 12) (.mv 12 (.t 2)) .unit,
  .g 10 true (some 13) (.bin 13 false .leq (.t 11) (.t 12)) .unit,
  .p (.pick 14 (.t 10) (.t 13) (.c (.bool false))) .unit,
  .p (.mv 6 (.t 14)) .unit])
 .ret)),
 15, 3, [.t 6]⟩
theorem m_spec_l01In : mH Try.prog 67 [] = some (F_spec_l01In.code.x, F_spec_l01In.N, F_spec_l01In.np, F_spec_l01In.res) := by kernel_rfl
noncomputable def T_spec_l01In : (Int) × (Int) × Int → Option (Bool) := evF [] F_spec_l01In [.cell (.int .i64), .cell (.int .i64), .cell (.int .i64)] [] [.cell .bool] []
noncomputable def fn_spec_l01In : TFn := ⟨67, [.cell (.int .i64), .cell (.int .i64), .cell (.int .i64)], [], [.cell .bool], [], T_spec_l01In⟩
theorem ok_spec_l01In : FnOk Try.prog fn_spec_l01In := evF_ok mixed allOk_nil m_spec_l01In (by decide)
def B_spec_NameOk_1 : TC := (.seq (.seq (.reg none [.p (.mv 18 (.t 3)) .unit,
  .p (.mv 19 (.t 0)) .unit,
  .p (.lenS 20 (.t 19)) .unit,
  .p (.bin 21 false .lss (.t 18) (.t 20)) .unit])
 (.cond (.t 21) .skip (.exit 0)))
 (.seq (.block 1 (.seq (.join ⟨[(0, true), (3, false), (45, false)], [.cell .str, .cell (.int .i64), .cell .bool]⟩ (.reg none [.p (.mv 24 (.t 0)) .unit,
  .p (.mv 25 (.t 3)) .unit,
  .p (.idx 26 (.t 24) (.t 25)) .unit,
  .p (.bin 27 false .lss (.t 26) (.c (.int .u8 97))) .unit,
  .p (.mv 28 (.t 27)) .unit,
  .g 28 false (some 29) (.mv 29 (.t 0)) .unit,
  .g 28 false (some 30) (.mv 30 (.t 3)) .unit,
  .g 28 false (some 31) (.idx 31 (.t 29) (.t 30)) .unit,
  .g 28 false (some 32) (.bin 32 false .gtr (.t 31) (.c (.int .u8 122))) .unit,
  .p (.pick 33 (.t 28) (.c (.bool true)) (.t 32)) .unit,
  .p (.mv 34 (.t 33)) .unit,
  .g 34 true (some 35) (.mv 35 (.t 0)) .unit,
  .g 34 true (some 36) (.mv 36 (.t 3)) .unit,
  .g 34 true (some 37) (.idx 37 (.t 35) (.t 36)) .unit,
  .g 34 true (some 38) (.bin 38 false .lss (.t 37) (.c (.int .u8 48))) .unit,
  .g 34 true (some 39) (.mv 39 (.t 38)) .unit,
  .g 39 false (some 40) (.mv 40 (.t 0)) .unit,
  .g 39 false (some 41) (.mv 41 (.t 3)) .unit,
  .g 39 false (some 42) (.idx 42 (.t 40) (.t 41)) .unit,
  .g 39 false (some 43) (.bin 43 false .gtr (.t 42) (.c (.int .u8 57))) .unit,
  .g 34 true (some 44) (.pick 44 (.t 39) (.c (.bool true)) (.t 43)) .unit,
  .p (.pick 45 (.t 34) (.t 44) (.c (.bool false))) .unit]))
 (.cond (.t 45) (.seq (.reg none [.p (.mv 2 (.c (.bool false))) .unit])
 .ret) .skip)))
 (.reg none [.p (.mv 22 (.t 3)) .unit,
  .p (.bin 23 false .add (.t 22) (.c (.int .i64 1))) .unit,
  .p (.mv 3 (.t 23)) .unit])))
noncomputable def L_spec_NameOk_1 : Nat → (List UInt8) × Int → Option ((Unit) ⊕ (Bool)) := evL [fn_spec_l01In] (finT [.t 2] [] [.cell .bool]) 0 ⟨[(0, true), (3, false)], [.cell .str, .cell (.int .i64)]⟩ ⟨[], []⟩ B_spec_NameOk_1
def F_spec_NameOk : TF := ⟨(.seq (.reg none [.p (.mv 2 (.c (.bool false))) .unit])
 (.seq (.seq (.join ⟨[(0, true), (17, false)], [.cell .str, .cell .bool]⟩ (.reg none [.p (.mv 4 (.t 0)) .unit,
  .p (.lenS 5 (.t 4)) .unit,
  .p (.callB 6 n_spec_l01In [((.t 5), 0), ((.c (.int .i64 1)), 0), ((.c (.int .i64 12)), 0)]) .unit,
  .p (.un 7 .not (.t 6)) .unit,
  .p (.mv 8 (.t 7)) .unit,
  .g 8 false (some 9) (.mv 9 (.t 0)) .unit,
  .g 8 false (some 10) (.idx 10 (.t 9) (.c (.int .i64 0))) .unit,
  .g 8 false (some 11) (.bin 11 false .lss (.t 10) (.c (.int .u8 97))) .unit,
  .p (.pick 12 (.t 8) (.c (.bool true)) (.t 11)) .unit,
  .p (.mv 13 (.t 12)) .unit,
  .g 13 false (some 14) (.mv 14 (.t 0)) .unit,
  .g 13 false (some 15) (.idx 15 (.t 14) (.c (.int .i64 0))) .unit,
  .g 13 false (some 16) (.bin 16 false .gtr (.t 15) (.c (.int .u8 122))) .unit,
  .p (.pick 17 (.t 13) (.c (.bool true)) (.t 16)) .unit]))
 (.cond (.t 17) (.seq (.reg none [.p (.mv 2 (.c (.bool false))) .unit])
 .ret) .skip))
 (.seq (.seq (.reg none [.p (.mv 3 (.c (.int .i64 0))) .unit])
 (.jl 0 ⟨[(0, true), (3, false)], [.cell .str, .cell (.int .i64)]⟩ ⟨[], []⟩ B_spec_NameOk_1))
 (.seq (.reg none [.p (.mv 2 (.c (.bool true))) .unit])
 .ret)))),
 46, 1, [.t 2]⟩
theorem m_spec_NameOk : mH Try.prog 74 [] = some (F_spec_NameOk.code.x, F_spec_NameOk.N, F_spec_NameOk.np, F_spec_NameOk.res) := by kernel_rfl
noncomputable def T_spec_NameOk : List UInt8 → Option (Bool) := evF [fn_spec_l01In] F_spec_NameOk [.cell .str] [] [.cell .bool] []
noncomputable def fn_spec_NameOk : TFn := ⟨74, [.cell .str], [], [.cell .bool], [], T_spec_NameOk⟩
theorem ok_spec_NameOk : FnOk Try.prog fn_spec_NameOk := evF_ok mixed (allOk_cons ok_spec_l01In allOk_nil) m_spec_NameOk (by decide)
def B_spec_l17Names_1 : TC := (.seq (.seq (.reg none [.p (.mv 4 (.t 3)) .unit,
  .p (.mv 5 (.t 0)) .unit,
  .p (.lenB 6 (.t 5)) .unit,
  .p (.bin 7 false .lss (.t 4) (.t 6)) .unit])
 (.cond (.t 7) .skip (.exit 0)))
 (.seq (.block 1 (.seq (.join ⟨[(0, true), (3, false), (31, false)], [.cell (.sl false .str), .cell (.int .i64), .cell .bool]⟩ (.reg (some [[], [], [0, 1], [2], [3], [4], [5, 4], [6], [7, 6], [8, 6, 6], [9], [9], [11, 9], [10, 12, 9], [13, 9], [9], [9], [15, 16, 9], [17, 9], [14, 18, 9], [9, 19, 6], [6, 20]]) [.p (.mv 10 (.t 0)) .unit,
  .p (.mv 11 (.t 3)) .unit,
  .p (.iadr 12 1 (.t 10) (.t 11)) .unit,
  .p (.load 13 (.t 12) 1 false) .unit,
  .p (.callB 14 n_spec_NameOk [((.t 13), 0)]) .unit,
  .p (.un 15 .not (.t 14)) .unit,
  .p (.mv 16 (.t 15)) .unit,
  .g 16 false (some 17) (.mv 17 (.t 3)) .unit,
  .g 16 false (some 18) (.bin 18 false .gtr (.t 17) (.c (.int .i64 0))) .unit,
  .g 16 false (some 19) (.mv 19 (.t 18)) .unit,
  .g 19 true (some 20) (.mv 20 (.t 0)) .unit,
  .g 19 true (some 21) (.mv 21 (.t 3)) .unit,
  .g 19 true (some 22) (.bin 22 false .sub (.t 21) (.c (.int .i64 1))) .unit,
  .g 19 true (some 23) (.iadr 23 1 (.t 20) (.t 22)) .unit,
  .g 19 true (some 24) (.load 24 (.t 23) 1 false) .unit,
  .g 19 true (some 25) (.mv 25 (.t 0)) .unit,
  .g 19 true (some 26) (.mv 26 (.t 3)) .unit,
  .g 19 true (some 27) (.iadr 27 1 (.t 25) (.t 26)) .unit,
  .g 19 true (some 28) (.load 28 (.t 27) 1 false) .unit,
  .g 19 true (some 29) (.bin 29 false .geq (.t 24) (.t 28)) .unit,
  .g 16 false (some 30) (.pick 30 (.t 19) (.t 29) (.c (.bool false))) .unit,
  .p (.pick 31 (.t 16) (.c (.bool true)) (.t 30)) .unit]))
 (.cond (.t 31) (.seq (.reg none [.p (.mv 2 (.c (.bool false))) .unit])
 .ret) .skip)))
 (.reg none [.p (.mv 8 (.t 3)) .unit,
  .p (.bin 9 false .add (.t 8) (.c (.int .i64 1))) .unit,
  .p (.mv 3 (.t 9)) .unit])))
noncomputable def L_spec_l17Names_1 : Nat → (List (List UInt8)) × Int → Option ((Unit) ⊕ (Bool)) := evL [fn_spec_NameOk] (finT [.t 2] [] [.cell .bool]) 0 ⟨[(0, true), (3, false)], [.cell (.sl false .str), .cell (.int .i64)]⟩ ⟨[], []⟩ B_spec_l17Names_1
def F_spec_l17Names : TF := ⟨(.seq (.reg none [.p (.mv 2 (.c (.bool false))) .unit])
 (.seq (.seq (.reg none [.p (.mv 3 (.c (.int .i64 0))) .unit])
 (.jl 0 ⟨[(0, true), (3, false)], [.cell (.sl false .str), .cell (.int .i64)]⟩ ⟨[], []⟩ B_spec_l17Names_1))
 (.seq (.reg none [.p (.mv 2 (.c (.bool true))) .unit])
 .ret))),
 32, 1, [.t 2]⟩
theorem m_spec_l17Names : mH Try.prog 83 [] = some (F_spec_l17Names.code.x, F_spec_l17Names.N, F_spec_l17Names.np, F_spec_l17Names.res) := by kernel_rfl
noncomputable def T_spec_l17Names : List (List UInt8) → Option (Bool) := evF [fn_spec_NameOk] F_spec_l17Names [.cell (.sl false .str)] [] [.cell .bool] []
noncomputable def fn_spec_l17Names : TFn := ⟨83, [.cell (.sl false .str)], [], [.cell .bool], [], T_spec_l17Names⟩
theorem ok_spec_l17Names : FnOk Try.prog fn_spec_l17Names := evF_ok mixed (allOk_cons ok_spec_NameOk allOk_nil) m_spec_l17Names (by decide)
def F_spec_AskOk : TF := ⟨(.seq (.reg none [.p (.box 1 (.t 0)) .unit,
  .p (.mv 2 (.c (.bool false))) .unit])
 (.seq (.seq (.reg none [.p (.fadr 3 (.t 1) 2) .unit,
  .p (.load 4 (.t 3) 1 false) .unit,
  .p (.callB 5 n_spec_l17Names [((.t 4), 0)]) .unit,
  .p (.un 6 .not (.t 5)) .unit])
 (.cond (.t 6) (.seq (.reg none [.p (.mv 2 (.c (.bool false))) .unit])
 .ret) .skip))
 (.seq (.seq (.reg none [.p (.fadr 7 (.t 1) 0) .unit,
  .p (.load 8 (.t 7) 1 false) .unit])
 (.block 0 (.seq (.reg none [.p (.bin 10 false .eql (.t 8) (.c (.int .i64 1))) .unit,
  .p (.mv 9 (.t 10)) .unit])
 (.cond (.t 9) (.seq (.reg none [.p (.fadr 11 (.t 1) 1) .unit,
  .p (.load 12 (.t 11) 1 false) .unit,
  .p (.callB 13 n_spec_NameOk [((.t 12), 0)]) .unit,
  .p (.mv 14 (.t 13)) .unit,
  .g 14 true (some 15) (.fadr 15 (.t 1) 2) .unit,
  .g 14 true (some 16) (.load 16 (.t 15) 1 false) .unit,
  .g 14 true (some 17) (.lenB 17 (.t 16)) .unit,
  .g 14 true (some 18) (.bin 18 false .eql (.t 17) (.c (.int .i64 0))) .unit,
  .p (.pick 19 (.t 14) (.t 18) (.c (.bool false))) .unit,
  .p (.mv 20 (.t 19)) .unit,
  .g 20 true (some 21) (.fadr 21 (.t 1) 3) .unit,
  .g 20 true (some 22) (.load 22 (.t 21) 1 false) .unit,
  .g 20 true (some 23) (.bin 23 false .eql (.t 22) (.c (.int .i64 0))) .unit,
  .p (.pick 24 (.t 20) (.t 23) (.c (.bool false))) .unit,
  .p (.mv 25 (.t 24)) .unit,
  .g 25 true (some 26) (.fadr 26 (.t 1) 4) .unit,
  .g 25 true (some 27) (.load 27 (.t 26) 1 false) .unit,
  .g 25 true (some 28) (.bin 28 false .eql (.t 27) (.c (.string (ba [])))) .unit,
  .p (.pick 29 (.t 25) (.t 28) (.c (.bool false))) .unit,
  .p (.mv 2 (.t 29)) .unit])
 .ret) (.seq (.join ⟨[(1, false), (8, false), (30, false)], [.box (.pair (.int .i64) (.pair .str (.pair (.sl false .str) (.pair (.int .i64) .str)))), .cell (.int .i64), .cell .bool]⟩ (.seq (.reg none [.p (.bin 31 false .eql (.t 8) (.c (.int .i64 2))) .unit,
  .p (.mv 30 (.t 31)) .unit])
 (.cond (.t 30) .skip (.reg none [.p (.bin 32 false .eql (.t 8) (.c (.int .i64 3))) .unit,
  .p (.mv 30 (.t 32)) .unit]))))
 (.cond (.t 30) (.seq (.reg none [.p (.fadr 33 (.t 1) 1) .unit,
  .p (.load 34 (.t 33) 1 false) .unit,
  .p (.bin 35 false .eql (.t 34) (.c (.string (ba [])))) .unit,
  .p (.mv 36 (.t 35)) .unit,
  .g 36 true (some 37) (.fadr 37 (.t 1) 2) .unit,
  .g 36 true (some 38) (.load 38 (.t 37) 1 false) .unit,
  .g 36 true (some 39) (.lenB 39 (.t 38)) .unit,
  .g 36 true (some 40) (.bin 40 false .eql (.t 39) (.c (.int .i64 1))) .unit,
  .p (.pick 41 (.t 36) (.t 40) (.c (.bool false))) .unit,
  .p (.mv 42 (.t 41)) .unit,
  .g 42 true (some 43) (.fadr 43 (.t 1) 3) .unit,
  .g 42 true (some 44) (.load 44 (.t 43) 1 false) .unit,
  .g 42 true (some 45) (.bin 45 false .eql (.t 44) (.c (.int .i64 0))) .unit,
  .p (.pick 46 (.t 42) (.t 45) (.c (.bool false))) .unit,
  .p (.mv 47 (.t 46)) .unit,
  .g 47 true (some 48) (.fadr 48 (.t 1) 4) .unit,
  .g 47 true (some 49) (.load 49 (.t 48) 1 false) .unit,
  .g 47 true (some 50) (.bin 50 false .eql (.t 49) (.c (.string (ba [])))) .unit,
  .p (.pick 51 (.t 47) (.t 50) (.c (.bool false))) .unit,
  .p (.mv 2 (.t 51)) .unit])
 .ret) (.seq (.reg none [.p (.bin 53 false .eql (.t 8) (.c (.int .i64 4))) .unit,
  .p (.mv 52 (.t 53)) .unit])
 (.cond (.t 52) (.seq (.reg none [.p (.fadr 54 (.t 1) 1) .unit,
  .p (.load 55 (.t 54) 1 false) .unit,
  .p (.bin 56 false .eql (.t 55) (.c (.string (ba [])))) .unit,
  .p (.mv 57 (.t 56)) .unit,
  .g 57 true (some 58) (.fadr 58 (.t 1) 2) .unit,
  .g 57 true (some 59) (.load 59 (.t 58) 1 false) .unit,
  .g 57 true (some 60) (.lenB 60 (.t 59)) .unit,
  .g 57 true (some 61) (.callB 61 n_spec_l01In [((.t 60), 0), ((.c (.int .i64 1)), 0), ((.c (.int .i64 3)), 0)]) .unit,
  .p (.pick 62 (.t 57) (.t 61) (.c (.bool false))) .unit,
  .p (.mv 63 (.t 62)) .unit,
  .g 63 true (some 64) (.fadr 64 (.t 1) 3) .unit,
  .g 63 true (some 65) (.load 65 (.t 64) 1 false) .unit,
  .g 63 true (some 66) (.callB 66 n_spec_l01In [((.t 65), 0), ((.c (.int .i64 1)), 0), ((.c (.int .i64 2)), 0)]) .unit,
  .p (.pick 67 (.t 63) (.t 66) (.c (.bool false))) .unit,
  .p (.mv 68 (.t 67)) .unit,
  .g 68 true (some 69) (.fadr 69 (.t 1) 4) .unit,
  .g 68 true (some 70) (.load 70 (.t 69) 1 false) .unit,
  .g 68 true (some 71) (.lenS 71 (.t 70)) .unit,
  .g 68 true (some 72) (.bin 72 false .leq (.t 71) (.c (.int .i64 20))) .unit,
  .p (.pick 73 (.t 68) (.t 72) (.c (.bool false))) .unit,
  .p (.mv 2 (.t 73)) .unit])
 .ret) (.seq (.reg none [.p (.bin 75 false .eql (.t 8) (.c (.int .i64 5))) .unit,
  .p (.mv 74 (.t 75)) .unit])
 (.cond (.t 74) (.seq (.reg none [.p (.fadr 76 (.t 1) 1) .unit,
  .p (.load 77 (.t 76) 1 false) .unit,
  .p (.bin 78 false .eql (.t 77) (.c (.string (ba [])))) .unit,
  .p (.mv 79 (.t 78)) .unit,
  .g 79 true (some 80) (.fadr 80 (.t 1) 2) .unit,
  .g 79 true (some 81) (.load 81 (.t 80) 1 false) .unit,
  .g 79 true (some 82) (.lenB 82 (.t 81)) .unit,
  .g 79 true (some 83) (.bin 83 false .eql (.t 82) (.c (.int .i64 0))) .unit,
  .p (.pick 84 (.t 79) (.t 83) (.c (.bool false))) .unit,
  .p (.mv 85 (.t 84)) .unit,
  .g 85 true (some 86) (.fadr 86 (.t 1) 3) .unit,
  .g 85 true (some 87) (.load 87 (.t 86) 1 false) .unit,
  .g 85 true (some 88) (.bin 88 false .eql (.t 87) (.c (.int .i64 0))) .unit,
  .p (.pick 89 (.t 85) (.t 88) (.c (.bool false))) .unit,
  .p (.mv 90 (.t 89)) .unit,
  .g 90 true (some 91) (.fadr 91 (.t 1) 4) .unit,
  .g 90 true (some 92) (.load 92 (.t 91) 1 false) .unit,
  .g 90 true (some 93) (.bin 93 false .eql (.t 92) (.c (.string (ba [])))) .unit,
  .p (.pick 94 (.t 90) (.t 93) (.c (.bool false))) .unit,
  .p (.mv 2 (.t 94)) .unit])
 .ret) .skip))))))))))
 (.seq (.reg none [.p (.mv 2 (.c (.bool false))) .unit])
 .ret)))),
 95, 1, [.t 2]⟩
theorem m_spec_AskOk : mH Try.prog 29 [] = some (F_spec_AskOk.code.x, F_spec_AskOk.N, F_spec_AskOk.np, F_spec_AskOk.res) := by kernel_rfl
noncomputable def T_spec_AskOk : Int × List UInt8 × List (List UInt8) × Int × List UInt8 → Option (Bool) := evF [fn_spec_l17Names, fn_spec_NameOk, fn_spec_l01In] F_spec_AskOk [.agg (.pair (.int .i64) (.pair .str (.pair (.sl false .str) (.pair (.int .i64) .str))))] [] [.cell .bool] []
noncomputable def fn_spec_AskOk : TFn := ⟨29, [.agg (.pair (.int .i64) (.pair .str (.pair (.sl false .str) (.pair (.int .i64) .str))))], [], [.cell .bool], [], T_spec_AskOk⟩
theorem ok_spec_AskOk : FnOk Try.prog fn_spec_AskOk := evF_ok mixed (allOk_cons ok_spec_l17Names (allOk_cons ok_spec_NameOk (allOk_cons ok_spec_l01In allOk_nil))) m_spec_AskOk (by decide)
def F_spec_l05Byte : TF := ⟨(.seq (.reg none [.p (.mv 2 (.c (.string (ba [])))) .unit])
 (.seq (.reg none [.p (.mv 3 (.t 0)) .unit,
  .p (.cvi 4 .u8 .i64 (.t 3)) .unit,
  .p (.bldS 5 1 [(.lit (.int .u8 0))] [⟨0, 1, (.t 4)⟩]) (.int .u8),
  .p (.b2s 6 (.t 5)) .unit,
  .p (.mv 2 (.t 6)) .unit])
 .ret)),
 7, 1, [.t 2]⟩
theorem m_spec_l05Byte : mH Try.prog 110 [] = some (F_spec_l05Byte.code.x, F_spec_l05Byte.N, F_spec_l05Byte.np, F_spec_l05Byte.res) := by kernel_rfl
noncomputable def T_spec_l05Byte : Int → Option (List UInt8) := evF [] F_spec_l05Byte [.cell (.int .i64)] [] [.cell .str] []
noncomputable def fn_spec_l05Byte : TFn := ⟨110, [.cell (.int .i64)], [], [.cell .str], [], T_spec_l05Byte⟩
theorem ok_spec_l05Byte : FnOk Try.prog fn_spec_l05Byte := evF_ok mixed allOk_nil m_spec_l05Byte (by decide)
def B_spec_l01Var_1 : TC := (.seq (.seq (.reg none [.p (.mv 5 (.t 0)) .unit,
  .p (.bin 6 false .gtr (.t 5) (.c (.int .i64 127))) .unit])
 (.cond (.t 6) .skip (.exit 0)))
 (.block 1 (.seq (.reg none [.p (.mvT 7 3) .unit,
  .p (.mv 8 (.t 0)) .unit,
  .p (.bin 9 false .rem (.t 8) (.c (.int .i64 128))) .unit,
  .p (.bin 10 false .add (.t 9) (.c (.int .i64 128))) .unit,
  .p (.cvi 11 .u8 .i64 (.t 10)) .unit,
  .p (.bldS 12 1 [(.lit (.int .u8 0))] [⟨0, 1, (.t 11)⟩]) (.int .u8),
  .p (.app 13 1 1 (.t 7) (.t 12)) (.int .u8),
  .p (.mvT 3 13) .unit])
 (.reg none [.p (.mv 14 (.t 0)) .unit,
  .p (.bin 15 false .quo (.t 14) (.c (.int .i64 128))) .unit,
  .p (.mv 0 (.t 15)) .unit]))))
noncomputable def L_spec_l01Var_1 : Nat → (Int) × List (Int) → Option (((Int) × List (Int)) ⊕ (List UInt8)) := evL [] (finT [.t 2] [] [.cell .str]) 0 ⟨[(0, false), (3, false)], [.cell (.int .i64), .cell (.sl true (.int .u8))]⟩ ⟨[(0, false), (3, false)], [.cell (.int .i64), .cell (.sl true (.int .u8))]⟩ B_spec_l01Var_1
def F_spec_l01Var : TF := ⟨(.seq (.reg none [.p (.mv 2 (.c (.string (ba [])))) .unit])
 (.seq (.reg none [.p (.bldS 4 0 [(.lit (.int .u8 0))] []) (.int .u8),
  .p (.mvT 3 4) .unit])
 (.seq (.jl 0 ⟨[(0, false), (3, false)], [.cell (.int .i64), .cell (.sl true (.int .u8))]⟩ ⟨[(0, false), (3, false)], [.cell (.int .i64), .cell (.sl true (.int .u8))]⟩ B_spec_l01Var_1)
 (.seq (.reg none [.p (.mvT 16 3) .unit,
  .p (.mv 17 (.t 0)) .unit,
  .p (.cvi 18 .u8 .i64 (.t 17)) .unit,
  .p (.bldS 19 1 [(.lit (.int .u8 0))] [⟨0, 1, (.t 18)⟩]) (.int .u8),
  .p (.app 20 1 1 (.t 16) (.t 19)) (.int .u8),
  .p (.b2s 21 (.t 20)) .unit,
  .p (.mv 2 (.t 21)) .unit])
 .ret)))),
 22, 1, [.t 2]⟩
theorem m_spec_l01Var : mH Try.prog 112 [(1, 1, .t), (3, 0, .t), (3, 7, .t), (5, 0, .t)] = some (F_spec_l01Var.code.x, F_spec_l01Var.N, F_spec_l01Var.np, F_spec_l01Var.res) := by kernel_rfl
noncomputable def T_spec_l01Var : Int → Option (List UInt8) := evF [] F_spec_l01Var [.cell (.int .i64)] [] [.cell .str] []
noncomputable def fn_spec_l01Var : TFn := ⟨112, [.cell (.int .i64)], [], [.cell .str], [], T_spec_l01Var⟩
theorem ok_spec_l01Var : FnOk Try.prog fn_spec_l01Var := evF_ok mixed allOk_nil m_spec_l01Var (by decide)
def F_spec_l05Short : TF := ⟨(.seq (.reg none [.p (.mv 2 (.c (.string (ba [])))) .unit])
 (.seq (.reg none [.p (.mv 3 (.t 0)) .unit,
  .p (.lenS 4 (.t 3)) .unit,
  .p (.callB 5 n_spec_l01Var [((.t 4), 0)]) .unit,
  .p (.mv 6 (.t 0)) .unit,
  .p (.bin 7 false .add (.t 5) (.t 6)) .unit,
  .p (.mv 2 (.t 7)) .unit])
 .ret)),
 8, 1, [.t 2]⟩
theorem m_spec_l05Short : mH Try.prog 111 [] = some (F_spec_l05Short.code.x, F_spec_l05Short.N, F_spec_l05Short.np, F_spec_l05Short.res) := by kernel_rfl
noncomputable def T_spec_l05Short : List UInt8 → Option (List UInt8) := evF [fn_spec_l01Var] F_spec_l05Short [.cell .str] [] [.cell .str] []
noncomputable def fn_spec_l05Short : TFn := ⟨111, [.cell .str], [], [.cell .str], [], T_spec_l05Short⟩
theorem ok_spec_l05Short : FnOk Try.prog fn_spec_l05Short := evF_ok mixed (allOk_cons ok_spec_l01Var allOk_nil) m_spec_l05Short (by decide)
def B_spec_AskText_1 : TC := (.seq (.seq (.reg none [.p (.mv 25 (.t 5)) .unit,
  .p (.fadr 26 (.t 1) 2) .unit,
  .p (.load 27 (.t 26) 1 false) .unit,
  .p (.lenB 28 (.t 27)) .unit,
  .p (.bin 29 false .lss (.t 25) (.t 28)) .unit])
 (.cond (.t 29) .skip (.exit 0)))
 (.seq (.block 1 (.reg none [.p (.mv 32 (.t 4)) .unit,
  .p (.fadr 33 (.t 1) 2) .unit,
  .p (.load 34 (.t 33) 1 false) .unit,
  .p (.mv 35 (.t 5)) .unit,
  .p (.iadr 36 1 (.t 34) (.t 35)) .unit,
  .p (.load 37 (.t 36) 1 false) .unit,
  .p (.callB 38 n_spec_l05Short [((.t 37), 0)]) .unit,
  .p (.bin 39 false .add (.t 32) (.t 38)) .unit,
  .p (.mv 4 (.t 39)) .unit]))
 (.reg none [.p (.mv 30 (.t 5)) .unit,
  .p (.bin 31 false .add (.t 30) (.c (.int .i64 1))) .unit,
  .p (.mv 5 (.t 31)) .unit])))
noncomputable def L_spec_AskText_1 : Nat → (Int × List UInt8 × List (List UInt8) × Int × List UInt8) × (List UInt8) × Int → Option (((Int × List UInt8 × List (List UInt8) × Int × List UInt8) × List UInt8) ⊕ ((List UInt8) × Bool)) := evL [fn_spec_AskOk, fn_spec_l05Byte, fn_spec_l05Short, fn_spec_l01Var] (finT [.t 2, .t 3] [] [.cell .str, .cell .bool]) 0 ⟨[(1, false), (4, false), (5, false)], [.box (.pair (.int .i64) (.pair .str (.pair (.sl false .str) (.pair (.int .i64) .str)))), .cell .str, .cell (.int .i64)]⟩ ⟨[(1, false), (4, false)], [.box (.pair (.int .i64) (.pair .str (.pair (.sl false .str) (.pair (.int .i64) .str)))), .cell .str]⟩ B_spec_AskText_1
def F_spec_AskText : TF := ⟨(.seq (.reg none [.p (.box 1 (.t 0)) .unit,
  .p (.mv 2 (.c (.string (ba [])))) .unit,
  .p (.mv 3 (.c (.bool false))) .unit])
 (.seq (.seq (.reg none [.p (.load 6 (.t 1) 5 true) .unit,
  .p (.callB 7 n_spec_AskOk [((.t 6), 0)]) .unit,
  .p (.un 8 .not (.t 7)) .unit])
 (.cond (.t 8) (.seq (.reg none [.p (.mv 2 (.c (.string (ba [])))) .unit,
  .p (.mv 3 (.c (.bool false))) .unit])
 .ret) .skip))
 (.seq (.reg (some [[], [0], [1], [], [3], [4, 2], [2, 5], [], [7], [8, 5], [6, 9], [], [11], [12], [13, 9], [10, 14], [15, 14, 0, 1, 2, 3, 4, 5, 6, 7, 8, 9, 10, 11, 12, 13, 14, 15]]) [.p (.fadr 9 (.t 1) 0) .unit,
  .p (.load 10 (.t 9) 1 false) .unit,
  .p (.callB 11 n_spec_l05Byte [((.t 10), 0)]) .unit,
  .p (.fadr 12 (.t 1) 3) .unit,
  .p (.load 13 (.t 12) 1 false) .unit,
  .p (.callB 14 n_spec_l05Byte [((.t 13), 0)]) .unit,
  .p (.bin 15 false .add (.t 11) (.t 14)) .unit,
  .p (.fadr 16 (.t 1) 1) .unit,
  .p (.load 17 (.t 16) 1 false) .unit,
  .p (.callB 18 n_spec_l05Short [((.t 17), 0)]) .unit,
  .p (.bin 19 false .add (.t 15) (.t 18)) .unit,
  .p (.fadr 20 (.t 1) 2) .unit,
  .p (.load 21 (.t 20) 1 false) .unit,
  .p (.lenB 22 (.t 21)) .unit,
  .p (.callB 23 n_spec_l01Var [((.t 22), 0)]) .unit,
  .p (.bin 24 false .add (.t 19) (.t 23)) .unit,
  .p (.mv 4 (.t 24)) .unit])
 (.seq (.seq (.reg none [.p (.mv 5 (.c (.int .i64 0))) .unit])
 (.jl 0 ⟨[(1, false), (4, false), (5, false)], [.box (.pair (.int .i64) (.pair .str (.pair (.sl false .str) (.pair (.int .i64) .str)))), .cell .str, .cell (.int .i64)]⟩ ⟨[(1, false), (4, false)], [.box (.pair (.int .i64) (.pair .str (.pair (.sl false .str) (.pair (.int .i64) .str)))), .cell .str]⟩ B_spec_AskText_1))
 (.seq (.reg none [.p (.mv 40 (.t 4)) .unit,
  .p (.fadr 41 (.t 1) 4) .unit,
  .p (.load 42 (.t 41) 1 false) .unit,
  .p (.callB 43 n_spec_l05Short [((.t 42), 0)]) .unit,
  .p (.bin 44 false .add (.t 40) (.t 43)) .unit,
  .p (.mv 2 (.t 44)) .unit,
  .p (.mv 3 (.c (.bool true))) .unit])
 .ret))))),
 45, 1, [.t 2, .t 3]⟩
theorem m_spec_AskText : mH Try.prog 55 [] = some (F_spec_AskText.code.x, F_spec_AskText.N, F_spec_AskText.np, F_spec_AskText.res) := by kernel_rfl
noncomputable def T_spec_AskText : Int × List UInt8 × List (List UInt8) × Int × List UInt8 → Option ((List UInt8) × Bool) := evF [fn_spec_AskOk, fn_spec_l05Byte, fn_spec_l05Short, fn_spec_l01Var] F_spec_AskText [.agg (.pair (.int .i64) (.pair .str (.pair (.sl false .str) (.pair (.int .i64) .str))))] [] [.cell .str, .cell .bool] []
noncomputable def fn_spec_AskText : TFn := ⟨55, [.agg (.pair (.int .i64) (.pair .str (.pair (.sl false .str) (.pair (.int .i64) .str))))], [], [.cell .str, .cell .bool], [], T_spec_AskText⟩
theorem ok_spec_AskText : FnOk Try.prog fn_spec_AskText := evF_ok mixed (allOk_cons ok_spec_AskOk (allOk_cons ok_spec_l05Byte (allOk_cons ok_spec_l05Short (allOk_cons ok_spec_l01Var allOk_nil)))) m_spec_AskText (by decide)
def F_impl_inRange : TF := ⟨(.seq (.reg none [.p (.mv 6 (.c (.bool false))) .unit])
 (.seq (.reg none [.p (.mv 7 (.t 0)) .unit,
  .p (.mv 8 (.t 1)) .unit,
  .p (.bin 9 false .geq (.t 7) (.t 8)) .unit,
  .p (.mv 10 (.t 9)) .unit,
  .g 10 true (some 11) (.mv 11 (.t 0)) .unit,
  .g 10 true (some 12) (.mv 12 (.t 2)) .unit,
  .g 10 true (some 13) (.bin 13 false .leq (.t 11) (.t 12)) .unit,
  .p (.pick 14 (.t 10) (.t 13) (.c (.bool false))) .unit,
  .p (.mv 6 (.t 14)) .unit])
 .ret)),
 15, 3, [.t 6]⟩
theorem m_impl_inRange : mH Try.prog 71 [] = some (F_impl_inRange.code.x, F_impl_inRange.N, F_impl_inRange.np, F_impl_inRange.res) := by kernel_rfl
noncomputable def T_impl_inRange : (Int) × (Int) × Int → Option (Bool) := evF [] F_impl_inRange [.cell (.int .i64), .cell (.int .i64), .cell (.int .i64)] [] [.cell .bool] []
noncomputable def fn_impl_inRange : TFn := ⟨71, [.cell (.int .i64), .cell (.int .i64), .cell (.int .i64)], [], [.cell .bool], [], T_impl_inRange⟩
theorem ok_impl_inRange : FnOk Try.prog fn_impl_inRange := evF_ok mixed allOk_nil m_impl_inRange (by decide)
def B_impl_NameOk_1 : TC := (.seq (.seq (.reg none [.p (.mv 5 (.t 3)) .unit,
  .p (.mv 6 (.t 0)) .unit,
  .p (.lenS 7 (.t 6)) .unit,
  .p (.bin 8 false .lss (.t 5) (.t 7)) .unit])
 (.cond (.t 8) .skip (.exit 0)))
 (.seq (.block 1 (.seq (.join ⟨[(0, true), (3, false), (4, false)], [.cell .str, .cell (.int .i64), .cell .bool]⟩ (.reg none [.p (.mv 11 (.t 0)) .unit,
  .p (.mv 12 (.t 3)) .unit,
  .p (.idx 13 (.t 11) (.t 12)) .unit,
  .p (.bin 14 false .geq (.t 13) (.c (.int .u8 97))) .unit,
  .p (.mv 15 (.t 14)) .unit,
  .g 15 true (some 16) (.mv 16 (.t 0)) .unit,
  .g 15 true (some 17) (.mv 17 (.t 3)) .unit,
  .g 15 true (some 18) (.idx 18 (.t 16) (.t 17)) .unit,
  .g 15 true (some 19) (.bin 19 false .leq (.t 18) (.c (.int .u8 122))) .unit,
  .p (.pick 20 (.t 15) (.t 19) (.c (.bool false))) .unit,
  .p (.mv 4 (.t 20)) .unit]))
 (.seq (.join ⟨[(0, true), (3, false), (38, false)], [.cell .str, .cell (.int .i64), .cell .bool]⟩ (.reg none [.p (.mv 21 (.t 4)) .unit,
  .p (.un 22 .not (.t 21)) .unit,
  .p (.mv 23 (.t 22)) .unit,
  .g 23 true (some 24) (.mv 24 (.t 3)) .unit,
  .g 23 true (some 25) (.bin 25 false .eql (.t 24) (.c (.int .i64 0))) .unit,
  .g 23 true (some 26) (.mv 26 (.t 25)) .unit,
  .g 26 false (some 27) (.mv 27 (.t 0)) .unit,
  .g 26 false (some 28) (.mv 28 (.t 3)) .unit,
  .g 26 false (some 29) (.idx 29 (.t 27) (.t 28)) .unit,
  .g 26 false (some 30) (.bin 30 false .lss (.t 29) (.c (.int .u8 48))) .unit,
  .g 23 true (some 31) (.pick 31 (.t 26) (.c (.bool true)) (.t 30)) .unit,
  .g 23 true (some 32) (.mv 32 (.t 31)) .unit,
  .g 32 false (some 33) (.mv 33 (.t 0)) .unit,
  .g 32 false (some 34) (.mv 34 (.t 3)) .unit,
  .g 32 false (some 35) (.idx 35 (.t 33) (.t 34)) .unit,
  .g 32 false (some 36) (.bin 36 false .gtr (.t 35) (.c (.int .u8 57))) .unit,
  .g 23 true (some 37) (.pick 37 (.t 32) (.c (.bool true)) (.t 36)) .unit,
  .p (.pick 38 (.t 23) (.t 37) (.c (.bool false))) .unit]))
 (.cond (.t 38) (.seq (.reg none [.p (.mv 2 (.c (.bool false))) .unit])
 .ret) .skip))))
 (.reg none [.p (.mv 9 (.t 3)) .unit,
  .p (.bin 10 false .add (.t 9) (.c (.int .i64 1))) .unit,
  .p (.mv 3 (.t 10)) .unit])))
noncomputable def L_impl_NameOk_1 : Nat → (List UInt8) × Int → Option ((List UInt8) ⊕ (Bool)) := evL [fn_impl_inRange] (finT [.t 2] [] [.cell .bool]) 0 ⟨[(0, true), (3, false)], [.cell .str, .cell (.int .i64)]⟩ ⟨[(0, true)], [.cell .str]⟩ B_impl_NameOk_1
def F_impl_NameOk : TF := ⟨(.seq (.reg none [.p (.mv 2 (.c (.bool false))) .unit])
 (.seq (.seq (.reg none [.p (.mv 3 (.c (.int .i64 0))) .unit])
 (.jl 0 ⟨[(0, true), (3, false)], [.cell .str, .cell (.int .i64)]⟩ ⟨[(0, true)], [.cell .str]⟩ B_impl_NameOk_1))
 (.seq (.reg none [.p (.mv 39 (.t 0)) .unit,
  .p (.lenS 40 (.t 39)) .unit,
  .p (.callB 41 n_impl_inRange [((.t 40), 0), ((.c (.int .i64 1)), 0), ((.c (.int .i64 12)), 0)]) .unit,
  .p (.mv 2 (.t 41)) .unit])
 .ret))),
 42, 1, [.t 2]⟩
theorem m_impl_NameOk : mH Try.prog 76 [] = some (F_impl_NameOk.code.x, F_impl_NameOk.N, F_impl_NameOk.np, F_impl_NameOk.res) := by kernel_rfl
noncomputable def T_impl_NameOk : List UInt8 → Option (Bool) := evF [fn_impl_inRange] F_impl_NameOk [.cell .str] [] [.cell .bool] []
noncomputable def fn_impl_NameOk : TFn := ⟨76, [.cell .str], [], [.cell .bool], [], T_impl_NameOk⟩
theorem ok_impl_NameOk : FnOk Try.prog fn_impl_NameOk := evF_ok mixed (allOk_cons ok_impl_inRange allOk_nil) m_impl_NameOk (by decide)
def B_impl_areNames_1 : TC := (.seq (.reg none [.p (.bin 8 false .lss (.t 7) (.t 6)) .unit])
 (.seq (.cond (.t 8) .skip (.exit 0))
 (.seq (.block 1 (.seq (.reg none [.p (.mv 9 (.t 7)) .unit,
  .p (.iadr 10 1 (.t 5) (.t 7)) .unit,
  .p (.load 11 (.t 10) 1 false) .unit,
  .p (.mv 3 (.t 9)) .unit,
  .p (.mv 4 (.t 11)) .unit])
 (.seq (.join ⟨[(0, true), (5, false), (6, false), (7, false), (27, false)], [.cell (.sl false .str), .cell (.sl false .str), .cell (.int .i64), .cell (.int .i64), .cell .bool]⟩ (.reg none [.p (.mv 12 (.t 4)) .unit,
  .p (.callB 13 n_impl_NameOk [((.t 12), 0)]) .unit,
  .p (.un 14 .not (.t 13)) .unit,
  .p (.mv 15 (.t 14)) .unit,
  .g 15 false (some 16) (.mv 16 (.t 3)) .unit,
  .g 15 false (some 17) (.bin 17 false .gtr (.t 16) (.c (.int .i64 0))) .unit,
  .g 15 false (some 18) (.mv 18 (.t 17)) .unit,
  .g 18 true (some 19) (.mv 19 (.t 4)) .unit,
  .g 18 true (some 20) (.mv 20 (.t 0)) .unit,
  .g 18 true (some 21) (.mv 21 (.t 3)) .unit,
  .g 18 true (some 22) (.bin 22 false .sub (.t 21) (.c (.int .i64 1))) .unit,
  .g 18 true (some 23) (.iadr 23 1 (.t 20) (.t 22)) .unit,
  .g 18 true (some 24) (.load 24 (.t 23) 1 false) .unit,
  .g 18 true (some 25) (.bin 25 false .leq (.t 19) (.t 24)) .unit,
  .g 15 false (some 26) (.pick 26 (.t 18) (.t 25) (.c (.bool false))) .unit,
  .p (.pick 27 (.t 15) (.c (.bool true)) (.t 26)) .unit]))
 (.cond (.t 27) (.seq (.reg none [.p (.mv 2 (.c (.bool false))) .unit])
 .ret) .skip))))
 (.reg none [.p (.bin 28 false .add (.t 7) (.c (.int .i64 1))) .unit,
  .p (.mv 7 (.t 28)) .unit]))))
noncomputable def L_impl_areNames_1 : Nat → (List (List UInt8)) × (List (List UInt8)) × (Int) × Int → Option ((Unit) ⊕ (Bool)) := evL [fn_impl_NameOk] (finT [.t 2] [] [.cell .bool]) 0 ⟨[(0, true), (5, false), (6, false), (7, false)], [.cell (.sl false .str), .cell (.sl false .str), .cell (.int .i64), .cell (.int .i64)]⟩ ⟨[], []⟩ B_impl_areNames_1
def F_impl_areNames : TF := ⟨(.seq (.reg none [.p (.mv 2 (.c (.bool false))) .unit])
 (.seq (.seq (.reg none [.p (.mv 5 (.t 0)) .unit,
  .p (.lenB 6 (.t 5)) .unit,
  .p (.mv 7 (.c (.int .i64 0))) .unit])
 (.jl 0 ⟨[(0, true), (5, false), (6, false), (7, false)], [.cell (.sl false .str), .cell (.sl false .str), .cell (.int .i64), .cell (.int .i64)]⟩ ⟨[], []⟩ B_impl_areNames_1))
 (.seq (.reg none [.p (.mv 2 (.c (.bool true))) .unit])
 .ret))),
 29, 1, [.t 2]⟩
theorem m_impl_areNames : mH Try.prog 84 [] = some (F_impl_areNames.code.x, F_impl_areNames.N, F_impl_areNames.np, F_impl_areNames.res) := by kernel_rfl
noncomputable def T_impl_areNames : List (List UInt8) → Option (Bool) := evF [fn_impl_NameOk] F_impl_areNames [.cell (.sl false .str)] [] [.cell .bool] []
noncomputable def fn_impl_areNames : TFn := ⟨84, [.cell (.sl false .str)], [], [.cell .bool], [], T_impl_areNames⟩
theorem ok_impl_areNames : FnOk Try.prog fn_impl_areNames := evF_ok mixed (allOk_cons ok_impl_NameOk allOk_nil) m_impl_areNames (by decide)
def F_impl_isLevel : TF := ⟨(.seq (.reg none [.p (.mv 2 (.c (.bool false))) .unit])
 (.seq (.reg none [.p (.mv 3 (.t 0)) .unit,
  .p (.bin 4 false .eql (.t 3) (.c (.int .i64 1))) .unit,
  .p (.mv 5 (.t 4)) .unit,
  .g 5 false (some 6) (.mv 6 (.t 0)) .unit,
  .g 5 false (some 7) (.bin 7 false .eql (.t 6) (.c (.int .i64 2))) .unit,
  .p (.pick 8 (.t 5) (.c (.bool true)) (.t 7)) .unit,
  .p (.mv 2 (.t 8)) .unit])
 .ret)),
 9, 1, [.t 2]⟩
theorem m_impl_isLevel : mH Try.prog 85 [] = some (F_impl_isLevel.code.x, F_impl_isLevel.N, F_impl_isLevel.np, F_impl_isLevel.res) := by kernel_rfl
noncomputable def T_impl_isLevel : Int → Option (Bool) := evF [] F_impl_isLevel [.cell (.int .i64)] [] [.cell .bool] []
noncomputable def fn_impl_isLevel : TFn := ⟨85, [.cell (.int .i64)], [], [.cell .bool], [], T_impl_isLevel⟩
theorem ok_impl_isLevel : FnOk Try.prog fn_impl_isLevel := evF_ok mixed allOk_nil m_impl_isLevel (by decide)
def F_impl_AskOk : TF := ⟨(.seq (.reg none [.p (.box 1 (.t 0)) .unit,
  .p (.mv 2 (.c (.bool false))) .unit])
 (.seq (.reg none [.p (.fadr 5 (.t 1) 2) .unit,
  .p (.load 6 (.t 5) 1 false) .unit,
  .p (.lenB 7 (.t 6)) .unit,
  .p (.mv 3 (.t 7)) .unit])
 (.seq (.join ⟨[(1, false), (3, false), (4, false)], [.box (.pair (.int .i64) (.pair .str (.pair (.sl false .str) (.pair (.int .i64) .str)))), .cell (.int .i64), .cell .bool]⟩ (.reg none [.p (.fadr 8 (.t 1) 3) .unit,
  .p (.load 9 (.t 8) 1 false) .unit,
  .p (.bin 10 false .eql (.t 9) (.c (.int .i64 0))) .unit,
  .p (.mv 11 (.t 10)) .unit,
  .g 11 true (some 12) (.fadr 12 (.t 1) 4) .unit,
  .g 11 true (some 13) (.load 13 (.t 12) 1 false) .unit,
  .g 11 true (some 14) (.bin 14 false .eql (.t 13) (.c (.string (ba [])))) .unit,
  .p (.pick 15 (.t 11) (.t 14) (.c (.bool false))) .unit,
  .p (.mv 4 (.t 15)) .unit]))
 (.seq (.seq (.reg none [.p (.fadr 16 (.t 1) 0) .unit,
  .p (.load 17 (.t 16) 1 false) .unit])
 (.block 0 (.seq (.reg none [.p (.bin 19 false .eql (.t 17) (.c (.int .i64 1))) .unit,
  .p (.mv 18 (.t 19)) .unit])
 (.cond (.t 18) (.seq (.reg none [.p (.fadr 20 (.t 1) 1) .unit,
  .p (.load 21 (.t 20) 1 false) .unit,
  .p (.callB 22 n_impl_NameOk [((.t 21), 0)]) .unit,
  .p (.mv 23 (.t 22)) .unit,
  .g 23 true (some 24) (.mv 24 (.t 3)) .unit,
  .g 23 true (some 25) (.bin 25 false .eql (.t 24) (.c (.int .i64 0))) .unit,
  .p (.pick 26 (.t 23) (.t 25) (.c (.bool false))) .unit,
  .p (.mv 27 (.t 26)) .unit,
  .g 27 true (some 28) (.mv 28 (.t 4)) .unit,
  .p (.pick 29 (.t 27) (.t 28) (.c (.bool false))) .unit,
  .p (.mv 2 (.t 29)) .unit])
 .ret) (.seq (.join ⟨[(1, false), (3, false), (4, false), (17, false), (30, false)], [.box (.pair (.int .i64) (.pair .str (.pair (.sl false .str) (.pair (.int .i64) .str)))), .cell (.int .i64), .cell .bool, .cell (.int .i64), .cell .bool]⟩ (.seq (.reg none [.p (.bin 31 false .eql (.t 17) (.c (.int .i64 2))) .unit,
  .p (.mv 30 (.t 31)) .unit])
 (.cond (.t 30) .skip (.reg none [.p (.bin 32 false .eql (.t 17) (.c (.int .i64 3))) .unit,
  .p (.mv 30 (.t 32)) .unit]))))
 (.cond (.t 30) (.seq (.reg none [.p (.fadr 33 (.t 1) 1) .unit,
  .p (.load 34 (.t 33) 1 false) .unit,
  .p (.bin 35 false .eql (.t 34) (.c (.string (ba [])))) .unit,
  .p (.mv 36 (.t 35)) .unit,
  .g 36 true (some 37) (.mv 37 (.t 3)) .unit,
  .g 36 true (some 38) (.bin 38 false .eql (.t 37) (.c (.int .i64 1))) .unit,
  .p (.pick 39 (.t 36) (.t 38) (.c (.bool false))) .unit,
  .p (.mv 40 (.t 39)) .unit,
  .g 40 true (some 41) (.fadr 41 (.t 1) 2) .unit,
  .g 40 true (some 42) (.load 42 (.t 41) 1 false) .unit,
  .g 40 true (some 43) (.callB 43 n_impl_areNames [((.t 42), 0)]) .unit,
  .p (.pick 44 (.t 40) (.t 43) (.c (.bool false))) .unit,
  .p (.mv 45 (.t 44)) .unit,
  .g 45 true (some 46) (.mv 46 (.t 4)) .unit,
  .p (.pick 47 (.t 45) (.t 46) (.c (.bool false))) .unit,
  .p (.mv 2 (.t 47)) .unit])
 .ret) (.seq (.reg none [.p (.bin 49 false .eql (.t 17) (.c (.int .i64 4))) .unit,
  .p (.mv 48 (.t 49)) .unit])
 (.cond (.t 48) (.seq (.reg none [.p (.fadr 50 (.t 1) 1) .unit,
  .p (.load 51 (.t 50) 1 false) .unit,
  .p (.bin 52 false .eql (.t 51) (.c (.string (ba [])))) .unit,
  .p (.mv 53 (.t 52)) .unit,
  .g 53 true (some 54) (.mv 54 (.t 3)) .unit,
  .g 53 true (some 55) (.callB 55 n_impl_inRange [((.t 54), 0), ((.c (.int .i64 1)), 0), ((.c (.int .i64 3)), 0)]) .unit,
  .p (.pick 56 (.t 53) (.t 55) (.c (.bool false))) .unit,
  .p (.mv 57 (.t 56)) .unit,
  .g 57 true (some 58) (.fadr 58 (.t 1) 2) .unit,
  .g 57 true (some 59) (.load 59 (.t 58) 1 false) .unit,
  .g 57 true (some 60) (.callB 60 n_impl_areNames [((.t 59), 0)]) .unit,
  .p (.pick 61 (.t 57) (.t 60) (.c (.bool false))) .unit,
  .p (.mv 62 (.t 61)) .unit,
  .g 62 true (some 63) (.fadr 63 (.t 1) 3) .unit,
  .g 62 true (some 64) (.load 64 (.t 63) 1 false) .unit,
  .g 62 true (some 65) (.callB 65 n_impl_isLevel [((.t 64), 0)]) .unit,
  .p (.pick 66 (.t 62) (.t 65) (.c (.bool false))) .unit,
  .p (.mv 67 (.t 66)) .unit,
  .g 67 true (some 68) (.fadr 68 (.t 1) 4) .unit,
  .g 67 true (some 69) (.load 69 (.t 68) 1 false) .unit,
  .g 67 true (some 70) (.lenS 70 (.t 69)) .unit,
  .g 67 true (some 71) (.bin 71 false .leq (.t 70) (.c (.int .i64 20))) .unit,
  .p (.pick 72 (.t 67) (.t 71) (.c (.bool false))) .unit,
  .p (.mv 2 (.t 72)) .unit])
 .ret) (.seq (.reg none [.p (.bin 74 false .eql (.t 17) (.c (.int .i64 5))) .unit,
  .p (.mv 73 (.t 74)) .unit])
 (.cond (.t 73) (.seq (.reg none [.p (.fadr 75 (.t 1) 1) .unit,
  .p (.load 76 (.t 75) 1 false) .unit,
  .p (.bin 77 false .eql (.t 76) (.c (.string (ba [])))) .unit,
  .p (.mv 78 (.t 77)) .unit,
  .g 78 true (some 79) (.mv 79 (.t 3)) .unit,
  .g 78 true (some 80) (.bin 80 false .eql (.t 79) (.c (.int .i64 0))) .unit,
  .p (.pick 81 (.t 78) (.t 80) (.c (.bool false))) .unit,
  .p (.mv 82 (.t 81)) .unit,
  .g 82 true (some 83) (.mv 83 (.t 4)) .unit,
  .p (.pick 84 (.t 82) (.t 83) (.c (.bool false))) .unit,
  .p (.mv 2 (.t 84)) .unit])
 .ret) .skip))))))))))
 (.seq (.reg none [.p (.mv 2 (.c (.bool false))) .unit])
 .ret))))),
 85, 1, [.t 2]⟩
theorem m_impl_AskOk : mH Try.prog 31 [] = some (F_impl_AskOk.code.x, F_impl_AskOk.N, F_impl_AskOk.np, F_impl_AskOk.res) := by kernel_rfl
noncomputable def T_impl_AskOk : Int × List UInt8 × List (List UInt8) × Int × List UInt8 → Option (Bool) := evF [fn_impl_NameOk, fn_impl_areNames, fn_impl_inRange, fn_impl_isLevel] F_impl_AskOk [.agg (.pair (.int .i64) (.pair .str (.pair (.sl false .str) (.pair (.int .i64) .str))))] [] [.cell .bool] []
noncomputable def fn_impl_AskOk : TFn := ⟨31, [.agg (.pair (.int .i64) (.pair .str (.pair (.sl false .str) (.pair (.int .i64) .str))))], [], [.cell .bool], [], T_impl_AskOk⟩
theorem ok_impl_AskOk : FnOk Try.prog fn_impl_AskOk := evF_ok mixed (allOk_cons ok_impl_NameOk (allOk_cons ok_impl_areNames (allOk_cons ok_impl_inRange (allOk_cons ok_impl_isLevel allOk_nil)))) m_impl_AskOk (by decide)
def B_impl_octets_1 : TC := (.seq (.reg none [.p (.bin 9 false .lss (.t 8) (.t 7)) .unit])
 (.seq (.cond (.t 9) .skip (.exit 0))
 (.seq (.block 1 (.seq (.reg none [.p (.iadr 10 1 (.t 6) (.t 8)) .unit,
  .p (.load 11 (.t 10) 1 false) .unit,
  .p (.mv 5 (.t 11)) .unit])
 (.reg none [.p (.mvT 12 3) .unit,
  .p (.mv 13 (.t 5)) .unit,
  .p (.cvi 14 .u8 .i64 (.t 13)) .unit,
  .p (.bldS 15 1 [(.lit (.int .u8 0))] [⟨0, 1, (.t 14)⟩]) (.int .u8),
  .p (.app 16 1 1 (.t 12) (.t 15)) (.int .u8),
  .p (.mvT 3 16) .unit])))
 (.reg none [.p (.bin 17 false .add (.t 8) (.c (.int .i64 1))) .unit,
  .p (.mv 8 (.t 17)) .unit]))))
noncomputable def L_impl_octets_1 : Nat → (List (Int)) × (List (Int)) × (Int) × Int → Option ((List (Int)) ⊕ (List UInt8)) := evL [] (finT [.t 2] [] [.cell .str]) 0 ⟨[(3, false), (6, false), (7, false), (8, false)], [.cell (.sl true (.int .u8)), .cell (.sl false (.int .i64)), .cell (.int .i64), .cell (.int .i64)]⟩ ⟨[(3, false)], [.cell (.sl true (.int .u8))]⟩ B_impl_octets_1
def F_impl_octets : TF := ⟨(.seq (.reg none [.p (.mv 2 (.c (.string (ba [])))) .unit])
 (.seq (.reg none [.p (.mvN 3 1) .unit])
 (.seq (.seq (.reg none [.p (.mv 6 (.t 0)) .unit,
  .p (.lenB 7 (.t 6)) .unit,
  .p (.mv 8 (.c (.int .i64 0))) .unit])
 (.jl 0 ⟨[(3, false), (6, false), (7, false), (8, false)], [.cell (.sl true (.int .u8)), .cell (.sl false (.int .i64)), .cell (.int .i64), .cell (.int .i64)]⟩ ⟨[(3, false)], [.cell (.sl true (.int .u8))]⟩ B_impl_octets_1))
 (.seq (.reg none [.p (.mvT 18 3) .unit,
  .p (.b2s 19 (.t 18)) .unit,
  .p (.mv 2 (.t 19)) .unit])
 .ret)))),
 20, 1, [.t 2]⟩
theorem m_impl_octets : mH Try.prog 113 [(5, 0, .t), (5, 5, .t), (7, 0, .t)] = some (F_impl_octets.code.x, F_impl_octets.N, F_impl_octets.np, F_impl_octets.res) := by kernel_rfl
noncomputable def T_impl_octets : List (Int) → Option (List UInt8) := evF [] F_impl_octets [.cell (.sl false (.int .i64))] [] [.cell .str] []
noncomputable def fn_impl_octets : TFn := ⟨113, [.cell (.sl false (.int .i64))], [], [.cell .str], [], T_impl_octets⟩
theorem ok_impl_octets : FnOk Try.prog fn_impl_octets := evF_ok mixed allOk_nil m_impl_octets (by decide)
def B_impl_varText_1 : TC := (.seq (.seq (.reg none [.p (.mv 4 (.t 0)) .unit,
  .p (.bin 5 false .gtr (.t 4) (.c (.int .i64 127))) .unit])
 (.cond (.t 5) .skip (.exit 0)))
 (.block 1 (.seq (.reg none [.p (.mvT 6 3) .unit,
  .p (.mv 7 (.t 0)) .unit,
  .p (.bin 8 false .rem (.t 7) (.c (.int .i64 128))) .unit,
  .p (.bin 9 false .add (.c (.int .i64 128)) (.t 8)) .unit,
  .p (.cvi 10 .u8 .i64 (.t 9)) .unit,
  .p (.bldS 11 1 [(.lit (.int .u8 0))] [⟨0, 1, (.t 10)⟩]) (.int .u8),
  .p (.app 12 1 1 (.t 6) (.t 11)) (.int .u8),
  .p (.mvT 3 12) .unit])
 (.reg none [.p (.mv 13 (.t 0)) .unit,
  .p (.bin 14 false .quo (.t 13) (.c (.int .i64 128))) .unit,
  .p (.mv 0 (.t 14)) .unit]))))
noncomputable def L_impl_varText_1 : Nat → (Int) × List (Int) → Option (((Int) × List (Int)) ⊕ (List UInt8)) := evL [] (finT [.t 2] [] [.cell .str]) 0 ⟨[(0, false), (3, false)], [.cell (.int .i64), .cell (.sl true (.int .u8))]⟩ ⟨[(0, false), (3, false)], [.cell (.int .i64), .cell (.sl true (.int .u8))]⟩ B_impl_varText_1
def F_impl_varText : TF := ⟨(.seq (.reg none [.p (.mv 2 (.c (.string (ba [])))) .unit])
 (.seq (.reg none [.p (.mvN 3 1) .unit])
 (.seq (.jl 0 ⟨[(0, false), (3, false)], [.cell (.int .i64), .cell (.sl true (.int .u8))]⟩ ⟨[(0, false), (3, false)], [.cell (.int .i64), .cell (.sl true (.int .u8))]⟩ B_impl_varText_1)
 (.seq (.reg none [.p (.mvT 15 3) .unit,
  .p (.mv 16 (.t 0)) .unit,
  .p (.cvi 17 .u8 .i64 (.t 16)) .unit,
  .p (.bldS 18 1 [(.lit (.int .u8 0))] [⟨0, 1, (.t 17)⟩]) (.int .u8),
  .p (.app 19 1 1 (.t 15) (.t 18)) (.int .u8),
  .p (.b2s 20 (.t 19)) .unit,
  .p (.mv 2 (.t 20)) .unit])
 .ret)))),
 21, 1, [.t 2]⟩
theorem m_impl_varText : mH Try.prog 132 [(3, 0, .t), (3, 7, .t), (5, 0, .t)] = some (F_impl_varText.code.x, F_impl_varText.N, F_impl_varText.np, F_impl_varText.res) := by kernel_rfl
noncomputable def T_impl_varText : Int → Option (List UInt8) := evF [] F_impl_varText [.cell (.int .i64)] [] [.cell .str] []
noncomputable def fn_impl_varText : TFn := ⟨132, [.cell (.int .i64)], [], [.cell .str], [], T_impl_varText⟩
theorem ok_impl_varText : FnOk Try.prog fn_impl_varText := evF_ok mixed allOk_nil m_impl_varText (by decide)
def F_impl_shortText : TF := ⟨(.seq (.reg none [.p (.mv 2 (.c (.string (ba [])))) .unit])
 (.seq (.reg none [.p (.mv 3 (.t 0)) .unit,
  .p (.lenS 4 (.t 3)) .unit,
  .p (.callB 5 n_impl_varText [((.t 4), 0)]) .unit,
  .p (.mv 6 (.t 0)) .unit,
  .p (.bin 7 false .add (.t 5) (.t 6)) .unit,
  .p (.mv 2 (.t 7)) .unit])
 .ret)),
 8, 1, [.t 2]⟩
theorem m_impl_shortText : mH Try.prog 114 [] = some (F_impl_shortText.code.x, F_impl_shortText.N, F_impl_shortText.np, F_impl_shortText.res) := by kernel_rfl
noncomputable def T_impl_shortText : List UInt8 → Option (List UInt8) := evF [fn_impl_varText] F_impl_shortText [.cell .str] [] [.cell .str] []
noncomputable def fn_impl_shortText : TFn := ⟨114, [.cell .str], [], [.cell .str], [], T_impl_shortText⟩
theorem ok_impl_shortText : FnOk Try.prog fn_impl_shortText := evF_ok mixed (allOk_cons ok_impl_varText allOk_nil) m_impl_shortText (by decide)
def B_impl_namesText_1 : TC := (.seq (.reg none [.p (.bin 13 false .lss (.t 12) (.t 11)) .unit])
 (.seq (.cond (.t 13) .skip (.exit 0))
 (.seq (.block 1 (.seq (.reg none [.p (.iadr 14 1 (.t 10) (.t 12)) .unit,
  .p (.load 15 (.t 14) 1 false) .unit,
  .p (.mv 5 (.t 15)) .unit])
 (.reg none [.p (.mv 16 (.t 5)) .unit,
  .p (.callB 17 n_impl_shortText [((.t 16), 0)]) .unit,
  .p (.callM 18 n___strings_Builder__WriteString [] (.tmp 3) [((.t 17), 0)]) .unit])))
 (.reg none [.p (.bin 19 false .add (.t 12) (.c (.int .i64 1))) .unit,
  .p (.mv 12 (.t 19)) .unit]))))
noncomputable def L_impl_namesText_1 : Nat → (List UInt8) × (List (List UInt8)) × (Int) × Int → Option ((List UInt8) ⊕ (List UInt8)) := evL [fn_impl_varText, fn___strings_Builder__WriteString, fn_impl_shortText, fn___strings_Builder__String] (finT [.t 2] [] [.cell .str]) 0 ⟨[(3, false), (10, false), (11, false), (12, false)], [.bld 175 5, .cell (.sl false .str), .cell (.int .i64), .cell (.int .i64)]⟩ ⟨[(3, false)], [.bld 175 5]⟩ B_impl_namesText_1
def F_impl_namesText : TF := ⟨(.seq (.reg none [.p (.mv 2 (.c (.string (ba [])))) .unit])
 (.seq (.reg none [.p (.allocB 3 175 5) .unit])
 (.seq (.reg none [.p (.mv 6 (.t 0)) .unit,
  .p (.lenB 7 (.t 6)) .unit,
  .p (.callB 8 n_impl_varText [((.t 7), 0)]) .unit,
  .p (.callM 9 n___strings_Builder__WriteString [] (.tmp 3) [((.t 8), 0)]) .unit])
 (.seq (.seq (.reg none [.p (.mv 10 (.t 0)) .unit,
  .p (.lenB 11 (.t 10)) .unit,
  .p (.mv 12 (.c (.int .i64 0))) .unit])
 (.jl 0 ⟨[(3, false), (10, false), (11, false), (12, false)], [.bld 175 5, .cell (.sl false .str), .cell (.int .i64), .cell (.int .i64)]⟩ ⟨[(3, false)], [.bld 175 5]⟩ B_impl_namesText_1))
 (.seq (.reg none [.p (.callM 20 n___strings_Builder__String [] (.tmp 3) []) .unit,
  .p (.mv 2 (.t 20)) .unit])
 .ret))))),
 21, 1, [.t 2]⟩
theorem m_impl_namesText : mH Try.prog 115 [(2, 3, (.m 0)), (6, 2, (.m 0)), (8, 0, (.m 0))] = some (F_impl_namesText.code.x, F_impl_namesText.N, F_impl_namesText.np, F_impl_namesText.res) := by kernel_rfl
noncomputable def T_impl_namesText : List (List UInt8) → Option (List UInt8) := evF [fn_impl_varText, fn___strings_Builder__WriteString, fn_impl_shortText, fn___strings_Builder__String] F_impl_namesText [.cell (.sl false .str)] [] [.cell .str] []
noncomputable def fn_impl_namesText : TFn := ⟨115, [.cell (.sl false .str)], [], [.cell .str], [], T_impl_namesText⟩
theorem ok_impl_namesText : FnOk Try.prog fn_impl_namesText := evF_ok mixed (allOk_cons ok_impl_varText (allOk_cons ok___strings_Builder__WriteString (allOk_cons ok_impl_shortText (allOk_cons ok___strings_Builder__String allOk_nil)))) m_impl_namesText (by decide)
def F_impl_AskText : TF := ⟨(.seq (.reg none [.p (.box 1 (.t 0)) .unit,
  .p (.mv 2 (.c (.string (ba [])))) .unit,
  .p (.mv 3 (.c (.bool false))) .unit])
 (.seq (.seq (.reg none [.p (.load 4 (.t 1) 5 true) .unit,
  .p (.callB 5 n_impl_AskOk [((.t 4), 0)]) .unit,
  .p (.un 6 .not (.t 5)) .unit])
 (.cond (.t 6) (.seq (.reg none [.p (.mv 2 (.c (.string (ba [])))) .unit,
  .p (.mv 3 (.c (.bool false))) .unit])
 .ret) .skip))
 (.seq (.reg (some [[], [0], [], [2], [1, 3], [4], [], [6], [7, 5], [5, 8], [], [10], [11, 8], [9, 12], [], [14], [15, 12], [13, 16], [17, 16, 0, 1, 2, 3, 4, 5, 6, 7, 8, 9, 10, 11, 12, 13, 14, 15, 16, 17], [18, 0, 1, 2, 3, 4, 5, 6, 7, 8, 9, 10, 11, 12, 13, 14, 15, 16, 17, 18]]) [.p (.fadr 7 (.t 1) 0) .unit,
  .p (.load 8 (.t 7) 1 false) .unit,
  .p (.fadr 9 (.t 1) 3) .unit,
  .p (.load 10 (.t 9) 1 false) .unit,
  .p (.bldS 11 2 [(.lit (.int .i64 0))] [⟨0, 1, (.t 8)⟩, ⟨1, 1, (.t 10)⟩]) (.int .i64),
  .p (.callB 12 n_impl_octets [((.t 11), 0)]) .unit,
  .p (.fadr 13 (.t 1) 1) .unit,
  .p (.load 14 (.t 13) 1 false) .unit,
  .p (.callB 15 n_impl_shortText [((.t 14), 0)]) .unit,
  .p (.bin 16 false .add (.t 12) (.t 15)) .unit,
  .p (.fadr 17 (.t 1) 2) .unit,
  .p (.load 18 (.t 17) 1 false) .unit,
  .p (.callB 19 n_impl_namesText [((.t 18), 0)]) .unit,
  .p (.bin 20 false .add (.t 16) (.t 19)) .unit,
  .p (.fadr 21 (.t 1) 4) .unit,
  .p (.load 22 (.t 21) 1 false) .unit,
  .p (.callB 23 n_impl_shortText [((.t 22), 0)]) .unit,
  .p (.bin 24 false .add (.t 20) (.t 23)) .unit,
  .p (.mv 2 (.t 24)) .unit,
  .p (.mv 3 (.c (.bool true))) .unit])
 .ret))),
 25, 1, [.t 2, .t 3]⟩
theorem m_impl_AskText : mH Try.prog 56 [] = some (F_impl_AskText.code.x, F_impl_AskText.N, F_impl_AskText.np, F_impl_AskText.res) := by kernel_rfl
noncomputable def T_impl_AskText : Int × List UInt8 × List (List UInt8) × Int × List UInt8 → Option ((List UInt8) × Bool) := evF [fn_impl_AskOk, fn_impl_octets, fn_impl_shortText, fn_impl_namesText] F_impl_AskText [.agg (.pair (.int .i64) (.pair .str (.pair (.sl false .str) (.pair (.int .i64) .str))))] [] [.cell .str, .cell .bool] []
noncomputable def fn_impl_AskText : TFn := ⟨56, [.agg (.pair (.int .i64) (.pair .str (.pair (.sl false .str) (.pair (.int .i64) .str))))], [], [.cell .str, .cell .bool], [], T_impl_AskText⟩
theorem ok_impl_AskText : FnOk Try.prog fn_impl_AskText := evF_ok mixed (allOk_cons ok_impl_AskOk (allOk_cons ok_impl_octets (allOk_cons ok_impl_shortText (allOk_cons ok_impl_namesText allOk_nil)))) m_impl_AskText (by decide)
def B_laws_eqStringS_1 : TC := (.seq (.seq (.reg none [.p (.mv 11 (.t 5)) .unit,
  .p (.mv 12 (.t 0)) .unit,
  .p (.lenB 13 (.t 12)) .unit,
  .p (.bin 14 false .lss (.t 11) (.t 13)) .unit])
 (.cond (.t 14) .skip (.exit 0)))
 (.seq (.block 1 (.seq (.reg (some [[], [], [0, 1], [2], [], [], [4, 5], [6], [3, 7]]) [.p (.mv 17 (.t 0)) .unit,
  .p (.mv 18 (.t 5)) .unit,
  .p (.iadr 19 1 (.t 17) (.t 18)) .unit,
  .p (.load 20 (.t 19) 1 false) .unit,
  .p (.mv 21 (.t 1)) .unit,
  .p (.mv 22 (.t 5)) .unit,
  .p (.iadr 23 1 (.t 21) (.t 22)) .unit,
  .p (.load 24 (.t 23) 1 false) .unit,
  .p (.bin 25 false .neq (.t 20) (.t 24)) .unit])
 (.cond (.t 25) (.seq (.reg none [.p (.mv 4 (.c (.bool false))) .unit])
 .ret) .skip)))
 (.reg none [.p (.mv 15 (.t 5)) .unit,
  .p (.bin 16 false .add (.t 15) (.c (.int .i64 1))) .unit,
  .p (.mv 5 (.t 16)) .unit])))
noncomputable def L_laws_eqStringS_1 : Nat → (List (List UInt8)) × (List (List UInt8)) × Int → Option ((Unit) ⊕ (Bool)) := evL [] (finT [.t 4] [] [.cell .bool]) 0 ⟨[(0, true), (1, true), (5, false)], [.cell (.sl false .str), .cell (.sl false .str), .cell (.int .i64)]⟩ ⟨[], []⟩ B_laws_eqStringS_1
def F_laws_eqStringS : TF := ⟨(.seq (.reg none [.p (.mv 4 (.c (.bool false))) .unit])
 (.seq (.seq (.reg none [.p (.mv 6 (.t 0)) .unit,
  .p (.lenB 7 (.t 6)) .unit,
  .p (.mv 8 (.t 1)) .unit,
  .p (.lenB 9 (.t 8)) .unit,
  .p (.bin 10 false .neq (.t 7) (.t 9)) .unit])
 (.cond (.t 10) (.seq (.reg none [.p (.mv 4 (.c (.bool false))) .unit])
 .ret) .skip))
 (.seq (.seq (.reg none [.p (.mv 5 (.c (.int .i64 0))) .unit])
 (.jl 0 ⟨[(0, true), (1, true), (5, false)], [.cell (.sl false .str), .cell (.sl false .str), .cell (.int .i64)]⟩ ⟨[], []⟩ B_laws_eqStringS_1))
 (.seq (.reg none [.p (.mv 4 (.c (.bool true))) .unit])
 .ret)))),
 26, 2, [.t 4]⟩
theorem m_laws_eqStringS : mH Try.prog 45 [] = some (F_laws_eqStringS.code.x, F_laws_eqStringS.N, F_laws_eqStringS.np, F_laws_eqStringS.res) := by kernel_rfl
noncomputable def T_laws_eqStringS : (List (List UInt8)) × List (List UInt8) → Option (Bool) := evF [] F_laws_eqStringS [.cell (.sl false .str), .cell (.sl false .str)] [] [.cell .bool] []
noncomputable def fn_laws_eqStringS : TFn := ⟨45, [.cell (.sl false .str), .cell (.sl false .str)], [], [.cell .bool], [], T_laws_eqStringS⟩
theorem ok_laws_eqStringS : FnOk Try.prog fn_laws_eqStringS := evF_ok mixed allOk_nil m_laws_eqStringS (by decide)
def F_laws_eqAsk : TF := ⟨(.seq (.reg none [.p (.box 2 (.t 0)) .unit,
  .p (.box 3 (.t 1)) .unit,
  .p (.mv 4 (.c (.bool false))) .unit])
 (.seq (.seq (.reg none [.p (.fadr 5 (.t 2) 0) .unit,
  .p (.load 6 (.t 5) 1 false) .unit,
  .p (.fadr 7 (.t 3) 0) .unit,
  .p (.load 8 (.t 7) 1 false) .unit,
  .p (.bin 9 false .neq (.t 6) (.t 8)) .unit])
 (.cond (.t 9) (.seq (.reg none [.p (.mv 4 (.c (.bool false))) .unit])
 .ret) .skip))
 (.seq (.seq (.reg none [.p (.fadr 10 (.t 2) 1) .unit,
  .p (.load 11 (.t 10) 1 false) .unit,
  .p (.fadr 12 (.t 3) 1) .unit,
  .p (.load 13 (.t 12) 1 false) .unit,
  .p (.bin 14 false .neq (.t 11) (.t 13)) .unit])
 (.cond (.t 14) (.seq (.reg none [.p (.mv 4 (.c (.bool false))) .unit])
 .ret) .skip))
 (.seq (.seq (.reg none [.p (.fadr 15 (.t 2) 2) .unit,
  .p (.load 16 (.t 15) 1 false) .unit,
  .p (.fadr 17 (.t 3) 2) .unit,
  .p (.load 18 (.t 17) 1 false) .unit,
  .p (.callB 19 n_laws_eqStringS [((.t 16), 0), ((.t 18), 0)]) .unit,
  .p (.un 20 .not (.t 19)) .unit])
 (.cond (.t 20) (.seq (.reg none [.p (.mv 4 (.c (.bool false))) .unit])
 .ret) .skip))
 (.seq (.seq (.reg none [.p (.fadr 21 (.t 2) 3) .unit,
  .p (.load 22 (.t 21) 1 false) .unit,
  .p (.fadr 23 (.t 3) 3) .unit,
  .p (.load 24 (.t 23) 1 false) .unit,
  .p (.bin 25 false .neq (.t 22) (.t 24)) .unit])
 (.cond (.t 25) (.seq (.reg none [.p (.mv 4 (.c (.bool false))) .unit])
 .ret) .skip))
 (.seq (.seq (.reg none [.p (.fadr 26 (.t 2) 4) .unit,
  .p (.load 27 (.t 26) 1 false) .unit,
  .p (.fadr 28 (.t 3) 4) .unit,
  .p (.load 29 (.t 28) 1 false) .unit,
  .p (.bin 30 false .neq (.t 27) (.t 29)) .unit])
 (.cond (.t 30) (.seq (.reg none [.p (.mv 4 (.c (.bool false))) .unit])
 .ret) .skip))
 (.seq (.reg none [.p (.mv 4 (.c (.bool true))) .unit])
 .ret))))))),
 31, 2, [.t 4]⟩
theorem m_laws_eqAsk : mH Try.prog 32 [] = some (F_laws_eqAsk.code.x, F_laws_eqAsk.N, F_laws_eqAsk.np, F_laws_eqAsk.res) := by kernel_rfl
noncomputable def T_laws_eqAsk : (Int × List UInt8 × List (List UInt8) × Int × List UInt8) × Int × List UInt8 × List (List UInt8) × Int × List UInt8 → Option (Bool) := evF [fn_laws_eqStringS] F_laws_eqAsk [.agg (.pair (.int .i64) (.pair .str (.pair (.sl false .str) (.pair (.int .i64) .str)))), .agg (.pair (.int .i64) (.pair .str (.pair (.sl false .str) (.pair (.int .i64) .str))))] [] [.cell .bool] []
noncomputable def fn_laws_eqAsk : TFn := ⟨32, [.agg (.pair (.int .i64) (.pair .str (.pair (.sl false .str) (.pair (.int .i64) .str)))), .agg (.pair (.int .i64) (.pair .str (.pair (.sl false .str) (.pair (.int .i64) .str))))], [], [.cell .bool], [], T_laws_eqAsk⟩
theorem ok_laws_eqAsk : FnOk Try.prog fn_laws_eqAsk := evF_ok mixed (allOk_cons ok_laws_eqStringS allOk_nil) m_laws_eqAsk (by decide)
def F_laws_FnExactAskText : TF := ⟨(.seq (.reg none [.p (.box 1 (.t 0)) .unit,
  .p (.mv 2 (.c (.bool false))) .unit])
 (.seq (.reg none [.p (.mv 3 (.c (.int .i64 1048576))) .unit])
 (.seq (.reg none [.p (.load 9 (.t 1) 5 true) .unit,
  .p (.mv 10 (.t 3)) .unit,
  .p (.callB 11 n_laws_szAsk [((.t 9), 0), ((.t 10), 0)]) .unit,
  .p (.mv 3 (.t 11)) .unit])
 (.seq (.seq (.reg none [.p (.mv 12 (.t 3)) .unit,
  .p (.bin 13 false .lss (.t 12) (.c (.int .i64 0))) .unit])
 (.cond (.t 13) (.seq (.reg none [.p (.mv 2 (.c (.bool true))) .unit])
 .ret) .skip))
 (.seq (.reg none [.p (.load 15 (.t 1) 5 true) .unit,
  .p (.callB 16 n_laws_toAsk [((.t 15), 0)]) .unit,
  .p (.callB 17 n_spec_AskText [((.t 16), 0)]) .unit,
  .p (.mv 14 (.t 17)) .unit,
  .p (.ext 18 (.t 14) 0) .unit,
  .p (.ext 19 (.t 14) 1) .unit,
  .p (.mv 4 (.t 18)) .unit,
  .p (.mv 5 (.t 19)) .unit])
 (.seq (.reg none [.p (.load 20 (.t 1) 5 true) .unit,
  .p (.callB 21 n_laws_toAsk [((.t 20), 0)]) .unit,
  .p (.alloc 6 [(.lit (.int .i64 0)), (.lit (.string (ba []))), (.sl true 1 []), (.lit (.int .i64 0)), (.lit (.string (ba [])))]) .unit,
  .p (.storeT (.t 6) 21 5) .unit])
 (.seq (.reg none [.p (.load 23 (.t 6) 5 true) .unit,
  .p (.callB 24 n_impl_AskText [((.t 23), 0)]) .unit,
  .p (.mv 22 (.t 24)) .unit,
  .p (.ext 25 (.t 22) 0) .unit,
  .p (.ext 26 (.t 22) 1) .unit,
  .p (.mv 7 (.t 25)) .unit,
  .p (.mv 8 (.t 26)) .unit])
 (.seq (.seq (.join ⟨[(1, false), (6, false), (34, false)], [.box (.pair (.int .i64) (.pair .str (.pair (.sl false .str) (.pair (.int .i64) .str)))), .box (.pair (.int .i64) (.pair .str (.pair (.sl true .str) (.pair (.int .i64) .str)))), .cell .bool]⟩ (.reg none [.p (.mv 27 (.t 7)) .unit,
  .p (.mv 28 (.t 4)) .unit,
  .p (.bin 29 false .neq (.t 27) (.t 28)) .unit,
  .p (.mv 30 (.t 29)) .unit,
  .g 30 false (some 31) (.mv 31 (.t 8)) .unit,
  .g 30 false (some 32) (.mv 32 (.t 5)) .unit,
  .g 30 false (some 33) (.bin 33 true .neq (.t 31) (.t 32)) .unit,
  .p (.pick 34 (.t 30) (.c (.bool true)) (.t 33)) .unit]))
 (.cond (.t 34) (.seq (.reg none [.p (.mv 2 (.c (.bool false))) .unit])
 .ret) .skip))
 (.seq (.seq (.reg (some [[], [], [1], [0, 2, 2], [3]]) [.p (.load 35 (.t 6) 5 true) .unit,
  .p (.load 36 (.t 1) 5 true) .unit,
  .p (.callB 37 n_laws_toAsk [((.t 36), 0)]) .unit,
  .p (.callB 38 n_laws_eqAsk [((.t 35), 0), ((.t 37), 0)]) .unit,
  .p (.un 39 .not (.t 38)) .unit])
 (.cond (.t 39) (.seq (.reg none [.p (.mv 2 (.c (.bool false))) .unit])
 .ret) .skip))
 (.seq (.reg none [.p (.mv 2 (.c (.bool true))) .unit])
 .ret)))))))))),
 40, 1, [.t 2]⟩
theorem m_laws_FnExactAskText : mH Try.prog 13 [(6, 3, .t)] = some (F_laws_FnExactAskText.code.x, F_laws_FnExactAskText.N, F_laws_FnExactAskText.np, F_laws_FnExactAskText.res) := by kernel_rfl
noncomputable def T_laws_FnExactAskText : Int × List UInt8 × List (List UInt8) × Int × List UInt8 → Option (Bool) := evF [fn_laws_szAsk, fn_laws_toAsk, fn_spec_AskText, fn_impl_AskText, fn_laws_eqAsk] F_laws_FnExactAskText [.agg (.pair (.int .i64) (.pair .str (.pair (.sl false .str) (.pair (.int .i64) .str))))] [] [.cell .bool] []
noncomputable def fn_laws_FnExactAskText : TFn := ⟨13, [.agg (.pair (.int .i64) (.pair .str (.pair (.sl false .str) (.pair (.int .i64) .str))))], [], [.cell .bool], [], T_laws_FnExactAskText⟩
theorem ok_laws_FnExactAskText : FnOk Try.prog fn_laws_FnExactAskText := evF_ok mixed (allOk_cons ok_laws_szAsk (allOk_cons ok_laws_toAsk (allOk_cons ok_spec_AskText (allOk_cons ok_impl_AskText (allOk_cons ok_laws_eqAsk allOk_nil))))) m_laws_FnExactAskText (by decide)

end Xs
end Go.Proofs.Ytfepabohinkpgaa
