/- The typed code of the functions, printed by program. -/
import Derived.Test.YtlblgfhdndpmfaaDoorT7
import Derived.Test.YtlblgfhdndpmfaaDoorProg
import Derived.KernelRfl

import Derived.Test.YtlblgfhdndpmfaaDoorBld
import Derived.Test.YtlblgfhdndpmfaaDoorItoa
import Derived.Test.YtlblgfhdndpmfaaDoorSplit
namespace Go.Proofs.YtlblgfhdndpmfaaDoor
open Go Vm
namespace Xs
theorem mixed : Tryd.prog.follows .mixedOrders = true := by kernel_rfl
abbrev n_laws_FnExactWordText : Nat := 6
abbrev n_laws_szWord : Nat := 12
abbrev n_spec_WordOk : Nat := 13
abbrev n_laws_toWord : Nat := 14
abbrev n_impl_WordOk : Nat := 15
abbrev n_laws_eqWord : Nat := 16
abbrev n_spec_WordText : Nat := 22
abbrev n_impl_WordText : Nat := 23
abbrev n_impl_Decimal : Nat := 32
abbrev n_laws_szStringS : Nat := 37
abbrev n_spec_l01In : Nat := 38
abbrev n_spec_l17Private : Nat := 39
abbrev n_spec_l17Names : Nat := 40
abbrev n_laws_toStringS : Nat := 41
abbrev n_impl_isPrivate : Nat := 42
abbrev n_impl_areNames : Nat := 43
abbrev n_impl_inRange : Nat := 44
abbrev n_laws_eqStringS : Nat := 45
abbrev n_spec_NameOk : Nat := 47
abbrev n_impl_NameOk : Nat := 49
abbrev n_spec_l05Byte : Nat := 52
abbrev n_spec_l05Short : Nat := 53
abbrev n_spec_l01Var : Nat := 54
abbrev n_impl_octets : Nat := 55
abbrev n_impl_shortText : Nat := 56
abbrev n_impl_namesText : Nat := 57
abbrev n_strconv_Itoa : Nat := 59
abbrev n_spec_SplitPrivate : Nat := 60
abbrev n_impl_SplitPrivate : Nat := 61
abbrev n_impl_varText : Nat := 65
abbrev n___strings_Builder__WriteString : Nat := 66
abbrev n___strings_Builder__String : Nat := 67
abbrev n_strings_Split : Nat := 69
abbrev n_impl_ReadDecimal : Nat := 70
abbrev n_impl_PrivateName : Nat := 71
def B_laws_szStringS_1 : TC := (.seq (.seq (.reg none [.p (.mv 12 (.t 5)) .unit,
  .p (.mv 13 (.t 0)) .unit,
  .p (.lenB 14 (.t 13)) .unit,
  .p (.bin 15 false .lss (.t 12) (.t 14)) .unit])
 (.cond (.t 15) .skip (.exit 0)))
 (.seq (.block 1 (.seq (.reg none [.p (.mv 18 (.t 1)) .unit,
  .p (.mv 19 (.t 0)) .unit,
  .p (.mv 20 (.t 5)) .unit,
  .p (.iadr 21 1 (.t 19) (.t 20)) .unit,
  .p (.load 22 (.t 21) 1 false) .unit,
  .p (.lenS 23 (.t 22)) .unit,
  .p (.bin 24 false .sub (.t 18) (.t 23)) .unit,
  .p (.mv 1 (.t 24)) .unit])
 (.seq (.reg none [.p (.mv 25 (.t 1)) .unit,
  .p (.bin 26 false .lss (.t 25) (.c (.int .i64 0))) .unit])
 (.cond (.t 26) (.seq (.reg none [.p (.mv 4 (.c (.int .i64 (-1)))) .unit])
 .ret) .skip))))
 (.reg none [.p (.mv 16 (.t 5)) .unit,
  .p (.bin 17 false .add (.t 16) (.c (.int .i64 1))) .unit,
  .p (.mv 5 (.t 17)) .unit])))
noncomputable def L_laws_szStringS_1 : Nat → (List (List UInt8)) × (Int) × Int → Option ((Int) ⊕ (Int)) := evL [] (finT [.t 4] [] [.cell (.int .i64)]) 0 ⟨[(0, true), (1, false), (5, false)], [.cell (.sl false .str), .cell (.int .i64), .cell (.int .i64)]⟩ ⟨[(1, false)], [.cell (.int .i64)]⟩ B_laws_szStringS_1
def F_laws_szStringS : TF := ⟨(.seq (.reg none [.p (.mv 4 (.c (.int .i64 0))) .unit])
 (.seq (.reg none [.p (.mv 6 (.t 1)) .unit,
  .p (.mv 7 (.t 0)) .unit,
  .p (.lenB 8 (.t 7)) .unit,
  .p (.bin 9 false .sub (.t 6) (.t 8)) .unit,
  .p (.mv 1 (.t 9)) .unit])
 (.seq (.seq (.reg none [.p (.mv 10 (.t 1)) .unit,
  .p (.bin 11 false .lss (.t 10) (.c (.int .i64 0))) .unit])
 (.cond (.t 11) (.seq (.reg none [.p (.mv 4 (.c (.int .i64 (-1)))) .unit])
 .ret) .skip))
 (.seq (.seq (.reg none [.p (.mv 5 (.c (.int .i64 0))) .unit])
 (.jl 0 ⟨[(0, true), (1, false), (5, false)], [.cell (.sl false .str), .cell (.int .i64), .cell (.int .i64)]⟩ ⟨[(1, false)], [.cell (.int .i64)]⟩ B_laws_szStringS_1))
 (.seq (.reg none [.p (.mv 27 (.t 1)) .unit,
  .p (.mv 4 (.t 27)) .unit])
 .ret))))),
 28, 2, [.t 4]⟩
theorem m_laws_szStringS : mH Tryd.prog 37 [] = some (F_laws_szStringS.code.x, F_laws_szStringS.N, F_laws_szStringS.np, F_laws_szStringS.res) := by kernel_rfl
noncomputable def T_laws_szStringS : (List (List UInt8)) × Int → Option (Int) := evF [] F_laws_szStringS [.cell (.sl false .str), .cell (.int .i64)] [] [.cell (.int .i64)] []
noncomputable def fn_laws_szStringS : TFn := ⟨37, [.cell (.sl false .str), .cell (.int .i64)], [], [.cell (.int .i64)], [], T_laws_szStringS⟩
theorem ok_laws_szStringS : FnOk Tryd.prog fn_laws_szStringS := evF_ok mixed allOk_nil m_laws_szStringS (by decide)
def F_laws_szWord : TF := ⟨(.seq (.reg none [.p (.box 2 (.t 0)) .unit,
  .p (.mv 4 (.c (.int .i64 0))) .unit])
 (.seq (.reg none [.p (.mv 5 (.t 1)) .unit,
  .p (.fadr 6 (.t 2) 1) .unit,
  .p (.load 7 (.t 6) 1 false) .unit,
  .p (.lenS 8 (.t 7)) .unit,
  .p (.bin 9 false .sub (.t 5) (.t 8)) .unit,
  .p (.mv 1 (.t 9)) .unit])
 (.seq (.seq (.reg none [.p (.mv 10 (.t 1)) .unit,
  .p (.bin 11 false .lss (.t 10) (.c (.int .i64 0))) .unit])
 (.cond (.t 11) (.seq (.reg none [.p (.mv 4 (.c (.int .i64 (-1)))) .unit])
 .ret) .skip))
 (.seq (.reg none [.p (.fadr 12 (.t 2) 2) .unit,
  .p (.load 13 (.t 12) 1 false) .unit,
  .p (.mv 14 (.t 1)) .unit,
  .p (.callB 15 n_laws_szStringS [((.t 13), 0), ((.t 14), 0)]) .unit,
  .p (.mv 1 (.t 15)) .unit])
 (.seq (.seq (.reg none [.p (.mv 16 (.t 1)) .unit,
  .p (.bin 17 false .lss (.t 16) (.c (.int .i64 0))) .unit])
 (.cond (.t 17) (.seq (.reg none [.p (.mv 4 (.c (.int .i64 (-1)))) .unit])
 .ret) .skip))
 (.seq (.reg none [.p (.mv 18 (.t 1)) .unit,
  .p (.fadr 19 (.t 2) 3) .unit,
  .p (.load 20 (.t 19) 1 false) .unit,
  .p (.lenS 21 (.t 20)) .unit,
  .p (.bin 22 false .sub (.t 18) (.t 21)) .unit,
  .p (.mv 1 (.t 22)) .unit])
 (.seq (.seq (.reg none [.p (.mv 23 (.t 1)) .unit,
  .p (.bin 24 false .lss (.t 23) (.c (.int .i64 0))) .unit])
 (.cond (.t 24) (.seq (.reg none [.p (.mv 4 (.c (.int .i64 (-1)))) .unit])
 .ret) .skip))
 (.seq (.reg none [.p (.mv 25 (.t 1)) .unit,
  .p (.mv 4 (.t 25)) .unit])
 .ret)))))))),
 26, 2, [.t 4]⟩
theorem m_laws_szWord : mH Tryd.prog 12 [] = some (F_laws_szWord.code.x, F_laws_szWord.N, F_laws_szWord.np, F_laws_szWord.res) := by kernel_rfl
noncomputable def T_laws_szWord : (Int × List UInt8 × List (List UInt8) × List UInt8) × Int → Option (Int) := evF [fn_laws_szStringS] F_laws_szWord [.agg (.pair (.int .i64) (.pair .str (.pair (.sl false .str) .str))), .cell (.int .i64)] [] [.cell (.int .i64)] []
noncomputable def fn_laws_szWord : TFn := ⟨12, [.agg (.pair (.int .i64) (.pair .str (.pair (.sl false .str) .str))), .cell (.int .i64)], [], [.cell (.int .i64)], [], T_laws_szWord⟩
theorem ok_laws_szWord : FnOk Tryd.prog fn_laws_szWord := evF_ok mixed (allOk_cons ok_laws_szStringS allOk_nil) m_laws_szWord (by decide)
def B_laws_toStringS_1 : TC := (.seq (.seq (.reg none [.p (.mv 8 (.t 4)) .unit,
  .p (.mv 9 (.t 0)) .unit,
  .p (.lenB 10 (.t 9)) .unit,
  .p (.bin 11 false .lss (.t 8) (.t 10)) .unit])
 (.cond (.t 11) .skip (.exit 0)))
 (.seq (.block 1 (.reg none [.p (.mvA 14 3) .unit,
  .p (.mv 15 (.t 4)) .unit,
  .p (.mv 16 (.t 0)) .unit,
  .p (.mv 17 (.t 4)) .unit,
  .p (.iadr 18 1 (.t 16) (.t 17)) .unit,
  .p (.load 19 (.t 18) 1 false) .unit,
  .p (.iadr 20 1 (.t 14) (.t 15)) .unit,
  .p (.store (.t 20) (.t 19) 1) .unit]))
 (.reg none [.p (.mv 12 (.t 4)) .unit,
  .p (.bin 13 false .add (.t 12) (.c (.int .i64 1))) .unit,
  .p (.mv 4 (.t 13)) .unit])))
noncomputable def L_laws_toStringS_1 : Nat → (List (List UInt8)) × (List (List UInt8)) × Int → Option ((List (List UInt8)) ⊕ (List (List UInt8))) := evL [] (finT [.t 2] [] [.cell (.sl true .str)]) 0 ⟨[(0, true), (3, false), (4, false)], [.cell (.sl false .str), .cell (.sl true .str), .cell (.int .i64)]⟩ ⟨[(3, false)], [.cell (.sl true .str)]⟩ B_laws_toStringS_1
def F_laws_toStringS : TF := ⟨(.seq (.reg none [.p (.mvN 2 1) .unit])
 (.seq (.reg none [.p (.mv 5 (.t 0)) .unit,
  .p (.lenB 6 (.t 5)) .unit,
  .p (.mkS 7 16 [(.lit (.string (ba [])))] (.t 6) (.t 6)) .str,
  .p (.mvT 3 7) .unit])
 (.seq (.seq (.reg none [.p (.mv 4 (.c (.int .i64 0))) .unit])
 (.jl 0 ⟨[(0, true), (3, false), (4, false)], [.cell (.sl false .str), .cell (.sl true .str), .cell (.int .i64)]⟩ ⟨[(3, false)], [.cell (.sl true .str)]⟩ B_laws_toStringS_1))
 (.seq (.reg none [.p (.mvT 21 3) .unit,
  .p (.mvT 2 21) .unit])
 .ret)))),
 22, 1, [.t 2]⟩
theorem m_laws_toStringS : mH Tryd.prog 41 [(1, 3, .t), (5, 0, .v), (6, 0, .t), (6, 1, .t)] = some (F_laws_toStringS.code.x, F_laws_toStringS.N, F_laws_toStringS.np, F_laws_toStringS.res) := by kernel_rfl
noncomputable def T_laws_toStringS : List (List UInt8) → Option (List (List UInt8)) := evF [] F_laws_toStringS [.cell (.sl false .str)] [] [.cell (.sl true .str)] []
noncomputable def fn_laws_toStringS : TFn := ⟨41, [.cell (.sl false .str)], [], [.cell (.sl true .str)], [], T_laws_toStringS⟩
theorem ok_laws_toStringS : FnOk Tryd.prog fn_laws_toStringS := evF_ok mixed allOk_nil m_laws_toStringS (by decide)
def F_laws_toWord : TF := ⟨(.seq (.reg none [.p (.box 1 (.t 0)) .unit,
  .p (.alloc 2 [(.lit (.int .i64 0)), (.lit (.string (ba []))), (.sl true 1 []), (.lit (.string (ba [])))]) .unit])
 (.seq (.reg none [.p (.alloc 3 [(.lit (.int .i64 0)), (.lit (.string (ba []))), (.sl true 1 []), (.lit (.string (ba [])))]) .unit])
 (.seq (.reg none [.p (.fadr 4 (.t 1) 0) .unit,
  .p (.load 5 (.t 4) 1 false) .unit,
  .p (.fadr 6 (.t 3) 0) .unit,
  .p (.store (.t 6) (.t 5) 1) .unit])
 (.seq (.reg none [.p (.fadr 7 (.t 1) 1) .unit,
  .p (.load 8 (.t 7) 1 false) .unit,
  .p (.fadr 9 (.t 3) 1) .unit,
  .p (.store (.t 9) (.t 8) 1) .unit])
 (.seq (.reg none [.p (.fadr 10 (.t 1) 2) .unit,
  .p (.load 11 (.t 10) 1 false) .unit,
  .p (.callB 12 n_laws_toStringS [((.t 11), 0)]) .unit,
  .p (.fadr 13 (.t 3) 2) .unit,
  .p (.storeT (.t 13) 12 1) .unit])
 (.seq (.reg none [.p (.fadr 14 (.t 1) 3) .unit,
  .p (.load 15 (.t 14) 1 false) .unit,
  .p (.fadr 16 (.t 3) 3) .unit,
  .p (.store (.t 16) (.t 15) 1) .unit])
 (.seq (.reg none [.p (.loadT 17 (.t 3) 4 true) .unit,
  .p (.storeT (.t 2) 17 4) .unit])
 .ret))))))),
 18, 1, [.c 2 4 true]⟩
theorem m_laws_toWord : mH Tryd.prog 14 [(4, 4, .t), (6, 0, .t), (6, 1, .t)] = some (F_laws_toWord.code.x, F_laws_toWord.N, F_laws_toWord.np, F_laws_toWord.res) := by kernel_rfl
noncomputable def T_laws_toWord : Int × List UInt8 × List (List UInt8) × List UInt8 → Option (Int × List UInt8 × List (List UInt8) × List UInt8) := evF [fn_laws_toStringS] F_laws_toWord [.agg (.pair (.int .i64) (.pair .str (.pair (.sl false .str) .str)))] [] [.agg (.pair (.int .i64) (.pair .str (.pair (.sl true .str) .str)))] []
noncomputable def fn_laws_toWord : TFn := ⟨14, [.agg (.pair (.int .i64) (.pair .str (.pair (.sl false .str) .str)))], [], [.agg (.pair (.int .i64) (.pair .str (.pair (.sl true .str) .str)))], [], T_laws_toWord⟩
theorem ok_laws_toWord : FnOk Tryd.prog fn_laws_toWord := evF_ok mixed (allOk_cons ok_laws_toStringS allOk_nil) m_laws_toWord (by decide)
def F_spec_l01In : TF := ⟨(.seq (.reg none [.p (.mv 6 (.c (.bool false))) .unit])
 (.seq (.reg none [.p (.mv 7 (.t 0)) .unit,
  .p (.mv 8 (.t 1)) .unit,
  .p (.bin 9 false .geq (.t 7) (.t 8)) .unit,
  .p (.mv 10 (.t 9)) .unit,
  .g 10 true (some 11) (.mv 11 (.t 0)) .unit,
  .g 10 true (some 12) (.mv 12 (.t 2)) .unit,
  .g 10 true (some 13) (.bin 13 false .leq (.t 11) (.t 12)) .unit,
  .p (.pick 14 (.t 10) (.t 13) (.c (.bool false))) .unit,
  .p (.mv 6 (.t 14)) .unit])
 .ret)),
 15, 3, [.t 6]⟩
theorem m_spec_l01In : mH Tryd.prog 38 [] = some (F_spec_l01In.code.x, F_spec_l01In.N, F_spec_l01In.np, F_spec_l01In.res) := by kernel_rfl
noncomputable def T_spec_l01In : (Int) × (Int) × Int → Option (Bool) := evF [] F_spec_l01In [.cell (.int .i64), .cell (.int .i64), .cell (.int .i64)] [] [.cell .bool] []
noncomputable def fn_spec_l01In : TFn := ⟨38, [.cell (.int .i64), .cell (.int .i64), .cell (.int .i64)], [], [.cell .bool], [], T_spec_l01In⟩
theorem ok_spec_l01In : FnOk Tryd.prog fn_spec_l01In := evF_ok mixed allOk_nil m_spec_l01In (by decide)
def B_spec_NameOk_1 : TC := (.seq (.seq (.reg none [.p (.mv 18 (.t 3)) .unit,
  .p (.mv 19 (.t 0)) .unit,
  .p (.lenS 20 (.t 19)) .unit,
  .p (.bin 21 false .lss (.t 18) (.t 20)) .unit])
 (.cond (.t 21) .skip (.exit 0)))
 (.seq (.block 1 (.seq (.join ⟨[(0, true), (3, false), (45, false)], [.cell .str, .cell (.int .i64), .cell .bool]⟩ (.reg none [.p (.mv 24 (.t 0)) .unit,
  .p (.mv 25 (.t 3)) .unit,
  .p (.idx 26 (.t 24) (.t 25)) .unit,
  .p (.bin 27 false .lss (.t 26) (.c (.int .u8 97))) .unit,
  .p (.mv 28 (.t 27)) .unit,
  .g 28 false (some 29) (.mv 29 (.t 0)) .unit,
  .g 28 false (some 30) (.mv 30 (.t 3)) .unit,
  .g 28 false (some 31) (.idx 31 (.t 29) (.t 30)) .unit,
  .g 28 false (some 32) (.bin 32 false .gtr (.t 31) (.c (.int .u8 122))) .unit,
  .p (.pick 33 (.t 28) (.c (.bool true)) (.t 32)) .unit,
  .p (.mv 34 (.t 33)) .unit,
  .g 34 true (some 35) (.mv 35 (.t 0)) .unit,
  .g 34 true (some 36) (.mv 36 (.t 3)) .unit,
  .g 34 true (some 37) (.idx 37 (.t 35) (.t 36)) .unit,
  .g 34 true (some 38) (.bin 38 false .lss (.t 37) (.c (.int .u8 48))) .unit,
  .g 34 true (some 39) (.mv 39 (.t 38)) .unit,
  .g 39 false (some 40) (.mv 40 (.t 0)) .unit,
  .g 39 false (some 41) (.mv 41 (.t 3)) .unit,
  .g 39 false (some 42) (.idx 42 (.t 40) (.t 41)) .unit,
  .g 39 false (some 43) (.bin 43 false .gtr (.t 42) (.c (.int .u8 57))) .unit,
  .g 34 true (some 44) (.pick 44 (.t 39) (.c (.bool true)) (.t 43)) .unit,
  .p (.pick 45 (.t 34) (.t 44) (.c (.bool false))) .unit]))
 (.cond (.t 45) (.seq (.reg none [.p (.mv 2 (.c (.bool false))) .unit])
 .ret) .skip)))
 (.reg none [.p (.mv 22 (.t 3)) .unit,
  .p (.bin 23 false .add (.t 22) (.c (.int .i64 1))) .unit,
  .p (.mv 3 (.t 23)) .unit])))
noncomputable def L_spec_NameOk_1 : Nat → (List UInt8) × Int → Option ((Unit) ⊕ (Bool)) := evL [fn_spec_l01In] (finT [.t 2] [] [.cell .bool]) 0 ⟨[(0, true), (3, false)], [.cell .str, .cell (.int .i64)]⟩ ⟨[], []⟩ B_spec_NameOk_1
def F_spec_NameOk : TF := ⟨(.seq (.reg none [.p (.mv 2 (.c (.bool false))) .unit])
 (.seq (.seq (.join ⟨[(0, true), (17, false)], [.cell .str, .cell .bool]⟩ (.reg none [.p (.mv 4 (.t 0)) .unit,
  .p (.lenS 5 (.t 4)) .unit,
  .p (.callB 6 n_spec_l01In [((.t 5), 0), ((.c (.int .i64 1)), 0), ((.c (.int .i64 12)), 0)]) .unit,
  .p (.un 7 .not (.t 6)) .unit,
  .p (.mv 8 (.t 7)) .unit,
  .g 8 false (some 9) (.mv 9 (.t 0)) .unit,
  .g 8 false (some 10) (.idx 10 (.t 9) (.c (.int .i64 0))) .unit,
  .g 8 false (some 11) (.bin 11 false .lss (.t 10) (.c (.int .u8 97))) .unit,
  .p (.pick 12 (.t 8) (.c (.bool true)) (.t 11)) .unit,
  .p (.mv 13 (.t 12)) .unit,
  .g 13 false (some 14) (.mv 14 (.t 0)) .unit,
  .g 13 false (some 15) (.idx 15 (.t 14) (.c (.int .i64 0))) .unit,
  .g 13 false (some 16) (.bin 16 false .gtr (.t 15) (.c (.int .u8 122))) .unit,
  .p (.pick 17 (.t 13) (.c (.bool true)) (.t 16)) .unit]))
 (.cond (.t 17) (.seq (.reg none [.p (.mv 2 (.c (.bool false))) .unit])
 .ret) .skip))
 (.seq (.seq (.reg none [.p (.mv 3 (.c (.int .i64 0))) .unit])
 (.jl 0 ⟨[(0, true), (3, false)], [.cell .str, .cell (.int .i64)]⟩ ⟨[], []⟩ B_spec_NameOk_1))
 (.seq (.reg none [.p (.mv 2 (.c (.bool true))) .unit])
 .ret)))),
 46, 1, [.t 2]⟩
theorem m_spec_NameOk : mH Tryd.prog 47 [] = some (F_spec_NameOk.code.x, F_spec_NameOk.N, F_spec_NameOk.np, F_spec_NameOk.res) := by kernel_rfl
noncomputable def T_spec_NameOk : List UInt8 → Option (Bool) := evF [fn_spec_l01In] F_spec_NameOk [.cell .str] [] [.cell .bool] []
noncomputable def fn_spec_NameOk : TFn := ⟨47, [.cell .str], [], [.cell .bool], [], T_spec_NameOk⟩
theorem ok_spec_NameOk : FnOk Tryd.prog fn_spec_NameOk := evF_ok mixed (allOk_cons ok_spec_l01In allOk_nil) m_spec_NameOk (by decide)
def F_spec_SplitPrivate : TF := ⟨(.seq (.reg none [.p (.mv 2 (.c (.int .i64 0))) .unit,
  .p (.mv 3 (.c (.string (ba [])))) .unit,
  .p (.mv 4 (.c (.bool false))) .unit])
 (.seq (.seq (.join ⟨[(0, true), (33, false)], [.cell .str, .cell .bool]⟩ (.reg none [.p (.mv 5 (.t 0)) .unit,
  .p (.lenS 6 (.t 5)) .unit,
  .p (.bin 7 false .lss (.t 6) (.c (.int .i64 4))) .unit,
  .p (.mv 8 (.t 7)) .unit,
  .g 8 false (some 9) (.mv 9 (.t 0)) .unit,
  .g 8 false (some 10) (.idx 10 (.t 9) (.c (.int .i64 0))) .unit,
  .g 8 false (some 11) (.bin 11 false .neq (.t 10) (.c (.int .u8 35))) .unit,
  .p (.pick 12 (.t 8) (.c (.bool true)) (.t 11)) .unit,
  .p (.mv 13 (.t 12)) .unit,
  .g 13 false (some 14) (.mv 14 (.t 0)) .unit,
  .g 13 false (some 15) (.idx 15 (.t 14) (.c (.int .i64 2))) .unit,
  .g 13 false (some 16) (.bin 16 false .neq (.t 15) (.c (.int .u8 35))) .unit,
  .p (.pick 17 (.t 13) (.c (.bool true)) (.t 16)) .unit,
  .p (.mv 18 (.t 17)) .unit,
  .g 18 false (some 19) (.mv 19 (.t 0)) .unit,
  .g 18 false (some 20) (.idx 20 (.t 19) (.c (.int .i64 1))) .unit,
  .g 18 false (some 21) (.bin 21 false .lss (.t 20) (.c (.int .u8 49))) .unit,
  .p (.pick 22 (.t 18) (.c (.bool true)) (.t 21)) .unit,
  .p (.mv 23 (.t 22)) .unit,
  .g 23 false (some 24) (.mv 24 (.t 0)) .unit,
  .g 23 false (some 25) (.idx 25 (.t 24) (.c (.int .i64 1))) .unit,
  .g 23 false (some 26) (.bin 26 false .gtr (.t 25) (.c (.int .u8 57))) .unit,
  .p (.pick 27 (.t 23) (.c (.bool true)) (.t 26)) .unit,
  .p (.mv 28 (.t 27)) .unit,
  .g 28 false (some 29) (.mv 29 (.t 0)) .unit,
  .g 28 false (some 30) (.slcS 30 (.t 29) (some (.c (.int .i64 3))) none) .unit,
  .g 28 false (some 31) (.callB 31 n_spec_NameOk [((.t 30), 0)]) .unit,
  .g 28 false (some 32) (.un 32 .not (.t 31)) .unit,
  .p (.pick 33 (.t 28) (.c (.bool true)) (.t 32)) .unit]))
 (.cond (.t 33) (.seq (.reg none [.p (.mv 2 (.c (.int .i64 0))) .unit,
  .p (.mv 3 (.c (.string (ba [])))) .unit,
  .p (.mv 4 (.c (.bool false))) .unit])
 .ret) .skip))
 (.seq (.reg (some [[], [0], [1], [2], [], [4], [3, 0, 1, 2, 3], [5, 6, 0, 1, 2, 3, 4, 5, 6], [7, 0, 1, 2, 3, 4, 5, 6, 7]]) [.p (.mv 34 (.t 0)) .unit,
  .p (.idx 35 (.t 34) (.c (.int .i64 1))) .unit,
  .p (.cvi 36 .i64 .u8 (.t 35)) .unit,
  .p (.bin 37 false .sub (.t 36) (.c (.int .i64 48))) .unit,
  .p (.mv 38 (.t 0)) .unit,
  .p (.slcS 39 (.t 38) (some (.c (.int .i64 3))) none) .unit,
  .p (.mv 2 (.t 37)) .unit,
  .p (.mv 3 (.t 39)) .unit,
  .p (.mv 4 (.c (.bool true))) .unit])
 .ret))),
 40, 1, [.t 2, .t 3, .t 4]⟩
theorem m_spec_SplitPrivate : mH Tryd.prog 60 [] = some (F_spec_SplitPrivate.code.x, F_spec_SplitPrivate.N, F_spec_SplitPrivate.np, F_spec_SplitPrivate.res) := by kernel_rfl
noncomputable def T_spec_SplitPrivate : List UInt8 → Option ((Int) × (List UInt8) × Bool) := evF [fn_spec_NameOk] F_spec_SplitPrivate [.cell .str] [] [.cell (.int .i64), .cell .str, .cell .bool] []
noncomputable def fn_spec_SplitPrivate : TFn := ⟨60, [.cell .str], [], [.cell (.int .i64), .cell .str, .cell .bool], [], T_spec_SplitPrivate⟩
theorem ok_spec_SplitPrivate : FnOk Tryd.prog fn_spec_SplitPrivate := evF_ok mixed (allOk_cons ok_spec_NameOk allOk_nil) m_spec_SplitPrivate (by decide)
def F_spec_l17Private : TF := ⟨(.seq (.reg none [.p (.mv 2 (.c (.bool false))) .unit])
 (.seq (.reg none [.p (.mv 7 (.t 0)) .unit,
  .p (.callB 8 n_spec_SplitPrivate [((.t 7), 0)]) .unit,
  .p (.mv 6 (.t 8)) .unit,
  .p (.ext 9 (.t 6) 0) .unit,
  .p (.ext 10 (.t 6) 1) .unit,
  .p (.ext 11 (.t 6) 2) .unit,
  .p (.mv 3 (.t 9)) .unit,
  .p (.mv 4 (.t 10)) .unit,
  .p (.mv 5 (.t 11)) .unit])
 (.seq (.reg none [.p (.mv 12 (.t 5)) .unit,
  .p (.mv 2 (.t 12)) .unit])
 .ret))),
 13, 1, [.t 2]⟩
theorem m_spec_l17Private : mH Tryd.prog 39 [] = some (F_spec_l17Private.code.x, F_spec_l17Private.N, F_spec_l17Private.np, F_spec_l17Private.res) := by kernel_rfl
noncomputable def T_spec_l17Private : List UInt8 → Option (Bool) := evF [fn_spec_SplitPrivate] F_spec_l17Private [.cell .str] [] [.cell .bool] []
noncomputable def fn_spec_l17Private : TFn := ⟨39, [.cell .str], [], [.cell .bool], [], T_spec_l17Private⟩
theorem ok_spec_l17Private : FnOk Tryd.prog fn_spec_l17Private := evF_ok mixed (allOk_cons ok_spec_SplitPrivate allOk_nil) m_spec_l17Private (by decide)
def B_spec_l17Names_1 : TC := (.seq (.seq (.reg none [.p (.mv 4 (.t 3)) .unit,
  .p (.mv 5 (.t 0)) .unit,
  .p (.lenB 6 (.t 5)) .unit,
  .p (.bin 7 false .lss (.t 4) (.t 6)) .unit])
 (.cond (.t 7) .skip (.exit 0)))
 (.seq (.block 1 (.seq (.join ⟨[(0, true), (3, false), (31, false)], [.cell (.sl false .str), .cell (.int .i64), .cell .bool]⟩ (.reg (some [[], [], [0, 1], [2], [3], [4], [5, 4], [6], [7, 6], [8, 6, 6], [9], [9], [11, 9], [10, 12, 9], [13, 9], [9], [9], [15, 16, 9], [17, 9], [14, 18, 9], [9, 19, 6], [6, 20]]) [.p (.mv 10 (.t 0)) .unit,
  .p (.mv 11 (.t 3)) .unit,
  .p (.iadr 12 1 (.t 10) (.t 11)) .unit,
  .p (.load 13 (.t 12) 1 false) .unit,
  .p (.callB 14 n_spec_NameOk [((.t 13), 0)]) .unit,
  .p (.un 15 .not (.t 14)) .unit,
  .p (.mv 16 (.t 15)) .unit,
  .g 16 false (some 17) (.mv 17 (.t 3)) .unit,
  .g 16 false (some 18) (.bin 18 false .gtr (.t 17) (.c (.int .i64 0))) .unit,
  .g 16 false (some 19) (.mv 19 (.t 18)) .unit,
  .g 19 true (some 20) (.mv 20 (.t 0)) .unit,
  .g 19 true (some 21) (.mv 21 (.t 3)) .unit,
  .g 19 true (some 22) (.bin 22 false .sub (.t 21) (.c (.int .i64 1))) .unit,
  .g 19 true (some 23) (.iadr 23 1 (.t 20) (.t 22)) .unit,
  .g 19 true (some 24) (.load 24 (.t 23) 1 false) .unit,
  .g 19 true (some 25) (.mv 25 (.t 0)) .unit,
  .g 19 true (some 26) (.mv 26 (.t 3)) .unit,
  .g 19 true (some 27) (.iadr 27 1 (.t 25) (.t 26)) .unit,
  .g 19 true (some 28) (.load 28 (.t 27) 1 false) .unit,
  .g 19 true (some 29) (.bin 29 false .geq (.t 24) (.t 28)) .unit,
  .g 16 false (some 30) (.pick 30 (.t 19) (.t 29) (.c (.bool false))) .unit,
  .p (.pick 31 (.t 16) (.c (.bool true)) (.t 30)) .unit]))
 (.cond (.t 31) (.seq (.reg none [.p (.mv 2 (.c (.bool false))) .unit])
 .ret) .skip)))
 (.reg none [.p (.mv 8 (.t 3)) .unit,
  .p (.bin 9 false .add (.t 8) (.c (.int .i64 1))) .unit,
  .p (.mv 3 (.t 9)) .unit])))
noncomputable def L_spec_l17Names_1 : Nat → (List (List UInt8)) × Int → Option ((Unit) ⊕ (Bool)) := evL [fn_spec_NameOk] (finT [.t 2] [] [.cell .bool]) 0 ⟨[(0, true), (3, false)], [.cell (.sl false .str), .cell (.int .i64)]⟩ ⟨[], []⟩ B_spec_l17Names_1
def F_spec_l17Names : TF := ⟨(.seq (.reg none [.p (.mv 2 (.c (.bool false))) .unit])
 (.seq (.seq (.reg none [.p (.mv 3 (.c (.int .i64 0))) .unit])
 (.jl 0 ⟨[(0, true), (3, false)], [.cell (.sl false .str), .cell (.int .i64)]⟩ ⟨[], []⟩ B_spec_l17Names_1))
 (.seq (.reg none [.p (.mv 2 (.c (.bool true))) .unit])
 .ret))),
 32, 1, [.t 2]⟩
theorem m_spec_l17Names : mH Tryd.prog 40 [] = some (F_spec_l17Names.code.x, F_spec_l17Names.N, F_spec_l17Names.np, F_spec_l17Names.res) := by kernel_rfl
noncomputable def T_spec_l17Names : List (List UInt8) → Option (Bool) := evF [fn_spec_NameOk] F_spec_l17Names [.cell (.sl false .str)] [] [.cell .bool] []
noncomputable def fn_spec_l17Names : TFn := ⟨40, [.cell (.sl false .str)], [], [.cell .bool], [], T_spec_l17Names⟩
theorem ok_spec_l17Names : FnOk Tryd.prog fn_spec_l17Names := evF_ok mixed (allOk_cons ok_spec_NameOk allOk_nil) m_spec_l17Names (by decide)
def F_spec_WordOk : TF := ⟨(.seq (.reg none [.p (.box 1 (.t 0)) .unit,
  .p (.mv 2 (.c (.bool false))) .unit])
 (.seq (.seq (.join ⟨[(1, false), (18, false)], [.box (.pair (.int .i64) (.pair .str (.pair (.sl false .str) .str))), .cell .bool]⟩ (.reg none [.p (.fadr 3 (.t 1) 0) .unit,
  .p (.load 4 (.t 3) 1 false) .unit,
  .p (.callB 5 n_spec_l01In [((.t 4), 0), ((.c (.int .i64 1)), 0), ((.c (.int .i64 4)), 0)]) .unit,
  .p (.un 6 .not (.t 5)) .unit,
  .p (.mv 7 (.t 6)) .unit,
  .g 7 false (some 8) (.fadr 8 (.t 1) 1) .unit,
  .g 7 false (some 9) (.load 9 (.t 8) 1 false) .unit,
  .g 7 false (some 10) (.callB 10 n_spec_l17Private [((.t 9), 0)]) .unit,
  .g 7 false (some 11) (.un 11 .not (.t 10)) .unit,
  .p (.pick 12 (.t 7) (.c (.bool true)) (.t 11)) .unit,
  .p (.mv 13 (.t 12)) .unit,
  .g 13 false (some 14) (.fadr 14 (.t 1) 2) .unit,
  .g 13 false (some 15) (.load 15 (.t 14) 1 false) .unit,
  .g 13 false (some 16) (.callB 16 n_spec_l17Names [((.t 15), 0)]) .unit,
  .g 13 false (some 17) (.un 17 .not (.t 16)) .unit,
  .p (.pick 18 (.t 13) (.c (.bool true)) (.t 17)) .unit]))
 (.cond (.t 18) (.seq (.reg none [.p (.mv 2 (.c (.bool false))) .unit])
 .ret) .skip))
 (.seq (.seq (.reg none [.p (.fadr 19 (.t 1) 0) .unit,
  .p (.load 20 (.t 19) 1 false) .unit])
 (.block 0 (.seq (.reg none [.p (.bin 22 false .eql (.t 20) (.c (.int .i64 4))) .unit,
  .p (.mv 21 (.t 22)) .unit])
 (.cond (.t 21) (.seq (.reg none [.p (.fadr 23 (.t 1) 2) .unit,
  .p (.load 24 (.t 23) 1 false) .unit,
  .p (.lenB 25 (.t 24)) .unit,
  .p (.callB 26 n_spec_l01In [((.t 25), 0), ((.c (.int .i64 1)), 0), ((.c (.int .i64 3)), 0)]) .unit,
  .p (.mv 27 (.t 26)) .unit,
  .g 27 true (some 28) (.fadr 28 (.t 1) 3) .unit,
  .g 27 true (some 29) (.load 29 (.t 28) 1 false) .unit,
  .g 27 true (some 30) (.lenS 30 (.t 29)) .unit,
  .g 27 true (some 31) (.bin 31 false .leq (.t 30) (.c (.int .i64 20))) .unit,
  .p (.pick 32 (.t 27) (.t 31) (.c (.bool false))) .unit,
  .p (.mv 2 (.t 32)) .unit])
 .ret) (.seq (.reg none [.p (.bin 34 false .eql (.t 20) (.c (.int .i64 3))) .unit,
  .p (.mv 33 (.t 34)) .unit])
 (.cond (.t 33) (.seq (.reg none [.p (.fadr 35 (.t 1) 2) .unit,
  .p (.load 36 (.t 35) 1 false) .unit,
  .p (.lenB 37 (.t 36)) .unit,
  .p (.bin 38 false .eql (.t 37) (.c (.int .i64 0))) .unit,
  .p (.mv 39 (.t 38)) .unit,
  .g 39 true (some 40) (.fadr 40 (.t 1) 3) .unit,
  .g 39 true (some 41) (.load 41 (.t 40) 1 false) .unit,
  .g 39 true (some 42) (.bin 42 false .eql (.t 41) (.c (.string (ba [])))) .unit,
  .p (.pick 43 (.t 39) (.t 42) (.c (.bool false))) .unit,
  .p (.mv 2 (.t 43)) .unit])
 .ret) .skip))))))
 (.seq (.reg none [.p (.fadr 44 (.t 1) 2) .unit,
  .p (.load 45 (.t 44) 1 false) .unit,
  .p (.lenB 46 (.t 45)) .unit,
  .p (.bin 47 false .eql (.t 46) (.c (.int .i64 1))) .unit,
  .p (.mv 48 (.t 47)) .unit,
  .g 48 true (some 49) (.fadr 49 (.t 1) 3) .unit,
  .g 48 true (some 50) (.load 50 (.t 49) 1 false) .unit,
  .g 48 true (some 51) (.bin 51 false .eql (.t 50) (.c (.string (ba [])))) .unit,
  .p (.pick 52 (.t 48) (.t 51) (.c (.bool false))) .unit,
  .p (.mv 2 (.t 52)) .unit])
 .ret)))),
 53, 1, [.t 2]⟩
theorem m_spec_WordOk : mH Tryd.prog 13 [] = some (F_spec_WordOk.code.x, F_spec_WordOk.N, F_spec_WordOk.np, F_spec_WordOk.res) := by kernel_rfl
noncomputable def T_spec_WordOk : Int × List UInt8 × List (List UInt8) × List UInt8 → Option (Bool) := evF [fn_spec_l01In, fn_spec_l17Private, fn_spec_l17Names] F_spec_WordOk [.agg (.pair (.int .i64) (.pair .str (.pair (.sl false .str) .str)))] [] [.cell .bool] []
noncomputable def fn_spec_WordOk : TFn := ⟨13, [.agg (.pair (.int .i64) (.pair .str (.pair (.sl false .str) .str)))], [], [.cell .bool], [], T_spec_WordOk⟩
theorem ok_spec_WordOk : FnOk Tryd.prog fn_spec_WordOk := evF_ok mixed (allOk_cons ok_spec_l01In (allOk_cons ok_spec_l17Private (allOk_cons ok_spec_l17Names allOk_nil))) m_spec_WordOk (by decide)
def F_spec_l05Byte : TF := ⟨(.seq (.reg none [.p (.mv 2 (.c (.string (ba [])))) .unit])
 (.seq (.reg none [.p (.mv 3 (.t 0)) .unit,
  .p (.cvi 4 .u8 .i64 (.t 3)) .unit,
  .p (.bldS 5 1 [(.lit (.int .u8 0))] [⟨0, 1, (.t 4)⟩]) (.int .u8),
  .p (.b2s 6 (.t 5)) .unit,
  .p (.mv 2 (.t 6)) .unit])
 .ret)),
 7, 1, [.t 2]⟩
theorem m_spec_l05Byte : mH Tryd.prog 52 [] = some (F_spec_l05Byte.code.x, F_spec_l05Byte.N, F_spec_l05Byte.np, F_spec_l05Byte.res) := by kernel_rfl
noncomputable def T_spec_l05Byte : Int → Option (List UInt8) := evF [] F_spec_l05Byte [.cell (.int .i64)] [] [.cell .str] []
noncomputable def fn_spec_l05Byte : TFn := ⟨52, [.cell (.int .i64)], [], [.cell .str], [], T_spec_l05Byte⟩
theorem ok_spec_l05Byte : FnOk Tryd.prog fn_spec_l05Byte := evF_ok mixed allOk_nil m_spec_l05Byte (by decide)
def B_spec_l01Var_1 : TC := (.seq (.seq (.reg none [.p (.mv 5 (.t 0)) .unit,
  .p (.bin 6 false .gtr (.t 5) (.c (.int .i64 127))) .unit])
 (.cond (.t 6) .skip (.exit 0)))
 (.block 1 (.seq (.reg none [.p (.mvT 7 3) .unit,
  .p (.mv 8 (.t 0)) .unit,
  .p (.bin 9 false .rem (.t 8) (.c (.int .i64 128))) .unit,
  .p (.bin 10 false .add (.t 9) (.c (.int .i64 128))) .unit,
  .p (.cvi 11 .u8 .i64 (.t 10)) .unit,
  .p (.bldS 12 1 [(.lit (.int .u8 0))] [⟨0, 1, (.t 11)⟩]) (.int .u8),
  .p (.app 13 1 1 (.t 7) (.t 12)) (.int .u8),
  .p (.mvT 3 13) .unit])
 (.reg none [.p (.mv 14 (.t 0)) .unit,
  .p (.bin 15 false .quo (.t 14) (.c (.int .i64 128))) .unit,
  .p (.mv 0 (.t 15)) .unit]))))
noncomputable def L_spec_l01Var_1 : Nat → (Int) × List (Int) → Option (((Int) × List (Int)) ⊕ (List UInt8)) := evL [] (finT [.t 2] [] [.cell .str]) 0 ⟨[(0, false), (3, false)], [.cell (.int .i64), .cell (.sl true (.int .u8))]⟩ ⟨[(0, false), (3, false)], [.cell (.int .i64), .cell (.sl true (.int .u8))]⟩ B_spec_l01Var_1
def F_spec_l01Var : TF := ⟨(.seq (.reg none [.p (.mv 2 (.c (.string (ba [])))) .unit])
 (.seq (.reg none [.p (.bldS 4 0 [(.lit (.int .u8 0))] []) (.int .u8),
  .p (.mvT 3 4) .unit])
 (.seq (.jl 0 ⟨[(0, false), (3, false)], [.cell (.int .i64), .cell (.sl true (.int .u8))]⟩ ⟨[(0, false), (3, false)], [.cell (.int .i64), .cell (.sl true (.int .u8))]⟩ B_spec_l01Var_1)
 (.seq (.reg none [.p (.mvT 16 3) .unit,
  .p (.mv 17 (.t 0)) .unit,
  .p (.cvi 18 .u8 .i64 (.t 17)) .unit,
  .p (.bldS 19 1 [(.lit (.int .u8 0))] [⟨0, 1, (.t 18)⟩]) (.int .u8),
  .p (.app 20 1 1 (.t 16) (.t 19)) (.int .u8),
  .p (.b2s 21 (.t 20)) .unit,
  .p (.mv 2 (.t 21)) .unit])
 .ret)))),
 22, 1, [.t 2]⟩
theorem m_spec_l01Var : mH Tryd.prog 54 [(1, 1, .t), (3, 0, .t), (3, 7, .t), (5, 0, .t)] = some (F_spec_l01Var.code.x, F_spec_l01Var.N, F_spec_l01Var.np, F_spec_l01Var.res) := by kernel_rfl
noncomputable def T_spec_l01Var : Int → Option (List UInt8) := evF [] F_spec_l01Var [.cell (.int .i64)] [] [.cell .str] []
noncomputable def fn_spec_l01Var : TFn := ⟨54, [.cell (.int .i64)], [], [.cell .str], [], T_spec_l01Var⟩
theorem ok_spec_l01Var : FnOk Tryd.prog fn_spec_l01Var := evF_ok mixed allOk_nil m_spec_l01Var (by decide)
def F_spec_l05Short : TF := ⟨(.seq (.reg none [.p (.mv 2 (.c (.string (ba [])))) .unit])
 (.seq (.reg none [.p (.mv 3 (.t 0)) .unit,
  .p (.lenS 4 (.t 3)) .unit,
  .p (.callB 5 n_spec_l01Var [((.t 4), 0)]) .unit,
  .p (.mv 6 (.t 0)) .unit,
  .p (.bin 7 false .add (.t 5) (.t 6)) .unit,
  .p (.mv 2 (.t 7)) .unit])
 .ret)),
 8, 1, [.t 2]⟩
theorem m_spec_l05Short : mH Tryd.prog 53 [] = some (F_spec_l05Short.code.x, F_spec_l05Short.N, F_spec_l05Short.np, F_spec_l05Short.res) := by kernel_rfl
noncomputable def T_spec_l05Short : List UInt8 → Option (List UInt8) := evF [fn_spec_l01Var] F_spec_l05Short [.cell .str] [] [.cell .str] []
noncomputable def fn_spec_l05Short : TFn := ⟨53, [.cell .str], [], [.cell .str], [], T_spec_l05Short⟩
theorem ok_spec_l05Short : FnOk Tryd.prog fn_spec_l05Short := evF_ok mixed (allOk_cons ok_spec_l01Var allOk_nil) m_spec_l05Short (by decide)
def B_spec_WordText_1 : TC := (.seq (.seq (.reg none [.p (.mv 21 (.t 5)) .unit,
  .p (.fadr 22 (.t 1) 2) .unit,
  .p (.load 23 (.t 22) 1 false) .unit,
  .p (.lenB 24 (.t 23)) .unit,
  .p (.bin 25 false .lss (.t 21) (.t 24)) .unit])
 (.cond (.t 25) .skip (.exit 0)))
 (.seq (.block 1 (.reg none [.p (.mv 28 (.t 4)) .unit,
  .p (.fadr 29 (.t 1) 2) .unit,
  .p (.load 30 (.t 29) 1 false) .unit,
  .p (.mv 31 (.t 5)) .unit,
  .p (.iadr 32 1 (.t 30) (.t 31)) .unit,
  .p (.load 33 (.t 32) 1 false) .unit,
  .p (.callB 34 n_spec_l05Short [((.t 33), 0)]) .unit,
  .p (.bin 35 false .add (.t 28) (.t 34)) .unit,
  .p (.mv 4 (.t 35)) .unit]))
 (.reg none [.p (.mv 26 (.t 5)) .unit,
  .p (.bin 27 false .add (.t 26) (.c (.int .i64 1))) .unit,
  .p (.mv 5 (.t 27)) .unit])))
noncomputable def L_spec_WordText_1 : Nat → (Int × List UInt8 × List (List UInt8) × List UInt8) × (List UInt8) × Int → Option (((Int × List UInt8 × List (List UInt8) × List UInt8) × List UInt8) ⊕ ((List UInt8) × Bool)) := evL [fn_spec_WordOk, fn_spec_l05Byte, fn_spec_l05Short, fn_spec_l01Var] (finT [.t 2, .t 3] [] [.cell .str, .cell .bool]) 0 ⟨[(1, false), (4, false), (5, false)], [.box (.pair (.int .i64) (.pair .str (.pair (.sl false .str) .str))), .cell .str, .cell (.int .i64)]⟩ ⟨[(1, false), (4, false)], [.box (.pair (.int .i64) (.pair .str (.pair (.sl false .str) .str))), .cell .str]⟩ B_spec_WordText_1
def F_spec_WordText : TF := ⟨(.seq (.reg none [.p (.box 1 (.t 0)) .unit,
  .p (.mv 2 (.c (.string (ba [])))) .unit,
  .p (.mv 3 (.c (.bool false))) .unit])
 (.seq (.seq (.reg none [.p (.load 6 (.t 1) 4 true) .unit,
  .p (.callB 7 n_spec_WordOk [((.t 6), 0)]) .unit,
  .p (.un 8 .not (.t 7)) .unit])
 (.cond (.t 8) (.seq (.reg none [.p (.mv 2 (.c (.string (ba [])))) .unit,
  .p (.mv 3 (.c (.bool false))) .unit])
 .ret) .skip))
 (.seq (.reg (some [[], [0], [1], [], [3], [4, 2], [2, 5], [], [7], [8], [9, 5], [6, 10], [11, 10, 0, 1, 2, 3, 4, 5, 6, 7, 8, 9, 10, 11]]) [.p (.fadr 9 (.t 1) 0) .unit,
  .p (.load 10 (.t 9) 1 false) .unit,
  .p (.callB 11 n_spec_l05Byte [((.t 10), 0)]) .unit,
  .p (.fadr 12 (.t 1) 1) .unit,
  .p (.load 13 (.t 12) 1 false) .unit,
  .p (.callB 14 n_spec_l05Short [((.t 13), 0)]) .unit,
  .p (.bin 15 false .add (.t 11) (.t 14)) .unit,
  .p (.fadr 16 (.t 1) 2) .unit,
  .p (.load 17 (.t 16) 1 false) .unit,
  .p (.lenB 18 (.t 17)) .unit,
  .p (.callB 19 n_spec_l01Var [((.t 18), 0)]) .unit,
  .p (.bin 20 false .add (.t 15) (.t 19)) .unit,
  .p (.mv 4 (.t 20)) .unit])
 (.seq (.seq (.reg none [.p (.mv 5 (.c (.int .i64 0))) .unit])
 (.jl 0 ⟨[(1, false), (4, false), (5, false)], [.box (.pair (.int .i64) (.pair .str (.pair (.sl false .str) .str))), .cell .str, .cell (.int .i64)]⟩ ⟨[(1, false), (4, false)], [.box (.pair (.int .i64) (.pair .str (.pair (.sl false .str) .str))), .cell .str]⟩ B_spec_WordText_1))
 (.seq (.reg none [.p (.mv 36 (.t 4)) .unit,
  .p (.fadr 37 (.t 1) 3) .unit,
  .p (.load 38 (.t 37) 1 false) .unit,
  .p (.callB 39 n_spec_l05Short [((.t 38), 0)]) .unit,
  .p (.bin 40 false .add (.t 36) (.t 39)) .unit,
  .p (.mv 2 (.t 40)) .unit,
  .p (.mv 3 (.c (.bool true))) .unit])
 .ret))))),
 41, 1, [.t 2, .t 3]⟩
theorem m_spec_WordText : mH Tryd.prog 22 [] = some (F_spec_WordText.code.x, F_spec_WordText.N, F_spec_WordText.np, F_spec_WordText.res) := by kernel_rfl
noncomputable def T_spec_WordText : Int × List UInt8 × List (List UInt8) × List UInt8 → Option ((List UInt8) × Bool) := evF [fn_spec_WordOk, fn_spec_l05Byte, fn_spec_l05Short, fn_spec_l01Var] F_spec_WordText [.agg (.pair (.int .i64) (.pair .str (.pair (.sl false .str) .str)))] [] [.cell .str, .cell .bool] []
noncomputable def fn_spec_WordText : TFn := ⟨22, [.agg (.pair (.int .i64) (.pair .str (.pair (.sl false .str) .str)))], [], [.cell .str, .cell .bool], [], T_spec_WordText⟩
theorem ok_spec_WordText : FnOk Tryd.prog fn_spec_WordText := evF_ok mixed (allOk_cons ok_spec_WordOk (allOk_cons ok_spec_l05Byte (allOk_cons ok_spec_l05Short (allOk_cons ok_spec_l01Var allOk_nil)))) m_spec_WordText (by decide)
def F_impl_Decimal : TF := ⟨(.seq (.reg none [.p (.mv 2 (.c (.string (ba [])))) .unit])
 (.seq (.reg none [.p (.mv 3 (.t 0)) .unit,
  .p (.callB 4 n_strconv_Itoa [((.t 3), 0)]) .unit,
  .p (.mv 2 (.t 4)) .unit])
 .ret)),
 5, 1, [.t 2]⟩
theorem m_impl_Decimal : mH Tryd.prog 32 [] = some (F_impl_Decimal.code.x, F_impl_Decimal.N, F_impl_Decimal.np, F_impl_Decimal.res) := by kernel_rfl
noncomputable def T_impl_Decimal : Int → Option (List UInt8) := evF [fn_strconv_Itoa] F_impl_Decimal [.cell (.int .i64)] [] [.cell .str] []
noncomputable def fn_impl_Decimal : TFn := ⟨32, [.cell (.int .i64)], [], [.cell .str], [], T_impl_Decimal⟩
theorem ok_impl_Decimal : FnOk Tryd.prog fn_impl_Decimal := evF_ok mixed (allOk_cons ok_strconv_Itoa allOk_nil) m_impl_Decimal (by decide)
def B_impl_ReadDecimal_1 : TC := (.seq (.seq (.reg none [.p (.mv 14 (.t 5)) .unit,
  .p (.mv 15 (.t 0)) .unit,
  .p (.lenS 16 (.t 15)) .unit,
  .p (.bin 17 false .lss (.t 14) (.t 16)) .unit])
 (.cond (.t 17) .skip (.exit 0)))
 (.seq (.block 1 (.seq (.seq (.join ⟨[(0, true), (4, false), (5, false), (29, false)], [.cell .str, .cell (.int .i64), .cell (.int .i64), .cell .bool]⟩ (.reg none [.p (.mv 20 (.t 0)) .unit,
  .p (.mv 21 (.t 5)) .unit,
  .p (.idx 22 (.t 20) (.t 21)) .unit,
  .p (.bin 23 false .lss (.t 22) (.c (.int .u8 48))) .unit,
  .p (.mv 24 (.t 23)) .unit,
  .g 24 false (some 25) (.mv 25 (.t 0)) .unit,
  .g 24 false (some 26) (.mv 26 (.t 5)) .unit,
  .g 24 false (some 27) (.idx 27 (.t 25) (.t 26)) .unit,
  .g 24 false (some 28) (.bin 28 false .gtr (.t 27) (.c (.int .u8 57))) .unit,
  .p (.pick 29 (.t 24) (.c (.bool true)) (.t 28)) .unit]))
 (.cond (.t 29) (.seq (.reg none [.p (.mv 2 (.c (.int .i64 0))) .unit,
  .p (.mv 3 (.c (.bool false))) .unit])
 .ret) .skip))
 (.reg none [.p (.mv 30 (.t 4)) .unit,
  .p (.bin 31 false .mul (.t 30) (.c (.int .i64 10))) .unit,
  .p (.mv 32 (.t 0)) .unit,
  .p (.mv 33 (.t 5)) .unit,
  .p (.idx 34 (.t 32) (.t 33)) .unit,
  .p (.bin 35 false .sub (.t 34) (.c (.int .u8 48))) .unit,
  .p (.cvi 36 .i64 .u8 (.t 35)) .unit,
  .p (.bin 37 false .add (.t 31) (.t 36)) .unit,
  .p (.mv 4 (.t 37)) .unit])))
 (.reg none [.p (.mv 18 (.t 5)) .unit,
  .p (.bin 19 false .add (.t 18) (.c (.int .i64 1))) .unit,
  .p (.mv 5 (.t 19)) .unit])))
noncomputable def L_impl_ReadDecimal_1 : Nat → (List UInt8) × (Int) × Int → Option (((List UInt8) × Int) ⊕ ((Int) × Bool)) := evL [fn_impl_Decimal] (finT [.t 2, .t 3] [] [.cell (.int .i64), .cell .bool]) 0 ⟨[(0, true), (4, false), (5, false)], [.cell .str, .cell (.int .i64), .cell (.int .i64)]⟩ ⟨[(0, true), (4, false)], [.cell .str, .cell (.int .i64)]⟩ B_impl_ReadDecimal_1
def F_impl_ReadDecimal : TF := ⟨(.seq (.reg none [.p (.mv 2 (.c (.int .i64 0))) .unit,
  .p (.mv 3 (.c (.bool false))) .unit])
 (.seq (.seq (.join ⟨[(0, true), (13, false)], [.cell .str, .cell .bool]⟩ (.reg none [.p (.mv 6 (.t 0)) .unit,
  .p (.lenS 7 (.t 6)) .unit,
  .p (.bin 8 false .eql (.t 7) (.c (.int .i64 0))) .unit,
  .p (.mv 9 (.t 8)) .unit,
  .g 9 false (some 10) (.mv 10 (.t 0)) .unit,
  .g 9 false (some 11) (.lenS 11 (.t 10)) .unit,
  .g 9 false (some 12) (.bin 12 false .gtr (.t 11) (.c (.int .i64 10))) .unit,
  .p (.pick 13 (.t 9) (.c (.bool true)) (.t 12)) .unit]))
 (.cond (.t 13) (.seq (.reg none [.p (.mv 2 (.c (.int .i64 0))) .unit,
  .p (.mv 3 (.c (.bool false))) .unit])
 .ret) .skip))
 (.seq (.reg none [.p (.mv 4 (.c (.int .i64 0))) .unit])
 (.seq (.seq (.reg none [.p (.mv 5 (.c (.int .i64 0))) .unit])
 (.jl 0 ⟨[(0, true), (4, false), (5, false)], [.cell .str, .cell (.int .i64), .cell (.int .i64)]⟩ ⟨[(0, true), (4, false)], [.cell .str, .cell (.int .i64)]⟩ B_impl_ReadDecimal_1))
 (.seq (.seq (.join ⟨[(4, false), (45, false)], [.cell (.int .i64), .cell .bool]⟩ (.reg none [.p (.mv 38 (.t 4)) .unit,
  .p (.bin 39 false .gtr (.t 38) (.c (.int .i64 1000000000))) .unit,
  .p (.mv 40 (.t 39)) .unit,
  .g 40 false (some 41) (.mv 41 (.t 4)) .unit,
  .g 40 false (some 42) (.callB 42 n_impl_Decimal [((.t 41), 0)]) .unit,
  .g 40 false (some 43) (.mv 43 (.t 0)) .unit,
  .g 40 false (some 44) (.bin 44 false .neq (.t 42) (.t 43)) .unit,
  .p (.pick 45 (.t 40) (.c (.bool true)) (.t 44)) .unit]))
 (.cond (.t 45) (.seq (.reg none [.p (.mv 2 (.c (.int .i64 0))) .unit,
  .p (.mv 3 (.c (.bool false))) .unit])
 .ret) .skip))
 (.seq (.reg none [.p (.mv 46 (.t 4)) .unit,
  .p (.mv 2 (.t 46)) .unit,
  .p (.mv 3 (.c (.bool true))) .unit])
 .ret)))))),
 47, 1, [.t 2, .t 3]⟩
theorem m_impl_ReadDecimal : mH Tryd.prog 70 [] = some (F_impl_ReadDecimal.code.x, F_impl_ReadDecimal.N, F_impl_ReadDecimal.np, F_impl_ReadDecimal.res) := by kernel_rfl
noncomputable def T_impl_ReadDecimal : List UInt8 → Option ((Int) × Bool) := evF [fn_impl_Decimal] F_impl_ReadDecimal [.cell .str] [] [.cell (.int .i64), .cell .bool] []
noncomputable def fn_impl_ReadDecimal : TFn := ⟨70, [.cell .str], [], [.cell (.int .i64), .cell .bool], [], T_impl_ReadDecimal⟩
theorem ok_impl_ReadDecimal : FnOk Tryd.prog fn_impl_ReadDecimal := evF_ok mixed (allOk_cons ok_impl_Decimal allOk_nil) m_impl_ReadDecimal (by decide)
def F_impl_inRange : TF := ⟨(.seq (.reg none [.p (.mv 6 (.c (.bool false))) .unit])
 (.seq (.reg none [.p (.mv 7 (.t 0)) .unit,
  .p (.mv 8 (.t 1)) .unit,
  .p (.bin 9 false .geq (.t 7) (.t 8)) .unit,
  .p (.mv 10 (.t 9)) .unit,
  .g 10 true (some 11) (.mv 11 (.t 0)) .unit,
  .g 10 true (some 12) (.mv 12 (.t 2)) .unit,
  .g 10 true (some 13) (.bin 13 false .leq (.t 11) (.t 12)) .unit,
  .p (.pick 14 (.t 10) (.t 13) (.c (.bool false))) .unit,
  .p (.mv 6 (.t 14)) .unit])
 .ret)),
 15, 3, [.t 6]⟩
theorem m_impl_inRange : mH Tryd.prog 44 [] = some (F_impl_inRange.code.x, F_impl_inRange.N, F_impl_inRange.np, F_impl_inRange.res) := by kernel_rfl
noncomputable def T_impl_inRange : (Int) × (Int) × Int → Option (Bool) := evF [] F_impl_inRange [.cell (.int .i64), .cell (.int .i64), .cell (.int .i64)] [] [.cell .bool] []
noncomputable def fn_impl_inRange : TFn := ⟨44, [.cell (.int .i64), .cell (.int .i64), .cell (.int .i64)], [], [.cell .bool], [], T_impl_inRange⟩
theorem ok_impl_inRange : FnOk Tryd.prog fn_impl_inRange := evF_ok mixed allOk_nil m_impl_inRange (by decide)
def B_impl_NameOk_1 : TC := (.seq (.seq (.reg none [.p (.mv 5 (.t 3)) .unit,
  .p (.mv 6 (.t 0)) .unit,
  .p (.lenS 7 (.t 6)) .unit,
  .p (.bin 8 false .lss (.t 5) (.t 7)) .unit])
 (.cond (.t 8) .skip (.exit 0)))
 (.seq (.block 1 (.seq (.join ⟨[(0, true), (3, false), (4, false)], [.cell .str, .cell (.int .i64), .cell .bool]⟩ (.reg none [.p (.mv 11 (.t 0)) .unit,
  .p (.mv 12 (.t 3)) .unit,
  .p (.idx 13 (.t 11) (.t 12)) .unit,
  .p (.bin 14 false .geq (.t 13) (.c (.int .u8 97))) .unit,
  .p (.mv 15 (.t 14)) .unit,
  .g 15 true (some 16) (.mv 16 (.t 0)) .unit,
  .g 15 true (some 17) (.mv 17 (.t 3)) .unit,
  .g 15 true (some 18) (.idx 18 (.t 16) (.t 17)) .unit,
  .g 15 true (some 19) (.bin 19 false .leq (.t 18) (.c (.int .u8 122))) .unit,
  .p (.pick 20 (.t 15) (.t 19) (.c (.bool false))) .unit,
  .p (.mv 4 (.t 20)) .unit]))
 (.seq (.join ⟨[(0, true), (3, false), (38, false)], [.cell .str, .cell (.int .i64), .cell .bool]⟩ (.reg none [.p (.mv 21 (.t 4)) .unit,
  .p (.un 22 .not (.t 21)) .unit,
  .p (.mv 23 (.t 22)) .unit,
  .g 23 true (some 24) (.mv 24 (.t 3)) .unit,
  .g 23 true (some 25) (.bin 25 false .eql (.t 24) (.c (.int .i64 0))) .unit,
  .g 23 true (some 26) (.mv 26 (.t 25)) .unit,
  .g 26 false (some 27) (.mv 27 (.t 0)) .unit,
  .g 26 false (some 28) (.mv 28 (.t 3)) .unit,
  .g 26 false (some 29) (.idx 29 (.t 27) (.t 28)) .unit,
  .g 26 false (some 30) (.bin 30 false .lss (.t 29) (.c (.int .u8 48))) .unit,
  .g 23 true (some 31) (.pick 31 (.t 26) (.c (.bool true)) (.t 30)) .unit,
  .g 23 true (some 32) (.mv 32 (.t 31)) .unit,
  .g 32 false (some 33) (.mv 33 (.t 0)) .unit,
  .g 32 false (some 34) (.mv 34 (.t 3)) .unit,
  .g 32 false (some 35) (.idx 35 (.t 33) (.t 34)) .unit,
  .g 32 false (some 36) (.bin 36 false .gtr (.t 35) (.c (.int .u8 57))) .unit,
  .g 23 true (some 37) (.pick 37 (.t 32) (.c (.bool true)) (.t 36)) .unit,
  .p (.pick 38 (.t 23) (.t 37) (.c (.bool false))) .unit]))
 (.cond (.t 38) (.seq (.reg none [.p (.mv 2 (.c (.bool false))) .unit])
 .ret) .skip))))
 (.reg none [.p (.mv 9 (.t 3)) .unit,
  .p (.bin 10 false .add (.t 9) (.c (.int .i64 1))) .unit,
  .p (.mv 3 (.t 10)) .unit])))
noncomputable def L_impl_NameOk_1 : Nat → (List UInt8) × Int → Option ((List UInt8) ⊕ (Bool)) := evL [fn_impl_inRange] (finT [.t 2] [] [.cell .bool]) 0 ⟨[(0, true), (3, false)], [.cell .str, .cell (.int .i64)]⟩ ⟨[(0, true)], [.cell .str]⟩ B_impl_NameOk_1
def F_impl_NameOk : TF := ⟨(.seq (.reg none [.p (.mv 2 (.c (.bool false))) .unit])
 (.seq (.seq (.reg none [.p (.mv 3 (.c (.int .i64 0))) .unit])
 (.jl 0 ⟨[(0, true), (3, false)], [.cell .str, .cell (.int .i64)]⟩ ⟨[(0, true)], [.cell .str]⟩ B_impl_NameOk_1))
 (.seq (.reg none [.p (.mv 39 (.t 0)) .unit,
  .p (.lenS 40 (.t 39)) .unit,
  .p (.callB 41 n_impl_inRange [((.t 40), 0), ((.c (.int .i64 1)), 0), ((.c (.int .i64 12)), 0)]) .unit,
  .p (.mv 2 (.t 41)) .unit])
 .ret))),
 42, 1, [.t 2]⟩
theorem m_impl_NameOk : mH Tryd.prog 49 [] = some (F_impl_NameOk.code.x, F_impl_NameOk.N, F_impl_NameOk.np, F_impl_NameOk.res) := by kernel_rfl
noncomputable def T_impl_NameOk : List UInt8 → Option (Bool) := evF [fn_impl_inRange] F_impl_NameOk [.cell .str] [] [.cell .bool] []
noncomputable def fn_impl_NameOk : TFn := ⟨49, [.cell .str], [], [.cell .bool], [], T_impl_NameOk⟩
theorem ok_impl_NameOk : FnOk Tryd.prog fn_impl_NameOk := evF_ok mixed (allOk_cons ok_impl_inRange allOk_nil) m_impl_NameOk (by decide)
def F_impl_PrivateName : TF := ⟨(.seq (.reg none [.p (.mv 4 (.c (.string (ba [])))) .unit])
 (.seq (.seq (.join ⟨[(0, true), (1, true), (12, false)], [.cell (.int .i64), .cell .str, .cell .bool]⟩ (.reg none [.p (.mv 5 (.t 0)) .unit,
  .p (.callB 6 n_impl_inRange [((.t 5), 0), ((.c (.int .i64 1)), 0), ((.c (.int .i64 9)), 0)]) .unit,
  .p (.un 7 .not (.t 6)) .unit,
  .p (.mv 8 (.t 7)) .unit,
  .g 8 false (some 9) (.mv 9 (.t 1)) .unit,
  .g 8 false (some 10) (.callB 10 n_impl_NameOk [((.t 9), 0)]) .unit,
  .g 8 false (some 11) (.un 11 .not (.t 10)) .unit,
  .p (.pick 12 (.t 8) (.c (.bool true)) (.t 11)) .unit]))
 (.cond (.t 12) (.seq (.reg none [.p (.mv 4 (.c (.string (ba [])))) .unit])
 .ret) .skip))
 (.seq (.reg none [.p (.mv 13 (.t 0)) .unit,
  .p (.callB 14 n_impl_Decimal [((.t 13), 0)]) .unit,
  .p (.bin 15 false .add (.c (.string (ba [35]))) (.t 14)) .unit,
  .p (.bin 16 false .add (.t 15) (.c (.string (ba [35])))) .unit,
  .p (.mv 17 (.t 1)) .unit,
  .p (.bin 18 false .add (.t 16) (.t 17)) .unit,
  .p (.mv 4 (.t 18)) .unit])
 .ret))),
 19, 2, [.t 4]⟩
theorem m_impl_PrivateName : mH Tryd.prog 71 [] = some (F_impl_PrivateName.code.x, F_impl_PrivateName.N, F_impl_PrivateName.np, F_impl_PrivateName.res) := by kernel_rfl
noncomputable def T_impl_PrivateName : (Int) × List UInt8 → Option (List UInt8) := evF [fn_impl_inRange, fn_impl_NameOk, fn_impl_Decimal] F_impl_PrivateName [.cell (.int .i64), .cell .str] [] [.cell .str] []
noncomputable def fn_impl_PrivateName : TFn := ⟨71, [.cell (.int .i64), .cell .str], [], [.cell .str], [], T_impl_PrivateName⟩
theorem ok_impl_PrivateName : FnOk Tryd.prog fn_impl_PrivateName := evF_ok mixed (allOk_cons ok_impl_inRange (allOk_cons ok_impl_NameOk (allOk_cons ok_impl_Decimal allOk_nil))) m_impl_PrivateName (by decide)
def F_impl_SplitPrivate : TF := ⟨(.seq (.reg none [.p (.mv 2 (.c (.int .i64 0))) .unit,
  .p (.mv 3 (.c (.string (ba [])))) .unit,
  .p (.mv 4 (.c (.bool false))) .unit])
 (.seq (.reg none [.p (.mv 8 (.t 0)) .unit,
  .p (.callB 9 n_strings_Split [((.t 8), 0), ((.c (.string (ba [35]))), 0)]) .unit,
  .p (.mvT 5 9) .unit])
 (.seq (.seq (.reg none [.p (.mvA 10 5) .unit,
  .p (.lenB 11 (.t 10)) .unit,
  .p (.bin 12 false .neq (.t 11) (.c (.int .i64 3))) .unit])
 (.cond (.t 12) (.seq (.reg none [.p (.mv 2 (.c (.int .i64 0))) .unit,
  .p (.mv 3 (.c (.string (ba [])))) .unit,
  .p (.mv 4 (.c (.bool false))) .unit])
 .ret) .skip))
 (.seq (.reg none [.p (.mvA 14 5) .unit,
  .p (.iadr 15 1 (.t 14) (.c (.int .i64 1))) .unit,
  .p (.load 16 (.t 15) 1 false) .unit,
  .p (.callB 17 n_impl_ReadDecimal [((.t 16), 0)]) .unit,
  .p (.mv 13 (.t 17)) .unit,
  .p (.ext 18 (.t 13) 0) .unit,
  .p (.ext 19 (.t 13) 1) .unit,
  .p (.mv 6 (.t 18)) .unit,
  .p (.mv 7 (.t 19)) .unit])
 (.seq (.seq (.join ⟨[(5, false), (6, false), (30, false)], [.cell (.sl true .str), .cell (.int .i64), .cell .bool]⟩ (.reg none [.p (.mv 20 (.t 7)) .unit,
  .p (.un 21 .not (.t 20)) .unit,
  .p (.mv 22 (.t 21)) .unit,
  .g 22 false (some 23) (.mv 23 (.t 6)) .unit,
  .g 22 false (some 24) (.mvA 24 5) .unit,
  .g 22 false (some 25) (.iadr 25 1 (.t 24) (.c (.int .i64 2))) .unit,
  .g 22 false (some 26) (.load 26 (.t 25) 1 false) .unit,
  .g 22 false (some 27) (.callB 27 n_impl_PrivateName [((.t 23), 0), ((.t 26), 0)]) .unit,
  .g 22 false (some 28) (.mv 28 (.t 0)) .unit,
  .g 22 false (some 29) (.bin 29 false .neq (.t 27) (.t 28)) .unit,
  .p (.pick 30 (.t 22) (.c (.bool true)) (.t 29)) .unit]))
 (.cond (.t 30) (.seq (.reg none [.p (.mv 2 (.c (.int .i64 0))) .unit,
  .p (.mv 3 (.c (.string (ba [])))) .unit,
  .p (.mv 4 (.c (.bool false))) .unit])
 .ret) .skip))
 (.seq (.reg (some [[], [], [1], [2], [0, 0], [3, 4, 0, 1, 2, 3, 4], [5, 0, 1, 2, 3, 4, 5]]) [.p (.mv 31 (.t 6)) .unit,
  .p (.mvT 32 5) .unit,
  .p (.iadr 33 1 (.t 32) (.c (.int .i64 2))) .unit,
  .p (.load 34 (.t 33) 1 false) .unit,
  .p (.mv 2 (.t 31)) .unit,
  .p (.mv 3 (.t 34)) .unit,
  .p (.mv 4 (.c (.bool true))) .unit])
 .ret)))))),
 35, 1, [.t 2, .t 3, .t 4]⟩
theorem m_impl_SplitPrivate : mH Tryd.prog 61 [(1, 2, .t), (2, 0, .v), (4, 0, .v), (5, 4, .v), (7, 1, .t)] = some (F_impl_SplitPrivate.code.x, F_impl_SplitPrivate.N, F_impl_SplitPrivate.np, F_impl_SplitPrivate.res) := by kernel_rfl
noncomputable def T_impl_SplitPrivate : List UInt8 → Option ((Int) × (List UInt8) × Bool) := evF [fn_strings_Split, fn_impl_ReadDecimal, fn_impl_PrivateName] F_impl_SplitPrivate [.cell .str] [] [.cell (.int .i64), .cell .str, .cell .bool] []
noncomputable def fn_impl_SplitPrivate : TFn := ⟨61, [.cell .str], [], [.cell (.int .i64), .cell .str, .cell .bool], [], T_impl_SplitPrivate⟩
theorem ok_impl_SplitPrivate : FnOk Tryd.prog fn_impl_SplitPrivate := evF_ok mixed (allOk_cons ok_strings_Split (allOk_cons ok_impl_ReadDecimal (allOk_cons ok_impl_PrivateName allOk_nil))) m_impl_SplitPrivate (by decide)
def F_impl_isPrivate : TF := ⟨(.seq (.reg none [.p (.mv 2 (.c (.bool false))) .unit])
 (.seq (.reg none [.p (.mv 7 (.t 0)) .unit,
  .p (.callB 8 n_impl_SplitPrivate [((.t 7), 0)]) .unit,
  .p (.mv 6 (.t 8)) .unit,
  .p (.ext 9 (.t 6) 0) .unit,
  .p (.ext 10 (.t 6) 1) .unit,
  .p (.ext 11 (.t 6) 2) .unit,
  .p (.mv 3 (.t 9)) .unit,
  .p (.mv 4 (.t 10)) .unit,
  .p (.mv 5 (.t 11)) .unit])
 (.seq (.reg none [.p (.mv 12 (.t 5)) .unit,
  .p (.mv 2 (.t 12)) .unit])
 .ret))),
 13, 1, [.t 2]⟩
theorem m_impl_isPrivate : mH Tryd.prog 42 [] = some (F_impl_isPrivate.code.x, F_impl_isPrivate.N, F_impl_isPrivate.np, F_impl_isPrivate.res) := by kernel_rfl
noncomputable def T_impl_isPrivate : List UInt8 → Option (Bool) := evF [fn_impl_SplitPrivate] F_impl_isPrivate [.cell .str] [] [.cell .bool] []
noncomputable def fn_impl_isPrivate : TFn := ⟨42, [.cell .str], [], [.cell .bool], [], T_impl_isPrivate⟩
theorem ok_impl_isPrivate : FnOk Tryd.prog fn_impl_isPrivate := evF_ok mixed (allOk_cons ok_impl_SplitPrivate allOk_nil) m_impl_isPrivate (by decide)
def B_impl_areNames_1 : TC := (.seq (.reg none [.p (.bin 8 false .lss (.t 7) (.t 6)) .unit])
 (.seq (.cond (.t 8) .skip (.exit 0))
 (.seq (.block 1 (.seq (.reg none [.p (.mv 9 (.t 7)) .unit,
  .p (.iadr 10 1 (.t 5) (.t 7)) .unit,
  .p (.load 11 (.t 10) 1 false) .unit,
  .p (.mv 3 (.t 9)) .unit,
  .p (.mv 4 (.t 11)) .unit])
 (.seq (.join ⟨[(0, true), (5, false), (6, false), (7, false), (27, false)], [.cell (.sl false .str), .cell (.sl false .str), .cell (.int .i64), .cell (.int .i64), .cell .bool]⟩ (.reg none [.p (.mv 12 (.t 4)) .unit,
  .p (.callB 13 n_impl_NameOk [((.t 12), 0)]) .unit,
  .p (.un 14 .not (.t 13)) .unit,
  .p (.mv 15 (.t 14)) .unit,
  .g 15 false (some 16) (.mv 16 (.t 3)) .unit,
  .g 15 false (some 17) (.bin 17 false .gtr (.t 16) (.c (.int .i64 0))) .unit,
  .g 15 false (some 18) (.mv 18 (.t 17)) .unit,
  .g 18 true (some 19) (.mv 19 (.t 4)) .unit,
  .g 18 true (some 20) (.mv 20 (.t 0)) .unit,
  .g 18 true (some 21) (.mv 21 (.t 3)) .unit,
  .g 18 true (some 22) (.bin 22 false .sub (.t 21) (.c (.int .i64 1))) .unit,
  .g 18 true (some 23) (.iadr 23 1 (.t 20) (.t 22)) .unit,
  .g 18 true (some 24) (.load 24 (.t 23) 1 false) .unit,
  .g 18 true (some 25) (.bin 25 false .leq (.t 19) (.t 24)) .unit,
  .g 15 false (some 26) (.pick 26 (.t 18) (.t 25) (.c (.bool false))) .unit,
  .p (.pick 27 (.t 15) (.c (.bool true)) (.t 26)) .unit]))
 (.cond (.t 27) (.seq (.reg none [.p (.mv 2 (.c (.bool false))) .unit])
 .ret) .skip))))
 (.reg none [.p (.bin 28 false .add (.t 7) (.c (.int .i64 1))) .unit,
  .p (.mv 7 (.t 28)) .unit]))))
noncomputable def L_impl_areNames_1 : Nat → (List (List UInt8)) × (List (List UInt8)) × (Int) × Int → Option ((Unit) ⊕ (Bool)) := evL [fn_impl_NameOk] (finT [.t 2] [] [.cell .bool]) 0 ⟨[(0, true), (5, false), (6, false), (7, false)], [.cell (.sl false .str), .cell (.sl false .str), .cell (.int .i64), .cell (.int .i64)]⟩ ⟨[], []⟩ B_impl_areNames_1
def F_impl_areNames : TF := ⟨(.seq (.reg none [.p (.mv 2 (.c (.bool false))) .unit])
 (.seq (.seq (.reg none [.p (.mv 5 (.t 0)) .unit,
  .p (.lenB 6 (.t 5)) .unit,
  .p (.mv 7 (.c (.int .i64 0))) .unit])
 (.jl 0 ⟨[(0, true), (5, false), (6, false), (7, false)], [.cell (.sl false .str), .cell (.sl false .str), .cell (.int .i64), .cell (.int .i64)]⟩ ⟨[], []⟩ B_impl_areNames_1))
 (.seq (.reg none [.p (.mv 2 (.c (.bool true))) .unit])
 .ret))),
 29, 1, [.t 2]⟩
theorem m_impl_areNames : mH Tryd.prog 43 [] = some (F_impl_areNames.code.x, F_impl_areNames.N, F_impl_areNames.np, F_impl_areNames.res) := by kernel_rfl
noncomputable def T_impl_areNames : List (List UInt8) → Option (Bool) := evF [fn_impl_NameOk] F_impl_areNames [.cell (.sl false .str)] [] [.cell .bool] []
noncomputable def fn_impl_areNames : TFn := ⟨43, [.cell (.sl false .str)], [], [.cell .bool], [], T_impl_areNames⟩
theorem ok_impl_areNames : FnOk Tryd.prog fn_impl_areNames := evF_ok mixed (allOk_cons ok_impl_NameOk allOk_nil) m_impl_areNames (by decide)
def F_impl_WordOk : TF := ⟨(.seq (.reg none [.p (.box 1 (.t 0)) .unit,
  .p (.mv 2 (.c (.bool false))) .unit])
 (.seq (.seq (.join ⟨[(1, false), (29, false)], [.box (.pair (.int .i64) (.pair .str (.pair (.sl false .str) .str))), .cell .bool]⟩ (.reg none [.p (.fadr 4 (.t 1) 1) .unit,
  .p (.load 5 (.t 4) 1 false) .unit,
  .p (.callB 6 n_impl_isPrivate [((.t 5), 0)]) .unit,
  .p (.un 7 .not (.t 6)) .unit,
  .p (.mv 8 (.t 7)) .unit,
  .g 8 false (some 9) (.fadr 9 (.t 1) 2) .unit,
  .g 8 false (some 10) (.load 10 (.t 9) 1 false) .unit,
  .g 8 false (some 11) (.callB 11 n_impl_areNames [((.t 10), 0)]) .unit,
  .g 8 false (some 12) (.un 12 .not (.t 11)) .unit,
  .p (.pick 13 (.t 8) (.c (.bool true)) (.t 12)) .unit,
  .p (.mv 14 (.t 13)) .unit,
  .g 14 false (some 15) (.fadr 15 (.t 1) 3) .unit,
  .g 14 false (some 16) (.load 16 (.t 15) 1 false) .unit,
  .g 14 false (some 17) (.lenS 17 (.t 16)) .unit,
  .g 14 false (some 18) (.bin 18 false .gtr (.t 17) (.c (.int .i64 20))) .unit,
  .p (.pick 19 (.t 14) (.c (.bool true)) (.t 18)) .unit,
  .p (.mv 20 (.t 19)) .unit,
  .g 20 false (some 21) (.fadr 21 (.t 1) 0) .unit,
  .g 20 false (some 22) (.load 22 (.t 21) 1 false) .unit,
  .g 20 false (some 23) (.bin 23 false .neq (.t 22) (.c (.int .i64 4))) .unit,
  .g 20 false (some 24) (.mv 24 (.t 23)) .unit,
  .g 24 true (some 25) (.fadr 25 (.t 1) 3) .unit,
  .g 24 true (some 26) (.load 26 (.t 25) 1 false) .unit,
  .g 24 true (some 27) (.bin 27 false .neq (.t 26) (.c (.string (ba [])))) .unit,
  .g 20 false (some 28) (.pick 28 (.t 24) (.t 27) (.c (.bool false))) .unit,
  .p (.pick 29 (.t 20) (.c (.bool true)) (.t 28)) .unit]))
 (.cond (.t 29) (.seq (.reg none [.p (.mv 2 (.c (.bool false))) .unit])
 .ret) .skip))
 (.seq (.reg none [.p (.fadr 30 (.t 1) 2) .unit,
  .p (.load 31 (.t 30) 1 false) .unit,
  .p (.lenB 32 (.t 31)) .unit,
  .p (.mv 3 (.t 32)) .unit])
 (.seq (.seq (.reg none [.p (.fadr 33 (.t 1) 0) .unit,
  .p (.load 34 (.t 33) 1 false) .unit])
 (.block 0 (.seq (.join ⟨[(3, false), (34, false), (35, false)], [.cell (.int .i64), .cell (.int .i64), .cell .bool]⟩ (.seq (.reg none [.p (.bin 36 false .eql (.t 34) (.c (.int .i64 1))) .unit,
  .p (.mv 35 (.t 36)) .unit])
 (.cond (.t 35) .skip (.reg none [.p (.bin 37 false .eql (.t 34) (.c (.int .i64 2))) .unit,
  .p (.mv 35 (.t 37)) .unit]))))
 (.cond (.t 35) (.seq (.reg none [.p (.mv 38 (.t 3)) .unit,
  .p (.bin 39 false .eql (.t 38) (.c (.int .i64 1))) .unit,
  .p (.mv 2 (.t 39)) .unit])
 .ret) (.seq (.reg none [.p (.bin 41 false .eql (.t 34) (.c (.int .i64 3))) .unit,
  .p (.mv 40 (.t 41)) .unit])
 (.cond (.t 40) (.seq (.reg none [.p (.mv 42 (.t 3)) .unit,
  .p (.bin 43 false .eql (.t 42) (.c (.int .i64 0))) .unit,
  .p (.mv 2 (.t 43)) .unit])
 .ret) (.seq (.reg none [.p (.bin 45 false .eql (.t 34) (.c (.int .i64 4))) .unit,
  .p (.mv 44 (.t 45)) .unit])
 (.cond (.t 44) (.seq (.reg none [.p (.mv 46 (.t 3)) .unit,
  .p (.callB 47 n_impl_inRange [((.t 46), 0), ((.c (.int .i64 1)), 0), ((.c (.int .i64 3)), 0)]) .unit,
  .p (.mv 2 (.t 47)) .unit])
 .ret) .skip))))))))
 (.seq (.reg none [.p (.mv 2 (.c (.bool false))) .unit])
 .ret))))),
 48, 1, [.t 2]⟩
theorem m_impl_WordOk : mH Tryd.prog 15 [] = some (F_impl_WordOk.code.x, F_impl_WordOk.N, F_impl_WordOk.np, F_impl_WordOk.res) := by kernel_rfl
noncomputable def T_impl_WordOk : Int × List UInt8 × List (List UInt8) × List UInt8 → Option (Bool) := evF [fn_impl_isPrivate, fn_impl_areNames, fn_impl_inRange] F_impl_WordOk [.agg (.pair (.int .i64) (.pair .str (.pair (.sl false .str) .str)))] [] [.cell .bool] []
noncomputable def fn_impl_WordOk : TFn := ⟨15, [.agg (.pair (.int .i64) (.pair .str (.pair (.sl false .str) .str)))], [], [.cell .bool], [], T_impl_WordOk⟩
theorem ok_impl_WordOk : FnOk Tryd.prog fn_impl_WordOk := evF_ok mixed (allOk_cons ok_impl_isPrivate (allOk_cons ok_impl_areNames (allOk_cons ok_impl_inRange allOk_nil))) m_impl_WordOk (by decide)
def B_impl_octets_1 : TC := (.seq (.reg none [.p (.bin 9 false .lss (.t 8) (.t 7)) .unit])
 (.seq (.cond (.t 9) .skip (.exit 0))
 (.seq (.block 1 (.seq (.reg none [.p (.iadr 10 1 (.t 6) (.t 8)) .unit,
  .p (.load 11 (.t 10) 1 false) .unit,
  .p (.mv 5 (.t 11)) .unit])
 (.reg none [.p (.mvT 12 3) .unit,
  .p (.mv 13 (.t 5)) .unit,
  .p (.cvi 14 .u8 .i64 (.t 13)) .unit,
  .p (.bldS 15 1 [(.lit (.int .u8 0))] [⟨0, 1, (.t 14)⟩]) (.int .u8),
  .p (.app 16 1 1 (.t 12) (.t 15)) (.int .u8),
  .p (.mvT 3 16) .unit])))
 (.reg none [.p (.bin 17 false .add (.t 8) (.c (.int .i64 1))) .unit,
  .p (.mv 8 (.t 17)) .unit]))))
noncomputable def L_impl_octets_1 : Nat → (List (Int)) × (List (Int)) × (Int) × Int → Option ((List (Int)) ⊕ (List UInt8)) := evL [] (finT [.t 2] [] [.cell .str]) 0 ⟨[(3, false), (6, false), (7, false), (8, false)], [.cell (.sl true (.int .u8)), .cell (.sl false (.int .i64)), .cell (.int .i64), .cell (.int .i64)]⟩ ⟨[(3, false)], [.cell (.sl true (.int .u8))]⟩ B_impl_octets_1
def F_impl_octets : TF := ⟨(.seq (.reg none [.p (.mv 2 (.c (.string (ba [])))) .unit])
 (.seq (.reg none [.p (.mvN 3 1) .unit])
 (.seq (.seq (.reg none [.p (.mv 6 (.t 0)) .unit,
  .p (.lenB 7 (.t 6)) .unit,
  .p (.mv 8 (.c (.int .i64 0))) .unit])
 (.jl 0 ⟨[(3, false), (6, false), (7, false), (8, false)], [.cell (.sl true (.int .u8)), .cell (.sl false (.int .i64)), .cell (.int .i64), .cell (.int .i64)]⟩ ⟨[(3, false)], [.cell (.sl true (.int .u8))]⟩ B_impl_octets_1))
 (.seq (.reg none [.p (.mvT 18 3) .unit,
  .p (.b2s 19 (.t 18)) .unit,
  .p (.mv 2 (.t 19)) .unit])
 .ret)))),
 20, 1, [.t 2]⟩
theorem m_impl_octets : mH Tryd.prog 55 [(5, 0, .t), (5, 5, .t), (7, 0, .t)] = some (F_impl_octets.code.x, F_impl_octets.N, F_impl_octets.np, F_impl_octets.res) := by kernel_rfl
noncomputable def T_impl_octets : List (Int) → Option (List UInt8) := evF [] F_impl_octets [.cell (.sl false (.int .i64))] [] [.cell .str] []
noncomputable def fn_impl_octets : TFn := ⟨55, [.cell (.sl false (.int .i64))], [], [.cell .str], [], T_impl_octets⟩
theorem ok_impl_octets : FnOk Tryd.prog fn_impl_octets := evF_ok mixed allOk_nil m_impl_octets (by decide)
def B_impl_varText_1 : TC := (.seq (.seq (.reg none [.p (.mv 4 (.t 0)) .unit,
  .p (.bin 5 false .gtr (.t 4) (.c (.int .i64 127))) .unit])
 (.cond (.t 5) .skip (.exit 0)))
 (.block 1 (.seq (.reg none [.p (.mvT 6 3) .unit,
  .p (.mv 7 (.t 0)) .unit,
  .p (.bin 8 false .rem (.t 7) (.c (.int .i64 128))) .unit,
  .p (.bin 9 false .add (.c (.int .i64 128)) (.t 8)) .unit,
  .p (.cvi 10 .u8 .i64 (.t 9)) .unit,
  .p (.bldS 11 1 [(.lit (.int .u8 0))] [⟨0, 1, (.t 10)⟩]) (.int .u8),
  .p (.app 12 1 1 (.t 6) (.t 11)) (.int .u8),
  .p (.mvT 3 12) .unit])
 (.reg none [.p (.mv 13 (.t 0)) .unit,
  .p (.bin 14 false .quo (.t 13) (.c (.int .i64 128))) .unit,
  .p (.mv 0 (.t 14)) .unit]))))
noncomputable def L_impl_varText_1 : Nat → (Int) × List (Int) → Option (((Int) × List (Int)) ⊕ (List UInt8)) := evL [] (finT [.t 2] [] [.cell .str]) 0 ⟨[(0, false), (3, false)], [.cell (.int .i64), .cell (.sl true (.int .u8))]⟩ ⟨[(0, false), (3, false)], [.cell (.int .i64), .cell (.sl true (.int .u8))]⟩ B_impl_varText_1
def F_impl_varText : TF := ⟨(.seq (.reg none [.p (.mv 2 (.c (.string (ba [])))) .unit])
 (.seq (.reg none [.p (.mvN 3 1) .unit])
 (.seq (.jl 0 ⟨[(0, false), (3, false)], [.cell (.int .i64), .cell (.sl true (.int .u8))]⟩ ⟨[(0, false), (3, false)], [.cell (.int .i64), .cell (.sl true (.int .u8))]⟩ B_impl_varText_1)
 (.seq (.reg none [.p (.mvT 15 3) .unit,
  .p (.mv 16 (.t 0)) .unit,
  .p (.cvi 17 .u8 .i64 (.t 16)) .unit,
  .p (.bldS 18 1 [(.lit (.int .u8 0))] [⟨0, 1, (.t 17)⟩]) (.int .u8),
  .p (.app 19 1 1 (.t 15) (.t 18)) (.int .u8),
  .p (.b2s 20 (.t 19)) .unit,
  .p (.mv 2 (.t 20)) .unit])
 .ret)))),
 21, 1, [.t 2]⟩
theorem m_impl_varText : mH Tryd.prog 65 [(3, 0, .t), (3, 7, .t), (5, 0, .t)] = some (F_impl_varText.code.x, F_impl_varText.N, F_impl_varText.np, F_impl_varText.res) := by kernel_rfl
noncomputable def T_impl_varText : Int → Option (List UInt8) := evF [] F_impl_varText [.cell (.int .i64)] [] [.cell .str] []
noncomputable def fn_impl_varText : TFn := ⟨65, [.cell (.int .i64)], [], [.cell .str], [], T_impl_varText⟩
theorem ok_impl_varText : FnOk Tryd.prog fn_impl_varText := evF_ok mixed allOk_nil m_impl_varText (by decide)
def F_impl_shortText : TF := ⟨(.seq (.reg none [.p (.mv 2 (.c (.string (ba [])))) .unit])
 (.seq (.reg none [.p (.mv 3 (.t 0)) .unit,
  .p (.lenS 4 (.t 3)) .unit,
  .p (.callB 5 n_impl_varText [((.t 4), 0)]) .unit,
  .p (.mv 6 (.t 0)) .unit,
  .p (.bin 7 false .add (.t 5) (.t 6)) .unit,
  .p (.mv 2 (.t 7)) .unit])
 .ret)),
 8, 1, [.t 2]⟩
theorem m_impl_shortText : mH Tryd.prog 56 [] = some (F_impl_shortText.code.x, F_impl_shortText.N, F_impl_shortText.np, F_impl_shortText.res) := by kernel_rfl
noncomputable def T_impl_shortText : List UInt8 → Option (List UInt8) := evF [fn_impl_varText] F_impl_shortText [.cell .str] [] [.cell .str] []
noncomputable def fn_impl_shortText : TFn := ⟨56, [.cell .str], [], [.cell .str], [], T_impl_shortText⟩
theorem ok_impl_shortText : FnOk Tryd.prog fn_impl_shortText := evF_ok mixed (allOk_cons ok_impl_varText allOk_nil) m_impl_shortText (by decide)
def B_impl_namesText_1 : TC := (.seq (.reg none [.p (.bin 13 false .lss (.t 12) (.t 11)) .unit])
 (.seq (.cond (.t 13) .skip (.exit 0))
 (.seq (.block 1 (.seq (.reg none [.p (.iadr 14 1 (.t 10) (.t 12)) .unit,
  .p (.load 15 (.t 14) 1 false) .unit,
  .p (.mv 5 (.t 15)) .unit])
 (.reg none [.p (.mv 16 (.t 5)) .unit,
  .p (.callB 17 n_impl_shortText [((.t 16), 0)]) .unit,
  .p (.callM 18 n___strings_Builder__WriteString [] (.tmp 3) [((.t 17), 0)]) .unit])))
 (.reg none [.p (.bin 19 false .add (.t 12) (.c (.int .i64 1))) .unit,
  .p (.mv 12 (.t 19)) .unit]))))
noncomputable def L_impl_namesText_1 : Nat → (List UInt8) × (List (List UInt8)) × (Int) × Int → Option ((List UInt8) ⊕ (List UInt8)) := evL [fn_impl_varText, fn___strings_Builder__WriteString, fn_impl_shortText, fn___strings_Builder__String] (finT [.t 2] [] [.cell .str]) 0 ⟨[(3, false), (10, false), (11, false), (12, false)], [.bld 96 5, .cell (.sl false .str), .cell (.int .i64), .cell (.int .i64)]⟩ ⟨[(3, false)], [.bld 96 5]⟩ B_impl_namesText_1
def F_impl_namesText : TF := ⟨(.seq (.reg none [.p (.mv 2 (.c (.string (ba [])))) .unit])
 (.seq (.reg none [.p (.allocB 3 96 5) .unit])
 (.seq (.reg none [.p (.mv 6 (.t 0)) .unit,
  .p (.lenB 7 (.t 6)) .unit,
  .p (.callB 8 n_impl_varText [((.t 7), 0)]) .unit,
  .p (.callM 9 n___strings_Builder__WriteString [] (.tmp 3) [((.t 8), 0)]) .unit])
 (.seq (.seq (.reg none [.p (.mv 10 (.t 0)) .unit,
  .p (.lenB 11 (.t 10)) .unit,
  .p (.mv 12 (.c (.int .i64 0))) .unit])
 (.jl 0 ⟨[(3, false), (10, false), (11, false), (12, false)], [.bld 96 5, .cell (.sl false .str), .cell (.int .i64), .cell (.int .i64)]⟩ ⟨[(3, false)], [.bld 96 5]⟩ B_impl_namesText_1))
 (.seq (.reg none [.p (.callM 20 n___strings_Builder__String [] (.tmp 3) []) .unit,
  .p (.mv 2 (.t 20)) .unit])
 .ret))))),
 21, 1, [.t 2]⟩
theorem m_impl_namesText : mH Tryd.prog 57 [(2, 3, (.m 0)), (6, 2, (.m 0)), (8, 0, (.m 0))] = some (F_impl_namesText.code.x, F_impl_namesText.N, F_impl_namesText.np, F_impl_namesText.res) := by kernel_rfl
noncomputable def T_impl_namesText : List (List UInt8) → Option (List UInt8) := evF [fn_impl_varText, fn___strings_Builder__WriteString, fn_impl_shortText, fn___strings_Builder__String] F_impl_namesText [.cell (.sl false .str)] [] [.cell .str] []
noncomputable def fn_impl_namesText : TFn := ⟨57, [.cell (.sl false .str)], [], [.cell .str], [], T_impl_namesText⟩
theorem ok_impl_namesText : FnOk Tryd.prog fn_impl_namesText := evF_ok mixed (allOk_cons ok_impl_varText (allOk_cons ok___strings_Builder__WriteString (allOk_cons ok_impl_shortText (allOk_cons ok___strings_Builder__String allOk_nil)))) m_impl_namesText (by decide)
def F_impl_WordText : TF := ⟨(.seq (.reg none [.p (.box 1 (.t 0)) .unit,
  .p (.mv 2 (.c (.string (ba [])))) .unit,
  .p (.mv 3 (.c (.bool false))) .unit])
 (.seq (.seq (.reg none [.p (.load 4 (.t 1) 4 true) .unit,
  .p (.callB 5 n_impl_WordOk [((.t 4), 0)]) .unit,
  .p (.un 6 .not (.t 5)) .unit])
 (.cond (.t 6) (.seq (.reg none [.p (.mv 2 (.c (.string (ba [])))) .unit,
  .p (.mv 3 (.c (.bool false))) .unit])
 .ret) .skip))
 (.seq (.reg (some [[], [0], [1], [2], [], [4], [5, 3], [3, 6], [], [8], [9, 6], [7, 10], [], [12], [13, 10], [11, 14], [15, 14, 0, 1, 2, 3, 4, 5, 6, 7, 8, 9, 10, 11, 12, 13, 14, 15], [16, 0, 1, 2, 3, 4, 5, 6, 7, 8, 9, 10, 11, 12, 13, 14, 15, 16]]) [.p (.fadr 7 (.t 1) 0) .unit,
  .p (.load 8 (.t 7) 1 false) .unit,
  .p (.bldS 9 1 [(.lit (.int .i64 0))] [⟨0, 1, (.t 8)⟩]) (.int .i64),
  .p (.callB 10 n_impl_octets [((.t 9), 0)]) .unit,
  .p (.fadr 11 (.t 1) 1) .unit,
  .p (.load 12 (.t 11) 1 false) .unit,
  .p (.callB 13 n_impl_shortText [((.t 12), 0)]) .unit,
  .p (.bin 14 false .add (.t 10) (.t 13)) .unit,
  .p (.fadr 15 (.t 1) 2) .unit,
  .p (.load 16 (.t 15) 1 false) .unit,
  .p (.callB 17 n_impl_namesText [((.t 16), 0)]) .unit,
  .p (.bin 18 false .add (.t 14) (.t 17)) .unit,
  .p (.fadr 19 (.t 1) 3) .unit,
  .p (.load 20 (.t 19) 1 false) .unit,
  .p (.callB 21 n_impl_shortText [((.t 20), 0)]) .unit,
  .p (.bin 22 false .add (.t 18) (.t 21)) .unit,
  .p (.mv 2 (.t 22)) .unit,
  .p (.mv 3 (.c (.bool true))) .unit])
 .ret))),
 23, 1, [.t 2, .t 3]⟩
theorem m_impl_WordText : mH Tryd.prog 23 [] = some (F_impl_WordText.code.x, F_impl_WordText.N, F_impl_WordText.np, F_impl_WordText.res) := by kernel_rfl
noncomputable def T_impl_WordText : Int × List UInt8 × List (List UInt8) × List UInt8 → Option ((List UInt8) × Bool) := evF [fn_impl_WordOk, fn_impl_octets, fn_impl_shortText, fn_impl_namesText] F_impl_WordText [.agg (.pair (.int .i64) (.pair .str (.pair (.sl false .str) .str)))] [] [.cell .str, .cell .bool] []
noncomputable def fn_impl_WordText : TFn := ⟨23, [.agg (.pair (.int .i64) (.pair .str (.pair (.sl false .str) .str)))], [], [.cell .str, .cell .bool], [], T_impl_WordText⟩
theorem ok_impl_WordText : FnOk Tryd.prog fn_impl_WordText := evF_ok mixed (allOk_cons ok_impl_WordOk (allOk_cons ok_impl_octets (allOk_cons ok_impl_shortText (allOk_cons ok_impl_namesText allOk_nil)))) m_impl_WordText (by decide)
def B_laws_eqStringS_1 : TC := (.seq (.seq (.reg none [.p (.mv 11 (.t 5)) .unit,
  .p (.mv 12 (.t 0)) .unit,
  .p (.lenB 13 (.t 12)) .unit,
  .p (.bin 14 false .lss (.t 11) (.t 13)) .unit])
 (.cond (.t 14) .skip (.exit 0)))
 (.seq (.block 1 (.seq (.reg (some [[], [], [0, 1], [2], [], [], [4, 5], [6], [3, 7]]) [.p (.mv 17 (.t 0)) .unit,
  .p (.mv 18 (.t 5)) .unit,
  .p (.iadr 19 1 (.t 17) (.t 18)) .unit,
  .p (.load 20 (.t 19) 1 false) .unit,
  .p (.mv 21 (.t 1)) .unit,
  .p (.mv 22 (.t 5)) .unit,
  .p (.iadr 23 1 (.t 21) (.t 22)) .unit,
  .p (.load 24 (.t 23) 1 false) .unit,
  .p (.bin 25 false .neq (.t 20) (.t 24)) .unit])
 (.cond (.t 25) (.seq (.reg none [.p (.mv 4 (.c (.bool false))) .unit])
 .ret) .skip)))
 (.reg none [.p (.mv 15 (.t 5)) .unit,
  .p (.bin 16 false .add (.t 15) (.c (.int .i64 1))) .unit,
  .p (.mv 5 (.t 16)) .unit])))
noncomputable def L_laws_eqStringS_1 : Nat → (List (List UInt8)) × (List (List UInt8)) × Int → Option ((Unit) ⊕ (Bool)) := evL [] (finT [.t 4] [] [.cell .bool]) 0 ⟨[(0, true), (1, true), (5, false)], [.cell (.sl false .str), .cell (.sl false .str), .cell (.int .i64)]⟩ ⟨[], []⟩ B_laws_eqStringS_1
def F_laws_eqStringS : TF := ⟨(.seq (.reg none [.p (.mv 4 (.c (.bool false))) .unit])
 (.seq (.seq (.reg none [.p (.mv 6 (.t 0)) .unit,
  .p (.lenB 7 (.t 6)) .unit,
  .p (.mv 8 (.t 1)) .unit,
  .p (.lenB 9 (.t 8)) .unit,
  .p (.bin 10 false .neq (.t 7) (.t 9)) .unit])
 (.cond (.t 10) (.seq (.reg none [.p (.mv 4 (.c (.bool false))) .unit])
 .ret) .skip))
 (.seq (.seq (.reg none [.p (.mv 5 (.c (.int .i64 0))) .unit])
 (.jl 0 ⟨[(0, true), (1, true), (5, false)], [.cell (.sl false .str), .cell (.sl false .str), .cell (.int .i64)]⟩ ⟨[], []⟩ B_laws_eqStringS_1))
 (.seq (.reg none [.p (.mv 4 (.c (.bool true))) .unit])
 .ret)))),
 26, 2, [.t 4]⟩
theorem m_laws_eqStringS : mH Tryd.prog 45 [] = some (F_laws_eqStringS.code.x, F_laws_eqStringS.N, F_laws_eqStringS.np, F_laws_eqStringS.res) := by kernel_rfl
noncomputable def T_laws_eqStringS : (List (List UInt8)) × List (List UInt8) → Option (Bool) := evF [] F_laws_eqStringS [.cell (.sl false .str), .cell (.sl false .str)] [] [.cell .bool] []
noncomputable def fn_laws_eqStringS : TFn := ⟨45, [.cell (.sl false .str), .cell (.sl false .str)], [], [.cell .bool], [], T_laws_eqStringS⟩
theorem ok_laws_eqStringS : FnOk Tryd.prog fn_laws_eqStringS := evF_ok mixed allOk_nil m_laws_eqStringS (by decide)
def F_laws_eqWord : TF := ⟨(.seq (.reg none [.p (.box 2 (.t 0)) .unit,
  .p (.box 3 (.t 1)) .unit,
  .p (.mv 4 (.c (.bool false))) .unit])
 (.seq (.seq (.reg none [.p (.fadr 5 (.t 2) 0) .unit,
  .p (.load 6 (.t 5) 1 false) .unit,
  .p (.fadr 7 (.t 3) 0) .unit,
  .p (.load 8 (.t 7) 1 false) .unit,
  .p (.bin 9 false .neq (.t 6) (.t 8)) .unit])
 (.cond (.t 9) (.seq (.reg none [.p (.mv 4 (.c (.bool false))) .unit])
 .ret) .skip))
 (.seq (.seq (.reg none [.p (.fadr 10 (.t 2) 1) .unit,
  .p (.load 11 (.t 10) 1 false) .unit,
  .p (.fadr 12 (.t 3) 1) .unit,
  .p (.load 13 (.t 12) 1 false) .unit,
  .p (.bin 14 false .neq (.t 11) (.t 13)) .unit])
 (.cond (.t 14) (.seq (.reg none [.p (.mv 4 (.c (.bool false))) .unit])
 .ret) .skip))
 (.seq (.seq (.reg none [.p (.fadr 15 (.t 2) 2) .unit,
  .p (.load 16 (.t 15) 1 false) .unit,
  .p (.fadr 17 (.t 3) 2) .unit,
  .p (.load 18 (.t 17) 1 false) .unit,
  .p (.callB 19 n_laws_eqStringS [((.t 16), 0), ((.t 18), 0)]) .unit,
  .p (.un 20 .not (.t 19)) .unit])
 (.cond (.t 20) (.seq (.reg none [.p (.mv 4 (.c (.bool false))) .unit])
 .ret) .skip))
 (.seq (.seq (.reg none [.p (.fadr 21 (.t 2) 3) .unit,
  .p (.load 22 (.t 21) 1 false) .unit,
  .p (.fadr 23 (.t 3) 3) .unit,
  .p (.load 24 (.t 23) 1 false) .unit,
  .p (.bin 25 false .neq (.t 22) (.t 24)) .unit])
 (.cond (.t 25) (.seq (.reg none [.p (.mv 4 (.c (.bool false))) .unit])
 .ret) .skip))
 (.seq (.reg none [.p (.mv 4 (.c (.bool true))) .unit])
 .ret)))))),
 26, 2, [.t 4]⟩
theorem m_laws_eqWord : mH Tryd.prog 16 [] = some (F_laws_eqWord.code.x, F_laws_eqWord.N, F_laws_eqWord.np, F_laws_eqWord.res) := by kernel_rfl
noncomputable def T_laws_eqWord : (Int × List UInt8 × List (List UInt8) × List UInt8) × Int × List UInt8 × List (List UInt8) × List UInt8 → Option (Bool) := evF [fn_laws_eqStringS] F_laws_eqWord [.agg (.pair (.int .i64) (.pair .str (.pair (.sl false .str) .str))), .agg (.pair (.int .i64) (.pair .str (.pair (.sl false .str) .str)))] [] [.cell .bool] []
noncomputable def fn_laws_eqWord : TFn := ⟨16, [.agg (.pair (.int .i64) (.pair .str (.pair (.sl false .str) .str))), .agg (.pair (.int .i64) (.pair .str (.pair (.sl false .str) .str)))], [], [.cell .bool], [], T_laws_eqWord⟩
theorem ok_laws_eqWord : FnOk Tryd.prog fn_laws_eqWord := evF_ok mixed (allOk_cons ok_laws_eqStringS allOk_nil) m_laws_eqWord (by decide)
def F_laws_FnExactWordText : TF := ⟨(.seq (.reg none [.p (.box 1 (.t 0)) .unit,
  .p (.mv 2 (.c (.bool false))) .unit])
 (.seq (.reg none [.p (.mv 3 (.c (.int .i64 1048576))) .unit])
 (.seq (.reg none [.p (.load 9 (.t 1) 4 true) .unit,
  .p (.mv 10 (.t 3)) .unit,
  .p (.callB 11 n_laws_szWord [((.t 9), 0), ((.t 10), 0)]) .unit,
  .p (.mv 3 (.t 11)) .unit])
 (.seq (.seq (.reg none [.p (.mv 12 (.t 3)) .unit,
  .p (.bin 13 false .lss (.t 12) (.c (.int .i64 0))) .unit])
 (.cond (.t 13) (.seq (.reg none [.p (.mv 2 (.c (.bool true))) .unit])
 .ret) .skip))
 (.seq (.reg none [.p (.load 15 (.t 1) 4 true) .unit,
  .p (.callB 16 n_laws_toWord [((.t 15), 0)]) .unit,
  .p (.callB 17 n_spec_WordText [((.t 16), 0)]) .unit,
  .p (.mv 14 (.t 17)) .unit,
  .p (.ext 18 (.t 14) 0) .unit,
  .p (.ext 19 (.t 14) 1) .unit,
  .p (.mv 4 (.t 18)) .unit,
  .p (.mv 5 (.t 19)) .unit])
 (.seq (.reg none [.p (.load 20 (.t 1) 4 true) .unit,
  .p (.callB 21 n_laws_toWord [((.t 20), 0)]) .unit,
  .p (.alloc 6 [(.lit (.int .i64 0)), (.lit (.string (ba []))), (.sl true 1 []), (.lit (.string (ba [])))]) .unit,
  .p (.storeT (.t 6) 21 4) .unit])
 (.seq (.reg none [.p (.load 23 (.t 6) 4 true) .unit,
  .p (.callB 24 n_impl_WordText [((.t 23), 0)]) .unit,
  .p (.mv 22 (.t 24)) .unit,
  .p (.ext 25 (.t 22) 0) .unit,
  .p (.ext 26 (.t 22) 1) .unit,
  .p (.mv 7 (.t 25)) .unit,
  .p (.mv 8 (.t 26)) .unit])
 (.seq (.seq (.join ⟨[(1, false), (6, false), (34, false)], [.box (.pair (.int .i64) (.pair .str (.pair (.sl false .str) .str))), .box (.pair (.int .i64) (.pair .str (.pair (.sl true .str) .str))), .cell .bool]⟩ (.reg none [.p (.mv 27 (.t 7)) .unit,
  .p (.mv 28 (.t 4)) .unit,
  .p (.bin 29 false .neq (.t 27) (.t 28)) .unit,
  .p (.mv 30 (.t 29)) .unit,
  .g 30 false (some 31) (.mv 31 (.t 8)) .unit,
  .g 30 false (some 32) (.mv 32 (.t 5)) .unit,
  .g 30 false (some 33) (.bin 33 true .neq (.t 31) (.t 32)) .unit,
  .p (.pick 34 (.t 30) (.c (.bool true)) (.t 33)) .unit]))
 (.cond (.t 34) (.seq (.reg none [.p (.mv 2 (.c (.bool false))) .unit])
 .ret) .skip))
 (.seq (.seq (.reg (some [[], [], [1], [0, 2, 2], [3]]) [.p (.load 35 (.t 6) 4 true) .unit,
  .p (.load 36 (.t 1) 4 true) .unit,
  .p (.callB 37 n_laws_toWord [((.t 36), 0)]) .unit,
  .p (.callB 38 n_laws_eqWord [((.t 35), 0), ((.t 37), 0)]) .unit,
  .p (.un 39 .not (.t 38)) .unit])
 (.cond (.t 39) (.seq (.reg none [.p (.mv 2 (.c (.bool false))) .unit])
 .ret) .skip))
 (.seq (.reg none [.p (.mv 2 (.c (.bool true))) .unit])
 .ret)))))))))),
 40, 1, [.t 2]⟩
theorem m_laws_FnExactWordText : mH Tryd.prog 6 [(6, 3, .t)] = some (F_laws_FnExactWordText.code.x, F_laws_FnExactWordText.N, F_laws_FnExactWordText.np, F_laws_FnExactWordText.res) := by kernel_rfl
noncomputable def T_laws_FnExactWordText : Int × List UInt8 × List (List UInt8) × List UInt8 → Option (Bool) := evF [fn_laws_szWord, fn_laws_toWord, fn_spec_WordText, fn_impl_WordText, fn_laws_eqWord] F_laws_FnExactWordText [.agg (.pair (.int .i64) (.pair .str (.pair (.sl false .str) .str)))] [] [.cell .bool] []
noncomputable def fn_laws_FnExactWordText : TFn := ⟨6, [.agg (.pair (.int .i64) (.pair .str (.pair (.sl false .str) .str)))], [], [.cell .bool], [], T_laws_FnExactWordText⟩
theorem ok_laws_FnExactWordText : FnOk Tryd.prog fn_laws_FnExactWordText := evF_ok mixed (allOk_cons ok_laws_szWord (allOk_cons ok_laws_toWord (allOk_cons ok_spec_WordText (allOk_cons ok_impl_WordText (allOk_cons ok_laws_eqWord allOk_nil))))) m_laws_FnExactWordText (by decide)

end Xs
end Go.Proofs.YtlblgfhdndpmfaaDoor
