/- The typed code of the functions, printed by program. -/
import Derived.Test.YtlblgfhdndpmfaaT7
import Derived.Test.YtlblgfhdndpmfaaProg
import Derived.KernelRfl

import Derived.Test.YtlblgfhdndpmfaaBld
namespace Go.Proofs.Ytlblgfhdndpmfaa
open Go Vm
namespace Xs
theorem mixed : Try.prog.follows .mixedOrders = true := by kernel_rfl
abbrev n_laws_FnBundles : Nat := 9
abbrev n_laws_big : Nat := 11
abbrev n_impl_ReadItem : Nat := 14
abbrev n_spec_ItemOk : Nat := 15
abbrev n_impl_ItemOk : Nat := 16
abbrev n_spec_ReadItem : Nat := 18
abbrev n_spec_ReadBundle : Nat := 29
abbrev n_impl_ReadBundle : Nat := 30
abbrev n_spec_DrawBundleText : Nat := 46
abbrev n_impl_BundleText : Nat := 47
abbrev n_spec_BundleText : Nat := 48
abbrev n_impl_BundleOk : Nat := 49
abbrev n_spec_BundleOk : Nat := 50
abbrev n_laws_sameItems : Nat := 51
abbrev n_spec_DrawReadBundle : Nat := 52
abbrev n_spec_l05AnyItem : Nat := 58
abbrev n_spec_l01New : Nat := 59
abbrev n_impl_itemText : Nat := 60
abbrev n___impl_scanner__number : Nat := 61
abbrev n___impl_scanner__octet : Nat := 62
abbrev n___impl_scanner__short : Nat := 63
abbrev n___impl_scanner__done : Nat := 64
abbrev n_spec_l01In : Nat := 65
abbrev n_impl_inRange : Nat := 66
abbrev n_impl_isDaemon : Nat := 67
abbrev n_impl_isLevel : Nat := 68
abbrev n_spec_ItemText : Nat := 69
abbrev n_spec_l02Spoilt : Nat := 70
abbrev n_spec_l05Var : Nat := 71
abbrev n_spec_l05One : Nat := 72
abbrev n_spec_l05ReadShort : Nat := 73
abbrev n_spec_Unsealed : Nat := 74
abbrev n_impl_Unsealed : Nat := 76
abbrev n___impl_scanner__count : Nat := 77
abbrev n___strings_Builder__WriteString : Nat := 90
abbrev n_impl_octets : Nat := 91
abbrev n_impl_varText : Nat := 92
abbrev n_impl_Sealed : Nat := 93
abbrev n___strings_Builder__String : Nat := 94
abbrev n_spec_l01Once : Nat := 95
abbrev n_spec_Sealed : Nat := 96
abbrev n_impl_shortText : Nat := 98
abbrev n_spec_l13AnyBundle : Nat := 104
abbrev n_spec_l05Byte : Nat := 105
abbrev n_spec_l01Var : Nat := 106
abbrev n_spec_l05Short : Nat := 107
abbrev n_impl_ItemsOk : Nat := 108
abbrev n_spec_ItemsOk : Nat := 109
abbrev n_spec_l05Of : Nat := 123
abbrev n_spec_l01Below : Nat := 124
abbrev n_spec_l01PickInt : Nat := 125
abbrev n_spec_l01Long : Nat := 126
abbrev n_impl_ReadVar : Nat := 127
abbrev n___impl_scanner__take : Nat := 128
abbrev n_spec_l01Text : Nat := 129
abbrev n_spec_ReadVar : Nat := 130
abbrev n_spec_l05Take : Nat := 131
abbrev n_spec_l02Four : Nat := 132
abbrev n_spec_SumOf : Nat := 133
abbrev n_impl_sumText : Nat := 134
abbrev n_spec_l01Pick : Nat := 140
abbrev n_spec_l09Ring : Nat := 141
abbrev n_spec_l13Bundle : Nat := 142
abbrev n_spec_l05AnyItems : Nat := 143
abbrev n_spec_l01Byte : Nat := 158
abbrev n_spec_SumMore : Nat := 159
abbrev n_impl_SumOf : Nat := 160
abbrev n_spec_Decimal : Nat := 164
abbrev n_spec_l05Items : Nat := 165
abbrev n_impl_SumMore : Nat := 181
abbrev n_spec_l01Figure : Nat := 183
def F_laws_big : TF := ⟨(.seq (.reg none [.p (.mv 2 (.c (.bool false))) .unit])
 (.seq (.reg none [.p (.mv 3 (.t 0)) .unit,
  .p (.lenB 4 (.t 3)) .unit,
  .p (.bin 5 false .gtr (.t 4) (.c (.int .i64 1048576))) .unit,
  .p (.mv 2 (.t 5)) .unit])
 .ret)),
 6, 1, [.t 2]⟩
theorem m_laws_big : mH Try.prog 11 [] = some (F_laws_big.code.x, F_laws_big.N, F_laws_big.np, F_laws_big.res) := by kernel_rfl
noncomputable def T_laws_big : List (Int) → Option (Bool) := evF [] F_laws_big [.cell (.sl false (.int .u8))] [] [.cell .bool] []
noncomputable def fn_laws_big : TFn := ⟨11, [.cell (.sl false (.int .u8))], [], [.cell .bool], [], T_laws_big⟩
theorem ok_laws_big : FnOk Try.prog fn_laws_big := evF_ok mixed allOk_nil m_laws_big (by decide)
def B_spec_l01New_1 : TC := (.seq (.seq (.join ⟨[(0, true), (3, false), (4, false), (15, false)], [.cell (.sl false (.int .u8)), .cell (.int .i64), .cell (.int .i64), .cell .bool]⟩ (.reg none [.p (.mv 8 (.t 4)) .unit,
  .p (.mv 9 (.t 0)) .unit,
  .p (.lenB 10 (.t 9)) .unit,
  .p (.bin 11 false .lss (.t 8) (.t 10)) .unit,
  .p (.mv 12 (.t 11)) .unit,
  .g 12 true (some 13) (.mv 13 (.t 4)) .unit,
  .g 12 true (some 14) (.bin 14 false .lss (.t 13) (.c (.int .i64 4000))) .unit,
  .p (.pick 15 (.t 12) (.t 14) (.c (.bool false))) .unit]))
 (.cond (.t 15) .skip (.exit 0)))
 (.seq (.block 1 (.reg none [.p (.mv 18 (.t 3)) .unit,
  .p (.bin 19 false .mul (.t 18) (.c (.int .i64 131))) .unit,
  .p (.mv 20 (.t 0)) .unit,
  .p (.mv 21 (.t 4)) .unit,
  .p (.iadr 22 1 (.t 20) (.t 21)) .unit,
  .p (.load 23 (.t 22) 1 false) .unit,
  .p (.cvi 24 .i64 .u8 (.t 23)) .unit,
  .p (.bin 25 false .add (.t 19) (.t 24)) .unit,
  .p (.bin 26 false .add (.t 25) (.c (.int .i64 7))) .unit,
  .p (.bin 27 false .and (.t 26) (.c (.int .i64 1073741823))) .unit,
  .p (.mv 3 (.t 27)) .unit]))
 (.reg none [.p (.mv 16 (.t 4)) .unit,
  .p (.bin 17 false .add (.t 16) (.c (.int .i64 1))) .unit,
  .p (.mv 4 (.t 17)) .unit])))
noncomputable def L_spec_l01New_1 : Nat → (List (Int)) × (Int) × Int → Option (((List (Int)) × Int) ⊕ (List (Int) × Int × Int)) := evL [] (finT [.t 2] [] [.box (.pair (.sl false (.int .u8)) (.pair (.int .i64) (.int .i64)))]) 0 ⟨[(0, true), (3, false), (4, false)], [.cell (.sl false (.int .u8)), .cell (.int .i64), .cell (.int .i64)]⟩ ⟨[(0, true), (3, false)], [.cell (.sl false (.int .u8)), .cell (.int .i64)]⟩ B_spec_l01New_1
def F_spec_l01New : TF := ⟨(.seq (.reg none [.p (.mv 2 (.c (.pointer none))) .unit])
 (.seq (.reg none [.p (.mv 5 (.t 0)) .unit,
  .p (.lenB 6 (.t 5)) .unit,
  .p (.bin 7 false .add (.c (.int .i64 27101)) (.t 6)) .unit,
  .p (.mv 3 (.t 7)) .unit])
 (.seq (.seq (.reg none [.p (.mv 4 (.c (.int .i64 0))) .unit])
 (.jl 0 ⟨[(0, true), (3, false), (4, false)], [.cell (.sl false (.int .u8)), .cell (.int .i64), .cell (.int .i64)]⟩ ⟨[(0, true), (3, false)], [.cell (.sl false (.int .u8)), .cell (.int .i64)]⟩ B_spec_l01New_1))
 (.seq (.reg none [.p (.mv 28 (.t 0)) .unit,
  .p (.mv 29 (.t 3)) .unit,
  .p (.bld 30 [(.sl true 1 []), (.lit (.int .i64 0)), (.lit (.int .i64 0))] [⟨0, 1, (.t 28)⟩, ⟨2, 1, (.t 29)⟩]) .unit,
  .p (.box 31 (.t 30)) .unit,
  .p (.mvT 2 31) .unit])
 .ret)))),
 32, 1, [.t 2]⟩
theorem m_spec_l01New : mH Try.prog 59 [(6, 4, .t)] = some (F_spec_l01New.code.x, F_spec_l01New.N, F_spec_l01New.np, F_spec_l01New.res) := by kernel_rfl
noncomputable def T_spec_l01New : List (Int) → Option (List (Int) × Int × Int) := evF [] F_spec_l01New [.cell (.sl false (.int .u8))] [] [.box (.pair (.sl false (.int .u8)) (.pair (.int .i64) (.int .i64)))] []
noncomputable def fn_spec_l01New : TFn := ⟨59, [.cell (.sl false (.int .u8))], [], [.box (.pair (.sl false (.int .u8)) (.pair (.int .i64) (.int .i64)))], [], T_spec_l01New⟩
theorem ok_spec_l01New : FnOk Try.prog fn_spec_l01New := evF_ok mixed allOk_nil m_spec_l01New (by decide)
def F_spec_l01Byte : TF := ⟨(.seq (.reg none [.p (.mv 2 (.c (.int .i64 0))) .unit])
 (.seq (.reg none [.p (.mvA 4 0) .unit,
  .p (.mvA 5 0) .unit,
  .p (.nilck 6 (.t 5)) .unit,
  .p (.fadr 7 (.t 6) 2) .unit,
  .p (.load 8 (.t 7) 1 false) .unit,
  .p (.bin 9 false .mul (.t 8) (.c (.int .i64 6364136223846793005))) .unit,
  .p (.bin 10 false .add (.t 9) (.c (.int .i64 1442695040888963407))) .unit,
  .p (.nilck 11 (.t 4)) .unit,
  .p (.fadr 12 (.t 11) 2) .unit,
  .p (.store (.t 12) (.t 10) 1) .unit])
 (.seq (.reg (some [[], [0], [1], [2], [3], [], [5], [6], [7], [8], [4, 9], [10], [11, 0, 1, 2, 3, 4, 5, 6, 7, 8, 9, 10, 11]]) [.p (.mvA 13 0) .unit,
  .p (.nilck 14 (.t 13)) .unit,
  .p (.fadr 15 (.t 14) 2) .unit,
  .p (.load 16 (.t 15) 1 false) .unit,
  .p (.bin 17 false .shr (.t 16) (.c (.int .u64 33))) .unit,
  .p (.mvA 18 0) .unit,
  .p (.nilck 19 (.t 18)) .unit,
  .p (.fadr 20 (.t 19) 2) .unit,
  .p (.load 21 (.t 20) 1 false) .unit,
  .p (.bin 22 false .shr (.t 21) (.c (.int .u64 45))) .unit,
  .p (.bin 23 false .xor (.t 17) (.t 22)) .unit,
  .p (.bin 24 false .and (.t 23) (.c (.int .i64 255))) .unit,
  .p (.mv 3 (.t 24)) .unit])
 (.seq (.join ⟨[(0, true), (3, false)], [.box (.pair (.sl false (.int .u8)) (.pair (.int .i64) (.int .i64))), .cell (.int .i64)]⟩ (.seq (.reg (some [[], [0], [1], [2], [], [4], [5], [6], [7], [3, 8]]) [.p (.mvA 25 0) .unit,
  .p (.nilck 26 (.t 25)) .unit,
  .p (.fadr 27 (.t 26) 1) .unit,
  .p (.load 28 (.t 27) 1 false) .unit,
  .p (.mvA 29 0) .unit,
  .p (.nilck 30 (.t 29)) .unit,
  .p (.fadr 31 (.t 30) 0) .unit,
  .p (.load 32 (.t 31) 1 false) .unit,
  .p (.lenB 33 (.t 32)) .unit,
  .p (.bin 34 false .lss (.t 28) (.t 33)) .unit])
 (.cond (.t 34) (.seq (.reg (some [[], [], [1], [2], [3], [], [5], [6], [7], [4, 8], [9], [10], [0, 11], [12], [13, 0, 1, 2, 3, 4, 5, 6, 7, 8, 9, 10, 11, 12, 13]]) [.p (.mv 35 (.t 3)) .unit,
  .p (.mvA 36 0) .unit,
  .p (.nilck 37 (.t 36)) .unit,
  .p (.fadr 38 (.t 37) 0) .unit,
  .p (.load 39 (.t 38) 1 false) .unit,
  .p (.mvA 40 0) .unit,
  .p (.nilck 41 (.t 40)) .unit,
  .p (.fadr 42 (.t 41) 1) .unit,
  .p (.load 43 (.t 42) 1 false) .unit,
  .p (.iadr 44 1 (.t 39) (.t 43)) .unit,
  .p (.load 45 (.t 44) 1 false) .unit,
  .p (.cvi 46 .i64 .u8 (.t 45)) .unit,
  .p (.bin 47 false .add (.t 35) (.t 46)) .unit,
  .p (.bin 48 false .and (.t 47) (.c (.int .i64 255))) .unit,
  .p (.mv 3 (.t 48)) .unit])
 (.reg none [.p (.mvA 49 0) .unit,
  .p (.mvA 50 0) .unit,
  .p (.nilck 51 (.t 50)) .unit,
  .p (.fadr 52 (.t 51) 1) .unit,
  .p (.load 53 (.t 52) 1 false) .unit,
  .p (.bin 54 false .add (.t 53) (.c (.int .i64 1))) .unit,
  .p (.nilck 55 (.t 49)) .unit,
  .p (.fadr 56 (.t 55) 1) .unit,
  .p (.store (.t 56) (.t 54) 1) .unit])) .skip)))
 (.seq (.reg none [.p (.mv 57 (.t 3)) .unit,
  .p (.mv 2 (.t 57)) .unit])
 .ret))))),
 58, 1, [.t 2]⟩
theorem m_spec_l01Byte : mH Try.prog 158 [(1, 0, .v), (1, 1, .v), (2, 0, .v), (2, 5, .v), (3, 0, .v), (3, 4, .v), (4, 1, .v), (4, 5, .v), (5, 0, .v), (5, 1, .v)] = some (F_spec_l01Byte.code.x, F_spec_l01Byte.N, F_spec_l01Byte.np, F_spec_l01Byte.res) := by kernel_rfl
noncomputable def T_spec_l01Byte : List (Int) × Int × Int → Option ((Int) × List (Int) × Int × Int) := evF [] F_spec_l01Byte [.box (.pair (.sl false (.int .u8)) (.pair (.int .i64) (.int .i64)))] [0] [.cell (.int .i64)] [.box (.pair (.sl false (.int .u8)) (.pair (.int .i64) (.int .i64)))]
noncomputable def fn_spec_l01Byte : TFn := ⟨158, [.box (.pair (.sl false (.int .u8)) (.pair (.int .i64) (.int .i64)))], [0], [.cell (.int .i64)], [.box (.pair (.sl false (.int .u8)) (.pair (.int .i64) (.int .i64)))], T_spec_l01Byte⟩
theorem ok_spec_l01Byte : FnOk Try.prog fn_spec_l01Byte := evF_ok mixed allOk_nil m_spec_l01Byte (by decide)
def F_spec_l01Below : TF := ⟨(.seq (.reg none [.p (.mv 4 (.c (.int .i64 0))) .unit])
 (.seq (.seq (.reg none [.p (.mv 9 (.t 1)) .unit,
  .p (.bin 10 false .leq (.t 9) (.c (.int .i64 0))) .unit])
 (.cond (.t 10) (.seq (.reg none [.p (.mv 4 (.c (.int .i64 0))) .unit])
 .ret) .skip))
 (.seq (.seq (.reg none [.p (.mv 11 (.t 1)) .unit,
  .p (.bin 12 false .leq (.t 11) (.c (.int .i64 256))) .unit])
 (.cond (.t 12) (.seq (.reg none [.p (.mvA 13 0) .unit,
  .p (.callM 14 n_spec_l01Byte [] (.ptrS (.t 13) 0) []) .unit,
  .p (.mv 15 (.t 1)) .unit,
  .p (.bin 16 false .rem (.t 14) (.t 15)) .unit,
  .p (.mv 4 (.t 16)) .unit])
 .ret) .skip))
 (.seq (.reg none [.p (.mvA 17 0) .unit,
  .p (.callM 18 n_spec_l01Byte [] (.ptrS (.t 17) 0) []) .unit,
  .p (.mv 5 (.t 18)) .unit])
 (.seq (.reg none [.p (.mvA 19 0) .unit,
  .p (.callM 20 n_spec_l01Byte [] (.ptrS (.t 19) 0) []) .unit,
  .p (.mv 6 (.t 20)) .unit])
 (.seq (.reg none [.p (.mvA 21 0) .unit,
  .p (.callM 22 n_spec_l01Byte [] (.ptrS (.t 21) 0) []) .unit,
  .p (.mv 7 (.t 22)) .unit])
 (.seq (.reg none [.p (.mvA 23 0) .unit,
  .p (.callM 24 n_spec_l01Byte [] (.ptrS (.t 23) 0) []) .unit,
  .p (.mv 8 (.t 24)) .unit])
 (.seq (.reg none [.p (.mv 25 (.t 5)) .unit,
  .p (.bin 26 false .mul (.t 25) (.c (.int .i64 16777216))) .unit,
  .p (.mv 27 (.t 6)) .unit,
  .p (.bin 28 false .mul (.t 27) (.c (.int .i64 65536))) .unit,
  .p (.bin 29 false .add (.t 26) (.t 28)) .unit,
  .p (.mv 30 (.t 7)) .unit,
  .p (.bin 31 false .mul (.t 30) (.c (.int .i64 256))) .unit,
  .p (.bin 32 false .add (.t 29) (.t 31)) .unit,
  .p (.mv 33 (.t 8)) .unit,
  .p (.bin 34 false .add (.t 32) (.t 33)) .unit,
  .p (.mv 35 (.t 1)) .unit,
  .p (.bin 36 false .rem (.t 34) (.t 35)) .unit,
  .p (.mv 4 (.t 36)) .unit])
 .ret)))))))),
 37, 2, [.t 4]⟩
theorem m_spec_l01Below : mH Try.prog 124 [(4, 0, .v), (4, 1, (.ps 0 0)), (5, 0, .v), (5, 1, (.ps 0 0)), (6, 0, .v), (6, 1, (.ps 0 0)), (7, 0, .v), (7, 1, (.ps 0 0)), (8, 0, .v), (8, 1, (.ps 0 0))] = some (F_spec_l01Below.code.x, F_spec_l01Below.N, F_spec_l01Below.np, F_spec_l01Below.res) := by kernel_rfl
noncomputable def T_spec_l01Below : (List (Int) × Int × Int) × Int → Option ((Int) × List (Int) × Int × Int) := evF [fn_spec_l01Byte] F_spec_l01Below [.box (.pair (.sl false (.int .u8)) (.pair (.int .i64) (.int .i64))), .cell (.int .i64)] [0] [.cell (.int .i64)] [.box (.pair (.sl false (.int .u8)) (.pair (.int .i64) (.int .i64)))]
noncomputable def fn_spec_l01Below : TFn := ⟨124, [.box (.pair (.sl false (.int .u8)) (.pair (.int .i64) (.int .i64))), .cell (.int .i64)], [0], [.cell (.int .i64)], [.box (.pair (.sl false (.int .u8)) (.pair (.int .i64) (.int .i64)))], T_spec_l01Below⟩
theorem ok_spec_l01Below : FnOk Try.prog fn_spec_l01Below := evF_ok mixed (allOk_cons ok_spec_l01Byte allOk_nil) m_spec_l01Below (by decide)
def F_spec_l01Once : TF := ⟨(.seq (.reg none [.p (.mv 4 (.c (.bool false))) .unit])
 (.seq (.reg none [.p (.mvA 5 0) .unit,
  .p (.mv 6 (.t 1)) .unit,
  .p (.callM 7 n_spec_l01Below [] (.ptrS (.t 5) 0) [((.t 6), 0)]) .unit,
  .p (.bin 8 false .eql (.t 7) (.c (.int .i64 0))) .unit,
  .p (.mv 4 (.t 8)) .unit])
 .ret)),
 9, 2, [.t 4]⟩
theorem m_spec_l01Once : mH Try.prog 95 [(1, 0, .v), (1, 2, (.ps 0 0))] = some (F_spec_l01Once.code.x, F_spec_l01Once.N, F_spec_l01Once.np, F_spec_l01Once.res) := by kernel_rfl
noncomputable def T_spec_l01Once : (List (Int) × Int × Int) × Int → Option ((Bool) × List (Int) × Int × Int) := evF [fn_spec_l01Below] F_spec_l01Once [.box (.pair (.sl false (.int .u8)) (.pair (.int .i64) (.int .i64))), .cell (.int .i64)] [0] [.cell .bool] [.box (.pair (.sl false (.int .u8)) (.pair (.int .i64) (.int .i64)))]
noncomputable def fn_spec_l01Once : TFn := ⟨95, [.box (.pair (.sl false (.int .u8)) (.pair (.int .i64) (.int .i64))), .cell (.int .i64)], [0], [.cell .bool], [.box (.pair (.sl false (.int .u8)) (.pair (.int .i64) (.int .i64)))], T_spec_l01Once⟩
theorem ok_spec_l01Once : FnOk Try.prog fn_spec_l01Once := evF_ok mixed (allOk_cons ok_spec_l01Below allOk_nil) m_spec_l01Once (by decide)
def B_spec_l09Ring_1 : TC := (.seq (.seq (.reg none [.p (.mv 9 (.t 4)) .unit,
  .p (.bin 10 false .leq (.t 9) (.c (.int .i64 4))) .unit])
 (.cond (.t 10) .skip (.exit 0)))
 (.seq (.join ⟨[(0, true), (2, false), (3, false), (4, false)], [.box (.pair (.sl false (.int .u8)) (.pair (.int .i64) (.int .i64))), .box (.pair (.int .i64) (.sl true (.int .i64))), .box (.pair (.int .i64) (.sl true (.int .i64))), .cell (.int .i64)]⟩ (.block 1 (.seq (.reg none [.p (.mvA 13 0) .unit,
  .p (.callM 14 n_spec_l01Once [] (.ptrS (.t 13) 0) [((.c (.int .i64 3)), 0)]) .unit,
  .p (.un 15 .not (.t 14)) .unit])
 (.cond (.t 15) (.reg none [.p (.fadr 16 (.t 3) 1) .unit,
  .p (.load 17 (.t 16) 1 false) .unit,
  .p (.mv 18 (.t 4)) .unit,
  .p (.bldS 19 1 [(.lit (.int .i64 0))] [⟨0, 1, (.t 18)⟩]) (.int .i64),
  .p (.appC 20 1 8 17 (.t 19) false) (.int .i64),
  .p (.fadr 21 (.t 3) 1) .unit,
  .p (.storeT (.t 21) 20 1) .unit]) .skip))))
 (.reg none [.p (.mv 11 (.t 4)) .unit,
  .p (.bin 12 false .add (.t 11) (.c (.int .i64 1))) .unit,
  .p (.mv 4 (.t 12)) .unit])))
noncomputable def L_spec_l09Ring_1 : Nat → (List (Int) × Int × Int) × (Int × List (Int)) × (Int × List (Int)) × Int → Option (((List (Int) × Int × Int) × (Int × List (Int)) × Int × List (Int)) ⊕ ((Int × List (Int)) × List (Int) × Int × Int)) := evL [fn_spec_l01Below, fn_spec_l01Once] (finT [.c 2 2 true] [0] [.agg (.pair (.int .i64) (.sl true (.int .i64))), .box (.pair (.sl false (.int .u8)) (.pair (.int .i64) (.int .i64)))]) 0 ⟨[(0, true), (2, false), (3, false), (4, false)], [.box (.pair (.sl false (.int .u8)) (.pair (.int .i64) (.int .i64))), .box (.pair (.int .i64) (.sl true (.int .i64))), .box (.pair (.int .i64) (.sl true (.int .i64))), .cell (.int .i64)]⟩ ⟨[(0, true), (2, false), (3, false)], [.box (.pair (.sl false (.int .u8)) (.pair (.int .i64) (.int .i64))), .box (.pair (.int .i64) (.sl true (.int .i64))), .box (.pair (.int .i64) (.sl true (.int .i64)))]⟩ B_spec_l09Ring_1
def F_spec_l09Ring : TF := ⟨(.seq (.reg none [.p (.alloc 2 [(.lit (.int .i64 0)), (.sl true 1 [])]) .unit])
 (.seq (.reg none [.p (.mvA 5 0) .unit,
  .p (.callM 6 n_spec_l01Below [] (.ptrS (.t 5) 0) [((.c (.int .i64 3)), 0)]) .unit,
  .p (.bin 7 false .add (.c (.int .i64 1)) (.t 6)) .unit,
  .p (.bld 8 [(.lit (.int .i64 0)), (.sl true 1 [])] [⟨0, 1, (.t 7)⟩]) .unit,
  .p (.alloc 3 [(.lit (.int .i64 0)), (.sl true 1 [])]) .unit,
  .p (.storeT (.t 3) 8 2) .unit])
 (.seq (.seq (.reg none [.p (.mv 4 (.c (.int .i64 1))) .unit])
 (.jl 0 ⟨[(0, true), (2, false), (3, false), (4, false)], [.box (.pair (.sl false (.int .u8)) (.pair (.int .i64) (.int .i64))), .box (.pair (.int .i64) (.sl true (.int .i64))), .box (.pair (.int .i64) (.sl true (.int .i64))), .cell (.int .i64)]⟩ ⟨[(0, true), (2, false), (3, false)], [.box (.pair (.sl false (.int .u8)) (.pair (.int .i64) (.int .i64))), .box (.pair (.int .i64) (.sl true (.int .i64))), .box (.pair (.int .i64) (.sl true (.int .i64)))]⟩ B_spec_l09Ring_1))
 (.seq (.join ⟨[(0, true), (2, false), (3, false)], [.box (.pair (.sl false (.int .u8)) (.pair (.int .i64) (.int .i64))), .box (.pair (.int .i64) (.sl true (.int .i64))), .box (.pair (.int .i64) (.sl true (.int .i64)))]⟩ (.seq (.reg none [.p (.fadr 22 (.t 3) 1) .unit,
  .p (.load 23 (.t 22) 1 false) .unit,
  .p (.lenB 24 (.t 23)) .unit,
  .p (.bin 25 false .eql (.t 24) (.c (.int .i64 0))) .unit])
 (.cond (.t 25) (.reg none [.p (.bldS 26 1 [(.lit (.int .i64 0))] [⟨0, 1, (.c (.int .i64 2))⟩]) (.int .i64),
  .p (.fadr 27 (.t 3) 1) .unit,
  .p (.storeT (.t 27) 26 1) .unit]) .skip)))
 (.seq (.reg none [.p (.loadT 28 (.t 3) 2 true) .unit,
  .p (.storeT (.t 2) 28 2) .unit])
 .ret))))),
 29, 1, [.c 2 2 true]⟩
theorem m_spec_l09Ring : mH Try.prog 141 [(1, 0, .v), (1, 1, (.ps 0 0)), (1, 5, .t), (5, 0, .v), (5, 1, (.ps 0 0)), (6, 4, .z), (6, 6, .t), (8, 2, .t), (9, 0, .t), (9, 1, .t)] = some (F_spec_l09Ring.code.x, F_spec_l09Ring.N, F_spec_l09Ring.np, F_spec_l09Ring.res) := by kernel_rfl
noncomputable def T_spec_l09Ring : List (Int) × Int × Int → Option ((Int × List (Int)) × List (Int) × Int × Int) := evF [fn_spec_l01Below, fn_spec_l01Once] F_spec_l09Ring [.box (.pair (.sl false (.int .u8)) (.pair (.int .i64) (.int .i64)))] [0] [.agg (.pair (.int .i64) (.sl true (.int .i64)))] [.box (.pair (.sl false (.int .u8)) (.pair (.int .i64) (.int .i64)))]
noncomputable def fn_spec_l09Ring : TFn := ⟨141, [.box (.pair (.sl false (.int .u8)) (.pair (.int .i64) (.int .i64)))], [0], [.agg (.pair (.int .i64) (.sl true (.int .i64)))], [.box (.pair (.sl false (.int .u8)) (.pair (.int .i64) (.int .i64)))], T_spec_l09Ring⟩
theorem ok_spec_l09Ring : FnOk Try.prog fn_spec_l09Ring := evF_ok mixed (allOk_cons ok_spec_l01Below (allOk_cons ok_spec_l01Once allOk_nil)) m_spec_l09Ring (by decide)
def F_spec_l01Figure : TF := ⟨(.seq (.reg none [.p (.mv 2 (.c (.int .u8 0))) .unit])
 (.seq (.seq (.reg none [.p (.mv 3 (.t 0)) .unit,
  .p (.bin 4 false .lss (.t 3) (.c (.int .i64 10))) .unit])
 (.cond (.t 4) (.seq (.reg none [.p (.mv 5 (.t 0)) .unit,
  .p (.bin 6 false .add (.c (.int .i64 48)) (.t 5)) .unit,
  .p (.cvi 7 .u8 .i64 (.t 6)) .unit,
  .p (.mv 2 (.t 7)) .unit])
 .ret) .skip))
 (.seq (.reg none [.p (.mv 8 (.t 0)) .unit,
  .p (.bin 9 false .add (.c (.int .i64 97)) (.t 8)) .unit,
  .p (.bin 10 false .sub (.t 9) (.c (.int .i64 10))) .unit,
  .p (.cvi 11 .u8 .i64 (.t 10)) .unit,
  .p (.mv 2 (.t 11)) .unit])
 .ret))),
 12, 1, [.t 2]⟩
theorem m_spec_l01Figure : mH Try.prog 183 [] = some (F_spec_l01Figure.code.x, F_spec_l01Figure.N, F_spec_l01Figure.np, F_spec_l01Figure.res) := by kernel_rfl
noncomputable def T_spec_l01Figure : Int → Option (Int) := evF [] F_spec_l01Figure [.cell (.int .i64)] [] [.cell (.int .u8)] []
noncomputable def fn_spec_l01Figure : TFn := ⟨183, [.cell (.int .i64)], [], [.cell (.int .u8)], [], T_spec_l01Figure⟩
theorem ok_spec_l01Figure : FnOk Try.prog fn_spec_l01Figure := evF_ok mixed allOk_nil m_spec_l01Figure (by decide)
def B_spec_Decimal_1 : TC := (.seq (.seq (.reg none [.p (.mv 10 (.t 0)) .unit,
  .p (.bin 11 false .neq (.t 10) (.c (.int .i64 0))) .unit])
 (.cond (.t 11) .skip (.exit 0)))
 (.block 1 (.seq (.reg none [.p (.mv 12 (.t 0)) .unit,
  .p (.bin 13 false .rem (.t 12) (.c (.int .i64 10))) .unit,
  .p (.mv 5 (.t 13)) .unit])
 (.seq (.join ⟨[(0, false), (3, false), (4, false), (5, false)], [.cell (.int .i64), .cell .bool, .cell .str, .cell (.int .i64)]⟩ (.seq (.reg none [.p (.mv 14 (.t 5)) .unit,
  .p (.bin 15 false .lss (.t 14) (.c (.int .i64 0))) .unit])
 (.cond (.t 15) (.reg none [.p (.mv 16 (.t 5)) .unit,
  .p (.un 17 .neg (.t 16)) .unit,
  .p (.mv 5 (.t 17)) .unit]) .skip)))
 (.seq (.reg none [.p (.mv 18 (.t 5)) .unit,
  .p (.callB 19 n_spec_l01Figure [((.t 18), 0)]) .unit,
  .p (.bldS 20 1 [(.lit (.int .u8 0))] [⟨0, 1, (.t 19)⟩]) (.int .u8),
  .p (.b2s 21 (.t 20)) .unit,
  .p (.mv 22 (.t 4)) .unit,
  .p (.bin 23 false .add (.t 21) (.t 22)) .unit,
  .p (.mv 4 (.t 23)) .unit])
 (.reg none [.p (.mv 24 (.t 0)) .unit,
  .p (.bin 25 false .quo (.t 24) (.c (.int .i64 10))) .unit,
  .p (.mv 0 (.t 25)) .unit]))))))
noncomputable def L_spec_Decimal_1 : Nat → (Int) × (Bool) × List UInt8 → Option (((Bool) × List UInt8) ⊕ (List UInt8)) := evL [fn_spec_l01Figure] (finT [.t 2] [] [.cell .str]) 0 ⟨[(0, false), (3, false), (4, false)], [.cell (.int .i64), .cell .bool, .cell .str]⟩ ⟨[(3, false), (4, false)], [.cell .bool, .cell .str]⟩ B_spec_Decimal_1
def F_spec_Decimal : TF := ⟨(.seq (.reg none [.p (.mv 2 (.c (.string (ba [])))) .unit])
 (.seq (.seq (.reg none [.p (.mv 6 (.t 0)) .unit,
  .p (.bin 7 false .eql (.t 6) (.c (.int .i64 0))) .unit])
 (.cond (.t 7) (.seq (.reg none [.p (.mv 2 (.c (.string (ba [48])))) .unit])
 .ret) .skip))
 (.seq (.reg none [.p (.mv 8 (.t 0)) .unit,
  .p (.bin 9 false .lss (.t 8) (.c (.int .i64 0))) .unit,
  .p (.mv 3 (.t 9)) .unit])
 (.seq (.reg none [.p (.mv 4 (.c (.string (ba [])))) .unit])
 (.seq (.jl 0 ⟨[(0, false), (3, false), (4, false)], [.cell (.int .i64), .cell .bool, .cell .str]⟩ ⟨[(3, false), (4, false)], [.cell .bool, .cell .str]⟩ B_spec_Decimal_1)
 (.seq (.seq (.reg none [.p (.mv 26 (.t 3)) .unit])
 (.cond (.t 26) (.seq (.reg none [.p (.mv 27 (.t 4)) .unit,
  .p (.bin 28 false .add (.c (.string (ba [45]))) (.t 27)) .unit,
  .p (.mv 2 (.t 28)) .unit])
 .ret) .skip))
 (.seq (.reg none [.p (.mv 29 (.t 4)) .unit,
  .p (.mv 2 (.t 29)) .unit])
 .ret))))))),
 30, 1, [.t 2]⟩
theorem m_spec_Decimal : mH Try.prog 164 [] = some (F_spec_Decimal.code.x, F_spec_Decimal.N, F_spec_Decimal.np, F_spec_Decimal.res) := by kernel_rfl
noncomputable def T_spec_Decimal : Int → Option (List UInt8) := evF [fn_spec_l01Figure] F_spec_Decimal [.cell (.int .i64)] [] [.cell .str] []
noncomputable def fn_spec_Decimal : TFn := ⟨164, [.cell (.int .i64)], [], [.cell .str], [], T_spec_Decimal⟩
theorem ok_spec_Decimal : FnOk Try.prog fn_spec_Decimal := evF_ok mixed (allOk_cons ok_spec_l01Figure allOk_nil) m_spec_Decimal (by decide)
def B_spec_l13Bundle_1 : TC := (.seq (.seq (.reg none [.p (.mv 31 (.t 9)) .unit,
  .p (.bin 32 false .leq (.t 31) (.c (.int .i64 6))) .unit])
 (.cond (.t 32) .skip (.exit 0)))
 (.seq (.block 1 (.reg none [.p (.mvT 35 8) .unit,
  .p (.mv 36 (.t 9)) .unit,
  .p (.mv 37 (.t 9)) .unit,
  .p (.bin 38 false .rem (.t 37) (.c (.int .i64 3))) .unit,
  .p (.bin 39 false .add (.c (.int .i64 1)) (.t 38)) .unit,
  .p (.mv 40 (.t 9)) .unit,
  .p (.bin 41 false .rem (.t 40) (.c (.int .i64 2))) .unit,
  .p (.bin 42 false .add (.c (.int .i64 1)) (.t 41)) .unit,
  .p (.mv 43 (.t 9)) .unit,
  .p (.callB 44 n_spec_Decimal [((.t 43), 0)]) .unit,
  .p (.bld 45 [(.lit (.int .i64 0)), (.lit (.int .i64 0)), (.lit (.int .i64 0)), (.lit (.string (ba [])))] [⟨0, 1, (.t 36)⟩, ⟨1, 1, (.t 39)⟩, ⟨2, 1, (.t 42)⟩, ⟨3, 1, (.t 44)⟩]) .unit,
  .p (.bldS 46 1 [(.lit (.int .i64 0)), (.lit (.int .i64 0)), (.lit (.int .i64 0)), (.lit (.string (ba [])))] [⟨0, 4, (.t 45)⟩]) (.pair (.int .i64) (.pair (.int .i64) (.pair (.int .i64) .str))),
  .p (.app 47 4 40 (.t 35) (.t 46)) (.pair (.int .i64) (.pair (.int .i64) (.pair (.int .i64) .str))),
  .p (.mvT 8 47) .unit]))
 (.reg none [.p (.mv 33 (.t 9)) .unit,
  .p (.bin 34 false .add (.t 33) (.c (.int .i64 1))) .unit,
  .p (.mv 9 (.t 34)) .unit])))
noncomputable def L_spec_l13Bundle_1 : Nat → (List (Int) × Int × Int) × (Int × Int × Int × List (Int × Int × Int × List UInt8)) × (Int × Int × Int × List (Int × Int × Int × List UInt8)) × (List (Int × Int × Int × List UInt8)) × Int → Option (((List (Int) × Int × Int) × (Int × Int × Int × List (Int × Int × Int × List UInt8)) × (Int × Int × Int × List (Int × Int × Int × List UInt8)) × List (Int × Int × Int × List UInt8)) ⊕ ((Int × Int × Int × List (Int × Int × Int × List UInt8)) × List (Int) × Int × Int)) := evL [fn_spec_l01Once, fn_spec_l01Below, fn_spec_Decimal] (finT [.c 6 4 true] [0] [.agg (.pair (.int .i64) (.pair (.int .i64) (.pair (.int .i64) (.sl true (.pair (.int .i64) (.pair (.int .i64) (.pair (.int .i64) .str))))))), .box (.pair (.sl false (.int .u8)) (.pair (.int .i64) (.int .i64)))]) 0 ⟨[(0, true), (6, false), (7, false), (8, false), (9, false)], [.box (.pair (.sl false (.int .u8)) (.pair (.int .i64) (.int .i64))), .box (.pair (.int .i64) (.pair (.int .i64) (.pair (.int .i64) (.sl true (.pair (.int .i64) (.pair (.int .i64) (.pair (.int .i64) .str))))))), .box (.pair (.int .i64) (.pair (.int .i64) (.pair (.int .i64) (.sl true (.pair (.int .i64) (.pair (.int .i64) (.pair (.int .i64) .str))))))), .cell (.sl true (.pair (.int .i64) (.pair (.int .i64) (.pair (.int .i64) .str)))), .cell (.int .i64)]⟩ ⟨[(0, true), (6, false), (7, false), (8, false)], [.box (.pair (.sl false (.int .u8)) (.pair (.int .i64) (.int .i64))), .box (.pair (.int .i64) (.pair (.int .i64) (.pair (.int .i64) (.sl true (.pair (.int .i64) (.pair (.int .i64) (.pair (.int .i64) .str))))))), .box (.pair (.int .i64) (.pair (.int .i64) (.pair (.int .i64) (.sl true (.pair (.int .i64) (.pair (.int .i64) (.pair (.int .i64) .str))))))), .cell (.sl true (.pair (.int .i64) (.pair (.int .i64) (.pair (.int .i64) .str))))]⟩ B_spec_l13Bundle_1
def B_spec_l13Bundle_2 : TC := (.seq (.seq (.reg none [.p (.mv 48 (.t 10)) .unit,
  .p (.mvA 49 8) .unit,
  .p (.lenB 50 (.t 49)) .unit,
  .p (.bin 51 false .lss (.t 48) (.t 50)) .unit])
 (.cond (.t 51) .skip (.exit 2)))
 (.seq (.join ⟨[(0, true), (6, false), (7, false), (8, false), (10, false)], [.box (.pair (.sl false (.int .u8)) (.pair (.int .i64) (.int .i64))), .box (.pair (.int .i64) (.pair (.int .i64) (.pair (.int .i64) (.sl true (.pair (.int .i64) (.pair (.int .i64) (.pair (.int .i64) .str))))))), .box (.pair (.int .i64) (.pair (.int .i64) (.pair (.int .i64) (.sl true (.pair (.int .i64) (.pair (.int .i64) (.pair (.int .i64) .str))))))), .cell (.sl true (.pair (.int .i64) (.pair (.int .i64) (.pair (.int .i64) .str)))), .cell (.int .i64)]⟩ (.block 3 (.seq (.reg none [.p (.mvA 54 0) .unit,
  .p (.callM 55 n_spec_l01Once [] (.ptrS (.t 54) 0) [((.c (.int .i64 3)), 0)]) .unit,
  .p (.un 56 .not (.t 55)) .unit])
 (.cond (.t 56) (.reg (some [[], [0], [], [], [2, 3], [4], [5], [1, 6], [0, 1, 2, 3, 4, 5, 6, 7], [8, 7, 7, 0, 1, 2, 3, 4, 5, 6, 7]]) [.p (.fadr 57 (.t 7) 3) .unit,
  .p (.load 58 (.t 57) 1 false) .unit,
  .p (.mvA 59 8) .unit,
  .p (.mv 60 (.t 10)) .unit,
  .p (.iadr 61 4 (.t 59) (.t 60)) .unit,
  .p (.load 62 (.t 61) 4 true) .unit,
  .p (.bldS 63 1 [(.lit (.int .i64 0)), (.lit (.int .i64 0)), (.lit (.int .i64 0)), (.lit (.string (ba [])))] [⟨0, 4, (.t 62)⟩]) (.pair (.int .i64) (.pair (.int .i64) (.pair (.int .i64) .str))),
  .p (.appC 64 4 40 58 (.t 63) false) (.pair (.int .i64) (.pair (.int .i64) (.pair (.int .i64) .str))),
  .p (.fadr 65 (.t 7) 3) .unit,
  .p (.storeT (.t 65) 64 1) .unit]) .skip))))
 (.reg none [.p (.mv 52 (.t 10)) .unit,
  .p (.bin 53 false .add (.t 52) (.c (.int .i64 1))) .unit,
  .p (.mv 10 (.t 53)) .unit])))
noncomputable def L_spec_l13Bundle_2 : Nat → (List (Int) × Int × Int) × (Int × Int × Int × List (Int × Int × Int × List UInt8)) × (Int × Int × Int × List (Int × Int × Int × List UInt8)) × (List (Int × Int × Int × List UInt8)) × Int → Option (((List (Int) × Int × Int) × (Int × Int × Int × List (Int × Int × Int × List UInt8)) × Int × Int × Int × List (Int × Int × Int × List UInt8)) ⊕ ((Int × Int × Int × List (Int × Int × Int × List UInt8)) × List (Int) × Int × Int)) := evL [fn_spec_l01Once, fn_spec_l01Below, fn_spec_Decimal] (finT [.c 6 4 true] [0] [.agg (.pair (.int .i64) (.pair (.int .i64) (.pair (.int .i64) (.sl true (.pair (.int .i64) (.pair (.int .i64) (.pair (.int .i64) .str))))))), .box (.pair (.sl false (.int .u8)) (.pair (.int .i64) (.int .i64)))]) 2 ⟨[(0, true), (6, false), (7, false), (8, false), (10, false)], [.box (.pair (.sl false (.int .u8)) (.pair (.int .i64) (.int .i64))), .box (.pair (.int .i64) (.pair (.int .i64) (.pair (.int .i64) (.sl true (.pair (.int .i64) (.pair (.int .i64) (.pair (.int .i64) .str))))))), .box (.pair (.int .i64) (.pair (.int .i64) (.pair (.int .i64) (.sl true (.pair (.int .i64) (.pair (.int .i64) (.pair (.int .i64) .str))))))), .cell (.sl true (.pair (.int .i64) (.pair (.int .i64) (.pair (.int .i64) .str)))), .cell (.int .i64)]⟩ ⟨[(0, true), (6, false), (7, false)], [.box (.pair (.sl false (.int .u8)) (.pair (.int .i64) (.int .i64))), .box (.pair (.int .i64) (.pair (.int .i64) (.pair (.int .i64) (.sl true (.pair (.int .i64) (.pair (.int .i64) (.pair (.int .i64) .str))))))), .box (.pair (.int .i64) (.pair (.int .i64) (.pair (.int .i64) (.sl true (.pair (.int .i64) (.pair (.int .i64) (.pair (.int .i64) .str)))))))]⟩ B_spec_l13Bundle_2
def F_spec_l13Bundle : TF := ⟨(.seq (.reg none [.p (.box 4 (.t 1)) .unit,
  .p (.alloc 6 [(.lit (.int .i64 0)), (.lit (.int .i64 0)), (.lit (.int .i64 0)), (.sl true 4 [])]) .unit])
 (.seq (.reg none [.p (.mv 11 (.t 2)) .unit,
  .p (.fadr 12 (.t 4) 0) .unit,
  .p (.load 13 (.t 12) 1 false) .unit,
  .p (.bld 14 [(.lit (.int .i64 0)), (.lit (.int .i64 0)), (.lit (.int .i64 0)), (.sl true 4 [])] [⟨0, 1, (.t 11)⟩, ⟨1, 1, (.t 13)⟩]) .unit,
  .p (.alloc 7 [(.lit (.int .i64 0)), (.lit (.int .i64 0)), (.lit (.int .i64 0)), (.sl true 4 [])]) .unit,
  .p (.storeT (.t 7) 14 4) .unit])
 (.seq (.join ⟨[(0, true), (6, false), (7, false)], [.box (.pair (.sl false (.int .u8)) (.pair (.int .i64) (.int .i64))), .box (.pair (.int .i64) (.pair (.int .i64) (.pair (.int .i64) (.sl true (.pair (.int .i64) (.pair (.int .i64) (.pair (.int .i64) .str))))))), .box (.pair (.int .i64) (.pair (.int .i64) (.pair (.int .i64) (.sl true (.pair (.int .i64) (.pair (.int .i64) (.pair (.int .i64) .str)))))))]⟩ (.seq (.join ⟨[(0, true), (4, false), (6, false), (7, false), (22, false)], [.box (.pair (.sl false (.int .u8)) (.pair (.int .i64) (.int .i64))), .box (.pair (.int .i64) (.sl false (.int .i64))), .box (.pair (.int .i64) (.pair (.int .i64) (.pair (.int .i64) (.sl true (.pair (.int .i64) (.pair (.int .i64) (.pair (.int .i64) .str))))))), .box (.pair (.int .i64) (.pair (.int .i64) (.pair (.int .i64) (.sl true (.pair (.int .i64) (.pair (.int .i64) (.pair (.int .i64) .str))))))), .cell .bool]⟩ (.reg none [.p (.fadr 15 (.t 4) 0) .unit,
  .p (.load 16 (.t 15) 1 false) .unit,
  .p (.bin 17 false .gtr (.t 16) (.c (.int .i64 1))) .unit,
  .p (.mv 18 (.t 17)) .unit,
  .g 18 true (some 19) (.mvA 19 0) .unit,
  .g 18 true (some 20) (.callM 20 n_spec_l01Once [] (.ptrS (.t 19) 0) [((.c (.int .i64 4)), 0)]) .unit,
  .g 18 true (some 21) (.un 21 .not (.t 20)) .unit,
  .p (.pick 22 (.t 18) (.t 21) (.c (.bool false))) .unit]))
 (.cond (.t 22) (.seq (.reg none [.p (.mvA 23 0) .unit,
  .p (.fadr 24 (.t 4) 0) .unit,
  .p (.load 25 (.t 24) 1 false) .unit,
  .p (.bin 26 false .sub (.t 25) (.c (.int .i64 1))) .unit,
  .p (.callM 27 n_spec_l01Below [] (.ptrS (.t 23) 0) [((.t 26), 0)]) .unit,
  .p (.bin 28 false .add (.c (.int .i64 1)) (.t 27)) .unit,
  .p (.fadr 29 (.t 7) 2) .unit,
  .p (.store (.t 29) (.t 28) 1) .unit])
 (.seq (.reg none [.p (.bldS 30 0 [(.lit (.int .i64 0)), (.lit (.int .i64 0)), (.lit (.int .i64 0)), (.lit (.string (ba [])))] []) (.pair (.int .i64) (.pair (.int .i64) (.pair (.int .i64) .str))),
  .p (.mvT 8 30) .unit])
 (.seq (.seq (.reg none [.p (.mv 9 (.c (.int .i64 1))) .unit])
 (.jl 0 ⟨[(0, true), (6, false), (7, false), (8, false), (9, false)], [.box (.pair (.sl false (.int .u8)) (.pair (.int .i64) (.int .i64))), .box (.pair (.int .i64) (.pair (.int .i64) (.pair (.int .i64) (.sl true (.pair (.int .i64) (.pair (.int .i64) (.pair (.int .i64) .str))))))), .box (.pair (.int .i64) (.pair (.int .i64) (.pair (.int .i64) (.sl true (.pair (.int .i64) (.pair (.int .i64) (.pair (.int .i64) .str))))))), .cell (.sl true (.pair (.int .i64) (.pair (.int .i64) (.pair (.int .i64) .str)))), .cell (.int .i64)]⟩ ⟨[(0, true), (6, false), (7, false), (8, false)], [.box (.pair (.sl false (.int .u8)) (.pair (.int .i64) (.int .i64))), .box (.pair (.int .i64) (.pair (.int .i64) (.pair (.int .i64) (.sl true (.pair (.int .i64) (.pair (.int .i64) (.pair (.int .i64) .str))))))), .box (.pair (.int .i64) (.pair (.int .i64) (.pair (.int .i64) (.sl true (.pair (.int .i64) (.pair (.int .i64) (.pair (.int .i64) .str))))))), .cell (.sl true (.pair (.int .i64) (.pair (.int .i64) (.pair (.int .i64) .str))))]⟩ B_spec_l13Bundle_1))
 (.seq (.reg none [.p (.mv 10 (.c (.int .i64 0))) .unit])
 (.jl 2 ⟨[(0, true), (6, false), (7, false), (8, false), (10, false)], [.box (.pair (.sl false (.int .u8)) (.pair (.int .i64) (.int .i64))), .box (.pair (.int .i64) (.pair (.int .i64) (.pair (.int .i64) (.sl true (.pair (.int .i64) (.pair (.int .i64) (.pair (.int .i64) .str))))))), .box (.pair (.int .i64) (.pair (.int .i64) (.pair (.int .i64) (.sl true (.pair (.int .i64) (.pair (.int .i64) (.pair (.int .i64) .str))))))), .cell (.sl true (.pair (.int .i64) (.pair (.int .i64) (.pair (.int .i64) .str)))), .cell (.int .i64)]⟩ ⟨[(0, true), (6, false), (7, false)], [.box (.pair (.sl false (.int .u8)) (.pair (.int .i64) (.int .i64))), .box (.pair (.int .i64) (.pair (.int .i64) (.pair (.int .i64) (.sl true (.pair (.int .i64) (.pair (.int .i64) (.pair (.int .i64) .str))))))), .box (.pair (.int .i64) (.pair (.int .i64) (.pair (.int .i64) (.sl true (.pair (.int .i64) (.pair (.int .i64) (.pair (.int .i64) .str)))))))]⟩ B_spec_l13Bundle_2))))) .skip)))
 (.seq (.reg none [.p (.loadT 66 (.t 7) 4 true) .unit,
  .p (.storeT (.t 6) 66 4) .unit])
 .ret)))),
 67, 3, [.c 6 4 true]⟩
theorem m_spec_l13Bundle : mH Try.prog 142 [(1, 5, .t), (2, 4, .v), (2, 5, (.ps 0 0)), (3, 0, .v), (3, 4, (.ps 0 0)), (4, 1, .t), (8, 0, .t), (8, 13, .t), (10, 1, .v), (12, 0, .v), (12, 1, (.ps 0 0)), (13, 2, .v), (13, 7, .z), (13, 9, .t), (14, 0, .t), (14, 1, .t)] = some (F_spec_l13Bundle.code.x, F_spec_l13Bundle.N, F_spec_l13Bundle.np, F_spec_l13Bundle.res) := by kernel_rfl
noncomputable def T_spec_l13Bundle : (List (Int) × Int × Int) × (Int × List (Int)) × Int → Option ((Int × Int × Int × List (Int × Int × Int × List UInt8)) × List (Int) × Int × Int) := evF [fn_spec_l01Once, fn_spec_l01Below, fn_spec_Decimal] F_spec_l13Bundle [.box (.pair (.sl false (.int .u8)) (.pair (.int .i64) (.int .i64))), .agg (.pair (.int .i64) (.sl false (.int .i64))), .cell (.int .i64)] [0] [.agg (.pair (.int .i64) (.pair (.int .i64) (.pair (.int .i64) (.sl true (.pair (.int .i64) (.pair (.int .i64) (.pair (.int .i64) .str)))))))] [.box (.pair (.sl false (.int .u8)) (.pair (.int .i64) (.int .i64)))]
noncomputable def fn_spec_l13Bundle : TFn := ⟨142, [.box (.pair (.sl false (.int .u8)) (.pair (.int .i64) (.int .i64))), .agg (.pair (.int .i64) (.sl false (.int .i64))), .cell (.int .i64)], [0], [.agg (.pair (.int .i64) (.pair (.int .i64) (.pair (.int .i64) (.sl true (.pair (.int .i64) (.pair (.int .i64) (.pair (.int .i64) .str)))))))], [.box (.pair (.sl false (.int .u8)) (.pair (.int .i64) (.int .i64)))], T_spec_l13Bundle⟩
theorem ok_spec_l13Bundle : FnOk Try.prog fn_spec_l13Bundle := evF_ok mixed (allOk_cons ok_spec_l01Once (allOk_cons ok_spec_l01Below (allOk_cons ok_spec_Decimal allOk_nil))) m_spec_l13Bundle (by decide)
def F_spec_l01PickInt : TF := ⟨(.seq (.reg none [.p (.mv 4 (.c (.int .i64 0))) .unit])
 (.seq (.reg none [.p (.mv 5 (.t 1)) .unit,
  .p (.mvA 6 0) .unit,
  .p (.mv 7 (.t 1)) .unit,
  .p (.lenB 8 (.t 7)) .unit,
  .p (.callM 9 n_spec_l01Below [] (.ptrS (.t 6) 0) [((.t 8), 0)]) .unit,
  .p (.iadr 10 1 (.t 5) (.t 9)) .unit,
  .p (.load 11 (.t 10) 1 false) .unit,
  .p (.mv 4 (.t 11)) .unit])
 .ret)),
 12, 2, [.t 4]⟩
theorem m_spec_l01PickInt : mH Try.prog 125 [(1, 1, .v), (1, 4, (.ps 0 0))] = some (F_spec_l01PickInt.code.x, F_spec_l01PickInt.N, F_spec_l01PickInt.np, F_spec_l01PickInt.res) := by kernel_rfl
noncomputable def T_spec_l01PickInt : (List (Int) × Int × Int) × List (Int) → Option ((Int) × List (Int) × Int × Int) := evF [fn_spec_l01Below] F_spec_l01PickInt [.box (.pair (.sl false (.int .u8)) (.pair (.int .i64) (.int .i64))), .cell (.sl false (.int .i64))] [0] [.cell (.int .i64)] [.box (.pair (.sl false (.int .u8)) (.pair (.int .i64) (.int .i64)))]
noncomputable def fn_spec_l01PickInt : TFn := ⟨125, [.box (.pair (.sl false (.int .u8)) (.pair (.int .i64) (.int .i64))), .cell (.sl false (.int .i64))], [0], [.cell (.int .i64)], [.box (.pair (.sl false (.int .u8)) (.pair (.int .i64) (.int .i64)))], T_spec_l01PickInt⟩
theorem ok_spec_l01PickInt : FnOk Try.prog fn_spec_l01PickInt := evF_ok mixed (allOk_cons ok_spec_l01Below allOk_nil) m_spec_l01PickInt (by decide)
def F_spec_l01Pick : TF := ⟨(.seq (.reg none [.p (.mv 4 (.c (.string (ba [])))) .unit])
 (.seq (.reg none [.p (.mv 5 (.t 1)) .unit,
  .p (.mvA 6 0) .unit,
  .p (.mv 7 (.t 1)) .unit,
  .p (.lenB 8 (.t 7)) .unit,
  .p (.callM 9 n_spec_l01Below [] (.ptrS (.t 6) 0) [((.t 8), 0)]) .unit,
  .p (.iadr 10 1 (.t 5) (.t 9)) .unit,
  .p (.load 11 (.t 10) 1 false) .unit,
  .p (.mv 4 (.t 11)) .unit])
 .ret)),
 12, 2, [.t 4]⟩
theorem m_spec_l01Pick : mH Try.prog 140 [(1, 1, .v), (1, 4, (.ps 0 0))] = some (F_spec_l01Pick.code.x, F_spec_l01Pick.N, F_spec_l01Pick.np, F_spec_l01Pick.res) := by kernel_rfl
noncomputable def T_spec_l01Pick : (List (Int) × Int × Int) × List (List UInt8) → Option ((List UInt8) × List (Int) × Int × Int) := evF [fn_spec_l01Below] F_spec_l01Pick [.box (.pair (.sl false (.int .u8)) (.pair (.int .i64) (.int .i64))), .cell (.sl false .str)] [0] [.cell .str] [.box (.pair (.sl false (.int .u8)) (.pair (.int .i64) (.int .i64)))]
noncomputable def fn_spec_l01Pick : TFn := ⟨140, [.box (.pair (.sl false (.int .u8)) (.pair (.int .i64) (.int .i64))), .cell (.sl false .str)], [0], [.cell .str], [.box (.pair (.sl false (.int .u8)) (.pair (.int .i64) (.int .i64)))], T_spec_l01Pick⟩
theorem ok_spec_l01Pick : FnOk Try.prog fn_spec_l01Pick := evF_ok mixed (allOk_cons ok_spec_l01Below allOk_nil) m_spec_l01Pick (by decide)
def F_spec_l05Of : TF := ⟨(.seq (.reg none [.p (.alloc 4 [(.lit (.int .i64 0)), (.lit (.int .i64 0)), (.lit (.int .i64 0)), (.lit (.string (ba [])))]) .unit])
 (.seq (.reg none [.p (.mv 5 (.t 1)) .unit,
  .p (.mv 6 (.t 1)) .unit,
  .p (.bin 7 false .rem (.t 6) (.c (.int .i64 3))) .unit,
  .p (.bin 8 false .add (.c (.int .i64 1)) (.t 7)) .unit,
  .p (.mvA 9 0) .unit,
  .p (.callM 10 n_spec_l01Below [] (.ptrS (.t 9) 0) [((.c (.int .i64 2)), 0)]) .unit,
  .p (.bin 11 false .add (.c (.int .i64 1)) (.t 10)) .unit,
  .p (.mvA 12 0) .unit,
  .p (.bldZ 13 4 [(.lit (.string (ba [])))] [⟨0, 1, (.c (.string (ba [])))⟩, ⟨1, 1, (.c (.string (ba [120])))⟩, ⟨2, 1, (.c (.string (ba [121, 121])))⟩, ⟨3, 1, (.c (.string (ba [122, 122, 122])))⟩]) .str,
  .p (.callM 14 n_spec_l01Pick [] (.ptrS (.t 12) 0) [((.t 13), 0)]) .unit,
  .p (.bld 15 [(.lit (.int .i64 0)), (.lit (.int .i64 0)), (.lit (.int .i64 0)), (.lit (.string (ba [])))] [⟨0, 1, (.t 5)⟩, ⟨1, 1, (.t 8)⟩, ⟨2, 1, (.t 11)⟩, ⟨3, 1, (.t 14)⟩]) .unit,
  .p (.store (.t 4) (.t 15) 4) .unit])
 .ret)),
 16, 2, [.c 4 4 true]⟩
theorem m_spec_l05Of : mH Try.prog 123 [(1, 4, .v), (1, 5, (.ps 0 0)), (1, 7, .v), (1, 8, .z), (1, 9, (.ps 0 0))] = some (F_spec_l05Of.code.x, F_spec_l05Of.N, F_spec_l05Of.np, F_spec_l05Of.res) := by kernel_rfl
noncomputable def T_spec_l05Of : (List (Int) × Int × Int) × Int → Option ((Int × Int × Int × List UInt8) × List (Int) × Int × Int) := evF [fn_spec_l01Below, fn_spec_l01Pick] F_spec_l05Of [.box (.pair (.sl false (.int .u8)) (.pair (.int .i64) (.int .i64))), .cell (.int .i64)] [0] [.agg (.pair (.int .i64) (.pair (.int .i64) (.pair (.int .i64) .str)))] [.box (.pair (.sl false (.int .u8)) (.pair (.int .i64) (.int .i64)))]
noncomputable def fn_spec_l05Of : TFn := ⟨123, [.box (.pair (.sl false (.int .u8)) (.pair (.int .i64) (.int .i64))), .cell (.int .i64)], [0], [.agg (.pair (.int .i64) (.pair (.int .i64) (.pair (.int .i64) .str)))], [.box (.pair (.sl false (.int .u8)) (.pair (.int .i64) (.int .i64)))], T_spec_l05Of⟩
theorem ok_spec_l05Of : FnOk Try.prog fn_spec_l05Of := evF_ok mixed (allOk_cons ok_spec_l01Below (allOk_cons ok_spec_l01Pick allOk_nil)) m_spec_l05Of (by decide)
def B_spec_l05Items_1 : TC := (.seq (.seq (.reg none [.p (.mv 6 (.t 4)) .unit,
  .p (.mvA 7 0) .unit,
  .p (.callM 8 n_spec_l01Below [] (.ptrS (.t 7) 0) [((.c (.int .i64 10)), 0)]) .unit,
  .p (.bin 9 false .leq (.t 6) (.t 8)) .unit])
 (.cond (.t 9) .skip (.exit 0)))
 (.seq (.join ⟨[(0, true), (3, false), (4, false)], [.box (.pair (.sl false (.int .u8)) (.pair (.int .i64) (.int .i64))), .cell (.sl true (.pair (.int .i64) (.pair (.int .i64) (.pair (.int .i64) .str)))), .cell (.int .i64)]⟩ (.block 1 (.seq (.reg none [.p (.mvA 12 0) .unit,
  .p (.callM 13 n_spec_l01Once [] (.ptrS (.t 12) 0) [((.c (.int .i64 4)), 0)]) .unit,
  .p (.un 14 .not (.t 13)) .unit])
 (.cond (.t 14) (.reg none [.p (.mvT 15 3) .unit,
  .p (.mvA 16 0) .unit,
  .p (.mv 17 (.t 4)) .unit,
  .p (.callM 18 n_spec_l05Of [] (.ptrS (.t 16) 0) [((.t 17), 0)]) .unit,
  .p (.bldS 19 1 [(.lit (.int .i64 0)), (.lit (.int .i64 0)), (.lit (.int .i64 0)), (.lit (.string (ba [])))] [⟨0, 4, (.t 18)⟩]) (.pair (.int .i64) (.pair (.int .i64) (.pair (.int .i64) .str))),
  .p (.app 20 4 40 (.t 15) (.t 19)) (.pair (.int .i64) (.pair (.int .i64) (.pair (.int .i64) .str))),
  .p (.mvT 3 20) .unit]) .skip))))
 (.reg none [.p (.mv 10 (.t 4)) .unit,
  .p (.bin 11 false .add (.t 10) (.c (.int .i64 1))) .unit,
  .p (.mv 4 (.t 11)) .unit])))
noncomputable def L_spec_l05Items_1 : Nat → (List (Int) × Int × Int) × (List (Int × Int × Int × List UInt8)) × Int → Option (((List (Int) × Int × Int) × List (Int × Int × Int × List UInt8)) ⊕ ((List (Int × Int × Int × List UInt8)) × List (Int) × Int × Int)) := evL [fn_spec_l01Below, fn_spec_l01Once, fn_spec_l05Of] (finT [.t 2] [0] [.cell (.sl true (.pair (.int .i64) (.pair (.int .i64) (.pair (.int .i64) .str)))), .box (.pair (.sl false (.int .u8)) (.pair (.int .i64) (.int .i64)))]) 0 ⟨[(0, true), (3, false), (4, false)], [.box (.pair (.sl false (.int .u8)) (.pair (.int .i64) (.int .i64))), .cell (.sl true (.pair (.int .i64) (.pair (.int .i64) (.pair (.int .i64) .str)))), .cell (.int .i64)]⟩ ⟨[(0, true), (3, false)], [.box (.pair (.sl false (.int .u8)) (.pair (.int .i64) (.int .i64))), .cell (.sl true (.pair (.int .i64) (.pair (.int .i64) (.pair (.int .i64) .str))))]⟩ B_spec_l05Items_1
def F_spec_l05Items : TF := ⟨(.seq (.reg none [.p (.mvN 2 4) .unit])
 (.seq (.reg none [.p (.bldS 5 0 [(.lit (.int .i64 0)), (.lit (.int .i64 0)), (.lit (.int .i64 0)), (.lit (.string (ba [])))] []) (.pair (.int .i64) (.pair (.int .i64) (.pair (.int .i64) .str))),
  .p (.mvT 3 5) .unit])
 (.seq (.seq (.reg none [.p (.mv 4 (.c (.int .i64 1))) .unit])
 (.jl 0 ⟨[(0, true), (3, false), (4, false)], [.box (.pair (.sl false (.int .u8)) (.pair (.int .i64) (.int .i64))), .cell (.sl true (.pair (.int .i64) (.pair (.int .i64) (.pair (.int .i64) .str)))), .cell (.int .i64)]⟩ ⟨[(0, true), (3, false)], [.box (.pair (.sl false (.int .u8)) (.pair (.int .i64) (.int .i64))), .cell (.sl true (.pair (.int .i64) (.pair (.int .i64) (.pair (.int .i64) .str))))]⟩ B_spec_l05Items_1))
 (.seq (.reg none [.p (.mvT 21 3) .unit,
  .p (.mvT 2 21) .unit])
 .ret)))),
 22, 1, [.t 2]⟩
theorem m_spec_l05Items : mH Try.prog 165 [(1, 1, .t), (3, 1, .v), (3, 2, (.ps 0 0)), (5, 0, .v), (5, 1, (.ps 0 0)), (6, 0, .t), (6, 1, .v), (6, 3, (.ps 0 0)), (6, 6, .t), (7, 0, .t), (7, 1, .t)] = some (F_spec_l05Items.code.x, F_spec_l05Items.N, F_spec_l05Items.np, F_spec_l05Items.res) := by kernel_rfl
noncomputable def T_spec_l05Items : List (Int) × Int × Int → Option ((List (Int × Int × Int × List UInt8)) × List (Int) × Int × Int) := evF [fn_spec_l01Below, fn_spec_l01Once, fn_spec_l05Of] F_spec_l05Items [.box (.pair (.sl false (.int .u8)) (.pair (.int .i64) (.int .i64)))] [0] [.cell (.sl true (.pair (.int .i64) (.pair (.int .i64) (.pair (.int .i64) .str))))] [.box (.pair (.sl false (.int .u8)) (.pair (.int .i64) (.int .i64)))]
noncomputable def fn_spec_l05Items : TFn := ⟨165, [.box (.pair (.sl false (.int .u8)) (.pair (.int .i64) (.int .i64)))], [0], [.cell (.sl true (.pair (.int .i64) (.pair (.int .i64) (.pair (.int .i64) .str))))], [.box (.pair (.sl false (.int .u8)) (.pair (.int .i64) (.int .i64)))], T_spec_l05Items⟩
theorem ok_spec_l05Items : FnOk Try.prog fn_spec_l05Items := evF_ok mixed (allOk_cons ok_spec_l01Below (allOk_cons ok_spec_l01Once (allOk_cons ok_spec_l05Of allOk_nil))) m_spec_l05Items (by decide)
def B_spec_l01Long_1 : TC := (.seq (.seq (.reg none [.p (.mv 9 (.t 6)) .unit,
  .p (.mv 10 (.t 0)) .unit,
  .p (.bin 11 false .lss (.t 9) (.t 10)) .unit])
 (.cond (.t 11) .skip (.exit 0)))
 (.seq (.block 1 (.reg none [.p (.mvA 14 5) .unit,
  .p (.mv 15 (.t 6)) .unit,
  .p (.mv 16 (.t 1)) .unit,
  .p (.iadr 17 1 (.t 14) (.t 15)) .unit,
  .p (.store (.t 17) (.t 16) 1) .unit]))
 (.reg none [.p (.mv 12 (.t 6)) .unit,
  .p (.bin 13 false .add (.t 12) (.c (.int .i64 1))) .unit,
  .p (.mv 6 (.t 13)) .unit])))
noncomputable def L_spec_l01Long_1 : Nat → (Int) × (Int) × (List (Int)) × Int → Option ((List (Int)) ⊕ (List UInt8)) := evL [] (finT [.t 4] [] [.cell .str]) 0 ⟨[(0, true), (1, true), (5, false), (6, false)], [.cell (.int .i64), .cell (.int .u8), .cell (.sl true (.int .u8)), .cell (.int .i64)]⟩ ⟨[(5, false)], [.cell (.sl true (.int .u8))]⟩ B_spec_l01Long_1
def F_spec_l01Long : TF := ⟨(.seq (.reg none [.p (.mv 4 (.c (.string (ba [])))) .unit])
 (.seq (.reg none [.p (.mv 7 (.t 0)) .unit,
  .p (.mkS 8 1 [(.lit (.int .u8 0))] (.t 7) (.t 7)) (.int .u8),
  .p (.mvT 5 8) .unit])
 (.seq (.seq (.reg none [.p (.mv 6 (.c (.int .i64 0))) .unit])
 (.jl 0 ⟨[(0, true), (1, true), (5, false), (6, false)], [.cell (.int .i64), .cell (.int .u8), .cell (.sl true (.int .u8)), .cell (.int .i64)]⟩ ⟨[(5, false)], [.cell (.sl true (.int .u8))]⟩ B_spec_l01Long_1))
 (.seq (.reg none [.p (.mvT 18 5) .unit,
  .p (.b2s 19 (.t 18)) .unit,
  .p (.mv 4 (.t 19)) .unit])
 .ret)))),
 20, 2, [.t 4]⟩
theorem m_spec_l01Long : mH Try.prog 126 [(1, 2, .t), (5, 0, .v), (6, 0, .t)] = some (F_spec_l01Long.code.x, F_spec_l01Long.N, F_spec_l01Long.np, F_spec_l01Long.res) := by kernel_rfl
noncomputable def T_spec_l01Long : (Int) × Int → Option (List UInt8) := evF [] F_spec_l01Long [.cell (.int .i64), .cell (.int .u8)] [] [.cell .str] []
noncomputable def fn_spec_l01Long : TFn := ⟨126, [.cell (.int .i64), .cell (.int .u8)], [], [.cell .str], [], T_spec_l01Long⟩
theorem ok_spec_l01Long : FnOk Try.prog fn_spec_l01Long := evF_ok mixed allOk_nil m_spec_l01Long (by decide)
def F_spec_l05AnyItem : TF := ⟨(.seq (.reg none [.p (.alloc 2 [(.lit (.int .i64 0)), (.lit (.int .i64 0)), (.lit (.int .i64 0)), (.lit (.string (ba [])))]) .unit])
 (.seq (.reg none [.p (.mvA 4 0) .unit,
  .p (.mvA 5 0) .unit,
  .p (.callM 6 n_spec_l01Below [] (.ptrS (.t 5) 0) [((.c (.int .i64 12)), 0)]) .unit,
  .p (.bin 7 false .add (.c (.int .i64 1)) (.t 6)) .unit,
  .p (.callM 8 n_spec_l05Of [] (.ptrS (.t 4) 0) [((.t 7), 0)]) .unit,
  .p (.alloc 3 [(.lit (.int .i64 0)), (.lit (.int .i64 0)), (.lit (.int .i64 0)), (.lit (.string (ba [])))]) .unit,
  .p (.store (.t 3) (.t 8) 4) .unit])
 (.seq (.join ⟨[(0, true), (2, false), (3, false)], [.box (.pair (.sl false (.int .u8)) (.pair (.int .i64) (.int .i64))), .box (.pair (.int .i64) (.pair (.int .i64) (.pair (.int .i64) .str))), .box (.pair (.int .i64) (.pair (.int .i64) (.pair (.int .i64) .str)))]⟩ (.seq (.reg none [.p (.mvA 9 0) .unit,
  .p (.callM 10 n_spec_l01Below [] (.ptrS (.t 9) 0) [((.c (.int .i64 16)), 0)]) .unit])
 (.block 0 (.seq (.reg none [.p (.bin 12 false .eql (.t 10) (.c (.int .i64 0))) .unit,
  .p (.mv 11 (.t 12)) .unit])
 (.cond (.t 11) (.reg none [.p (.mvA 13 0) .unit,
  .p (.bldZ 14 4 [(.lit (.int .i64 0))] [⟨0, 1, (.c (.int .i64 0))⟩, ⟨1, 1, (.c (.int .i64 (-1)))⟩, ⟨2, 1, (.c (.int .i64 60))⟩, ⟨3, 1, (.c (.int .i64 61))⟩]) (.int .i64),
  .p (.callM 15 n_spec_l01PickInt [] (.ptrS (.t 13) 0) [((.t 14), 0)]) .unit,
  .p (.fadr 16 (.t 3) 0) .unit,
  .p (.store (.t 16) (.t 15) 1) .unit]) (.seq (.reg none [.p (.bin 18 false .eql (.t 10) (.c (.int .i64 1))) .unit,
  .p (.mv 17 (.t 18)) .unit])
 (.cond (.t 17) (.reg none [.p (.mvA 19 0) .unit,
  .p (.bldZ 20 3 [(.lit (.int .i64 0))] [⟨0, 1, (.c (.int .i64 0))⟩, ⟨1, 1, (.c (.int .i64 5))⟩, ⟨2, 1, (.c (.int .i64 6))⟩]) (.int .i64),
  .p (.callM 21 n_spec_l01PickInt [] (.ptrS (.t 19) 0) [((.t 20), 0)]) .unit,
  .p (.fadr 22 (.t 3) 1) .unit,
  .p (.store (.t 22) (.t 21) 1) .unit]) (.seq (.reg none [.p (.bin 24 false .eql (.t 10) (.c (.int .i64 2))) .unit,
  .p (.mv 23 (.t 24)) .unit])
 (.cond (.t 23) (.reg none [.p (.mvA 25 0) .unit,
  .p (.bldZ 26 2 [(.lit (.int .i64 0))] [⟨0, 1, (.c (.int .i64 0))⟩, ⟨1, 1, (.c (.int .i64 3))⟩]) (.int .i64),
  .p (.callM 27 n_spec_l01PickInt [] (.ptrS (.t 25) 0) [((.t 26), 0)]) .unit,
  .p (.fadr 28 (.t 3) 2) .unit,
  .p (.store (.t 28) (.t 27) 1) .unit]) (.seq (.reg none [.p (.bin 30 false .eql (.t 10) (.c (.int .i64 3))) .unit,
  .p (.mv 29 (.t 30)) .unit])
 (.cond (.t 29) (.reg none [.p (.mvA 31 0) .unit,
  .p (.callM 32 n_spec_l01Below [] (.ptrS (.t 31) 0) [((.c (.int .i64 2)), 0)]) .unit,
  .p (.bin 33 false .add (.c (.int .i64 60)) (.t 32)) .unit,
  .p (.callB 34 n_spec_l01Long [((.t 33), 0), ((.c (.int .u8 65)), 0)]) .unit,
  .p (.fadr 35 (.t 3) 3) .unit,
  .p (.store (.t 35) (.t 34) 1) .unit]) .skip)))))))))))
 (.seq (.reg none [.p (.load 36 (.t 3) 4 true) .unit,
  .p (.store (.t 2) (.t 36) 4) .unit])
 .ret)))),
 37, 1, [.c 2 4 true]⟩
theorem m_spec_l05AnyItem : mH Try.prog 58 [(1, 0, .v), (1, 1, .v), (1, 2, (.ps 0 0)), (1, 4, (.ps 0 0)), (2, 0, .v), (2, 1, (.ps 0 0)), (4, 0, .v), (4, 1, .z), (4, 2, (.ps 0 0)), (6, 0, .v), (6, 1, .z), (6, 2, (.ps 0 0)), (8, 0, .v), (8, 1, .z), (8, 2, (.ps 0 0)), (10, 0, .v), (10, 1, (.ps 0 0))] = some (F_spec_l05AnyItem.code.x, F_spec_l05AnyItem.N, F_spec_l05AnyItem.np, F_spec_l05AnyItem.res) := by kernel_rfl
noncomputable def T_spec_l05AnyItem : List (Int) × Int × Int → Option ((Int × Int × Int × List UInt8) × List (Int) × Int × Int) := evF [fn_spec_l01Below, fn_spec_l05Of, fn_spec_l01PickInt, fn_spec_l01Long] F_spec_l05AnyItem [.box (.pair (.sl false (.int .u8)) (.pair (.int .i64) (.int .i64)))] [0] [.agg (.pair (.int .i64) (.pair (.int .i64) (.pair (.int .i64) .str)))] [.box (.pair (.sl false (.int .u8)) (.pair (.int .i64) (.int .i64)))]
noncomputable def fn_spec_l05AnyItem : TFn := ⟨58, [.box (.pair (.sl false (.int .u8)) (.pair (.int .i64) (.int .i64)))], [0], [.agg (.pair (.int .i64) (.pair (.int .i64) (.pair (.int .i64) .str)))], [.box (.pair (.sl false (.int .u8)) (.pair (.int .i64) (.int .i64)))], T_spec_l05AnyItem⟩
theorem ok_spec_l05AnyItem : FnOk Try.prog fn_spec_l05AnyItem := evF_ok mixed (allOk_cons ok_spec_l01Below (allOk_cons ok_spec_l05Of (allOk_cons ok_spec_l01PickInt (allOk_cons ok_spec_l01Long allOk_nil)))) m_spec_l05AnyItem (by decide)
def F_spec_l05AnyItems : TF := ⟨(.seq (.reg none [.p (.mvN 2 4) .unit])
 (.seq (.reg none [.p (.mvA 4 0) .unit,
  .p (.callM 5 n_spec_l05Items [] (.ptrS (.t 4) 0) []) .unit,
  .p (.mvT 3 5) .unit])
 (.seq (.join ⟨[(0, true), (3, false)], [.box (.pair (.sl false (.int .u8)) (.pair (.int .i64) (.int .i64))), .cell (.sl true (.pair (.int .i64) (.pair (.int .i64) (.pair (.int .i64) .str))))]⟩ (.seq (.reg none [.p (.mvA 6 0) .unit,
  .p (.callM 7 n_spec_l01Below [] (.ptrS (.t 6) 0) [((.c (.int .i64 16)), 0)]) .unit])
 (.block 0 (.seq (.reg none [.p (.bin 9 false .eql (.t 7) (.c (.int .i64 0))) .unit,
  .p (.mv 8 (.t 9)) .unit])
 (.cond (.t 8) (.reg none [.p (.mvT 10 3) .unit,
  .p (.mvA 11 0) .unit,
  .p (.callM 12 n_spec_l05AnyItem [] (.ptrS (.t 11) 0) []) .unit,
  .p (.bldS 13 1 [(.lit (.int .i64 0)), (.lit (.int .i64 0)), (.lit (.int .i64 0)), (.lit (.string (ba [])))] [⟨0, 4, (.t 12)⟩]) (.pair (.int .i64) (.pair (.int .i64) (.pair (.int .i64) .str))),
  .p (.app 14 4 40 (.t 10) (.t 13)) (.pair (.int .i64) (.pair (.int .i64) (.pair (.int .i64) .str))),
  .p (.mvT 3 14) .unit]) (.seq (.reg none [.p (.bin 16 false .eql (.t 7) (.c (.int .i64 1))) .unit,
  .p (.mv 15 (.t 16)) .unit])
 (.cond (.t 15) (.seq (.reg none [.p (.mvA 17 3) .unit,
  .p (.lenB 18 (.t 17)) .unit,
  .p (.bin 19 false .gtr (.t 18) (.c (.int .i64 0))) .unit])
 (.cond (.t 19) (.reg none [.p (.mvA 20 3) .unit,
  .p (.mvA 21 0) .unit,
  .p (.mvA 22 3) .unit,
  .p (.lenB 23 (.t 22)) .unit,
  .p (.callM 24 n_spec_l01Below [] (.ptrS (.t 21) 0) [((.t 23), 0)]) .unit,
  .p (.mvA 25 0) .unit,
  .p (.bldZ 26 4 [(.lit (.int .i64 0))] [⟨0, 1, (.c (.int .i64 0))⟩, ⟨1, 1, (.c (.int .i64 (-1)))⟩, ⟨2, 1, (.c (.int .i64 3))⟩, ⟨3, 1, (.c (.int .i64 61))⟩]) (.int .i64),
  .p (.callM 27 n_spec_l01PickInt [] (.ptrS (.t 25) 0) [((.t 26), 0)]) .unit,
  .p (.iadr 28 4 (.t 20) (.t 24)) .unit,
  .p (.fadr 29 (.t 28) 0) .unit,
  .p (.store (.t 29) (.t 27) 1) .unit]) .skip)) .skip)))))))
 (.seq (.reg none [.p (.mvT 30 3) .unit,
  .p (.mvT 2 30) .unit])
 .ret)))),
 31, 1, [.t 2]⟩
theorem m_spec_l05AnyItems : mH Try.prog 143 [(1, 0, .v), (1, 1, (.ps 0 0)), (1, 2, .t), (2, 0, .v), (2, 1, (.ps 0 0)), (4, 0, .t), (4, 1, .v), (4, 2, (.ps 0 0)), (4, 5, .t), (6, 0, .v), (7, 0, .v), (7, 1, .v), (7, 2, .v), (7, 4, (.ps 0 0)), (7, 5, .v), (7, 6, .z), (7, 7, (.ps 0 0)), (8, 0, .t), (8, 1, .t)] = some (F_spec_l05AnyItems.code.x, F_spec_l05AnyItems.N, F_spec_l05AnyItems.np, F_spec_l05AnyItems.res) := by kernel_rfl
noncomputable def T_spec_l05AnyItems : List (Int) × Int × Int → Option ((List (Int × Int × Int × List UInt8)) × List (Int) × Int × Int) := evF [fn_spec_l05Items, fn_spec_l01Below, fn_spec_l05AnyItem, fn_spec_l01PickInt] F_spec_l05AnyItems [.box (.pair (.sl false (.int .u8)) (.pair (.int .i64) (.int .i64)))] [0] [.cell (.sl true (.pair (.int .i64) (.pair (.int .i64) (.pair (.int .i64) .str))))] [.box (.pair (.sl false (.int .u8)) (.pair (.int .i64) (.int .i64)))]
noncomputable def fn_spec_l05AnyItems : TFn := ⟨143, [.box (.pair (.sl false (.int .u8)) (.pair (.int .i64) (.int .i64)))], [0], [.cell (.sl true (.pair (.int .i64) (.pair (.int .i64) (.pair (.int .i64) .str))))], [.box (.pair (.sl false (.int .u8)) (.pair (.int .i64) (.int .i64)))], T_spec_l05AnyItems⟩
theorem ok_spec_l05AnyItems : FnOk Try.prog fn_spec_l05AnyItems := evF_ok mixed (allOk_cons ok_spec_l05Items (allOk_cons ok_spec_l01Below (allOk_cons ok_spec_l05AnyItem (allOk_cons ok_spec_l01PickInt allOk_nil)))) m_spec_l05AnyItems (by decide)
def F_spec_l13AnyBundle : TF := ⟨(.seq (.reg none [.p (.alloc 2 [(.lit (.int .i64 0)), (.lit (.int .i64 0)), (.lit (.int .i64 0)), (.sl true 4 [])]) .unit])
 (.seq (.reg none [.p (.mvA 5 0) .unit,
  .p (.callM 6 n_spec_l09Ring [] (.ptrS (.t 5) 0) []) .unit,
  .p (.alloc 3 [(.lit (.int .i64 0)), (.sl true 1 [])]) .unit,
  .p (.storeZ (.t 3) 6 2) .unit])
 (.seq (.reg none [.p (.mvA 7 0) .unit,
  .p (.callM 8 n_spec_l01Below [] (.ptrS (.t 7) 0) [((.c (.int .i64 4)), 0)]) .unit,
  .p (.bin 9 false .add (.c (.int .i64 1)) (.t 8)) .unit,
  .p (.fadr 10 (.t 3) 0) .unit,
  .p (.store (.t 10) (.t 9) 1) .unit])
 (.seq (.reg (some [[], [], [], [2], [3], [4], [0, 1, 5], [], [7, 6, 6, 0, 1, 2, 3, 4, 5, 6, 7]]) [.p (.mvA 11 0) .unit,
  .p (.load 12 (.t 3) 2 true) .unit,
  .p (.fadr 13 (.t 3) 1) .unit,
  .p (.load 14 (.t 13) 1 false) .unit,
  .p (.iadr 15 1 (.t 14) (.c (.int .i64 0))) .unit,
  .p (.load 16 (.t 15) 1 false) .unit,
  .p (.callM 17 n_spec_l13Bundle [] (.ptrS (.t 11) 0) [((.t 12), 0), ((.t 16), 0)]) .unit,
  .p (.alloc 4 [(.lit (.int .i64 0)), (.lit (.int .i64 0)), (.lit (.int .i64 0)), (.sl true 4 [])]) .unit,
  .p (.storeT (.t 4) 17 4) .unit])
 (.seq (.join ⟨[(0, true), (2, false), (4, false)], [.box (.pair (.sl false (.int .u8)) (.pair (.int .i64) (.int .i64))), .box (.pair (.int .i64) (.pair (.int .i64) (.pair (.int .i64) (.sl true (.pair (.int .i64) (.pair (.int .i64) (.pair (.int .i64) .str))))))), .box (.pair (.int .i64) (.pair (.int .i64) (.pair (.int .i64) (.sl true (.pair (.int .i64) (.pair (.int .i64) (.pair (.int .i64) .str)))))))]⟩ (.seq (.reg none [.p (.mvA 18 0) .unit,
  .p (.callM 19 n_spec_l01Below [] (.ptrS (.t 18) 0) [((.c (.int .i64 20)), 0)]) .unit])
 (.block 0 (.seq (.reg none [.p (.bin 21 false .eql (.t 19) (.c (.int .i64 0))) .unit,
  .p (.mv 20 (.t 21)) .unit])
 (.cond (.t 20) (.reg none [.p (.mvA 22 0) .unit,
  .p (.bldZ 23 3 [(.lit (.int .i64 0))] [⟨0, 1, (.c (.int .i64 0))⟩, ⟨1, 1, (.c (.int .i64 5))⟩, ⟨2, 1, (.c (.int .i64 6))⟩]) (.int .i64),
  .p (.callM 24 n_spec_l01PickInt [] (.ptrS (.t 22) 0) [((.t 23), 0)]) .unit,
  .p (.fadr 25 (.t 4) 0) .unit,
  .p (.store (.t 25) (.t 24) 1) .unit]) (.seq (.reg none [.p (.bin 27 false .eql (.t 19) (.c (.int .i64 1))) .unit,
  .p (.mv 26 (.t 27)) .unit])
 (.cond (.t 26) (.reg none [.p (.mvA 28 0) .unit,
  .p (.bldZ 29 3 [(.lit (.int .i64 0))] [⟨0, 1, (.c (.int .i64 0))⟩, ⟨1, 1, (.c (.int .i64 9))⟩, ⟨2, 1, (.c (.int .i64 10))⟩]) (.int .i64),
  .p (.callM 30 n_spec_l01PickInt [] (.ptrS (.t 28) 0) [((.t 29), 0)]) .unit,
  .p (.fadr 31 (.t 4) 1) .unit,
  .p (.store (.t 31) (.t 30) 1) .unit]) (.seq (.reg none [.p (.bin 33 false .eql (.t 19) (.c (.int .i64 2))) .unit,
  .p (.mv 32 (.t 33)) .unit])
 (.cond (.t 32) (.reg none [.p (.mvA 34 0) .unit,
  .p (.fadr 35 (.t 4) 1) .unit,
  .p (.load 36 (.t 35) 1 false) .unit,
  .p (.bldZ 37 3 [(.lit (.int .i64 0))] [⟨0, 1, (.c (.int .i64 (-1)))⟩, ⟨1, 1, (.c (.int .i64 0))⟩, ⟨2, 1, (.t 36)⟩]) (.int .i64),
  .p (.callM 38 n_spec_l01PickInt [] (.ptrS (.t 34) 0) [((.t 37), 0)]) .unit,
  .p (.fadr 39 (.t 4) 2) .unit,
  .p (.store (.t 39) (.t 38) 1) .unit]) (.seq (.reg none [.p (.bin 41 false .eql (.t 19) (.c (.int .i64 3))) .unit,
  .p (.mv 40 (.t 41)) .unit])
 (.cond (.t 40) (.reg none [.p (.mvA 42 0) .unit,
  .p (.callM 43 n_spec_l05AnyItems [] (.ptrS (.t 42) 0) []) .unit,
  .p (.fadr 44 (.t 4) 3) .unit,
  .p (.storeT (.t 44) 43 1) .unit]) .skip)))))))))))
 (.seq (.reg none [.p (.loadT 45 (.t 4) 4 true) .unit,
  .p (.storeT (.t 2) 45 4) .unit])
 .ret)))))),
 46, 1, [.c 2 4 true]⟩
theorem m_spec_l13AnyBundle : mH Try.prog 104 [(1, 0, .v), (1, 1, (.ps 0 0)), (1, 3, .z), (2, 0, .v), (2, 1, (.ps 0 0)), (3, 0, .v), (3, 6, (.ps 0 0)), (3, 8, .t), (4, 0, .v), (4, 1, (.ps 0 0)), (6, 0, .v), (6, 1, .z), (6, 2, (.ps 0 0)), (8, 0, .v), (8, 1, .z), (8, 2, (.ps 0 0)), (10, 0, .v), (10, 3, .z), (10, 4, (.ps 0 0)), (12, 0, .v), (12, 1, (.ps 0 0)), (12, 3, .t), (13, 0, .t), (13, 1, .t)] = some (F_spec_l13AnyBundle.code.x, F_spec_l13AnyBundle.N, F_spec_l13AnyBundle.np, F_spec_l13AnyBundle.res) := by kernel_rfl
noncomputable def T_spec_l13AnyBundle : List (Int) × Int × Int → Option ((Int × Int × Int × List (Int × Int × Int × List UInt8)) × List (Int) × Int × Int) := evF [fn_spec_l09Ring, fn_spec_l01Below, fn_spec_l13Bundle, fn_spec_l01PickInt, fn_spec_l05AnyItems] F_spec_l13AnyBundle [.box (.pair (.sl false (.int .u8)) (.pair (.int .i64) (.int .i64)))] [0] [.agg (.pair (.int .i64) (.pair (.int .i64) (.pair (.int .i64) (.sl true (.pair (.int .i64) (.pair (.int .i64) (.pair (.int .i64) .str)))))))] [.box (.pair (.sl false (.int .u8)) (.pair (.int .i64) (.int .i64)))]
noncomputable def fn_spec_l13AnyBundle : TFn := ⟨104, [.box (.pair (.sl false (.int .u8)) (.pair (.int .i64) (.int .i64)))], [0], [.agg (.pair (.int .i64) (.pair (.int .i64) (.pair (.int .i64) (.sl true (.pair (.int .i64) (.pair (.int .i64) (.pair (.int .i64) .str)))))))], [.box (.pair (.sl false (.int .u8)) (.pair (.int .i64) (.int .i64)))], T_spec_l13AnyBundle⟩
theorem ok_spec_l13AnyBundle : FnOk Try.prog fn_spec_l13AnyBundle := evF_ok mixed (allOk_cons ok_spec_l09Ring (allOk_cons ok_spec_l01Below (allOk_cons ok_spec_l13Bundle (allOk_cons ok_spec_l01PickInt (allOk_cons ok_spec_l05AnyItems allOk_nil))))) m_spec_l13AnyBundle (by decide)
def F_spec_DrawBundleText : TF := ⟨(.seq (.reg none [.p (.alloc 2 [(.lit (.int .i64 0)), (.lit (.int .i64 0)), (.lit (.int .i64 0)), (.sl true 4 [])]) .unit])
 (.seq (.reg none [.p (.mv 3 (.t 0)) .unit,
  .p (.callS 4 n_spec_l01New [(.t 3)]) .unit,
  .p (.callM 5 n_spec_l13AnyBundle [] (.tmpS 4) []) .unit,
  .p (.storeT (.t 2) 5 4) .unit])
 .ret)),
 6, 1, [.c 2 4 true]⟩
theorem m_spec_DrawBundleText : mH Try.prog 46 [(1, 1, .z), (1, 2, (.ms 0)), (1, 3, .t)] = some (F_spec_DrawBundleText.code.x, F_spec_DrawBundleText.N, F_spec_DrawBundleText.np, F_spec_DrawBundleText.res) := by kernel_rfl
noncomputable def T_spec_DrawBundleText : List (Int) → Option (Int × Int × Int × List (Int × Int × Int × List UInt8)) := evF [fn_spec_l01New, fn_spec_l13AnyBundle] F_spec_DrawBundleText [.cell (.sl false (.int .u8))] [] [.agg (.pair (.int .i64) (.pair (.int .i64) (.pair (.int .i64) (.sl true (.pair (.int .i64) (.pair (.int .i64) (.pair (.int .i64) .str)))))))] []
noncomputable def fn_spec_DrawBundleText : TFn := ⟨46, [.cell (.sl false (.int .u8))], [], [.agg (.pair (.int .i64) (.pair (.int .i64) (.pair (.int .i64) (.sl true (.pair (.int .i64) (.pair (.int .i64) (.pair (.int .i64) .str)))))))], [], T_spec_DrawBundleText⟩
theorem ok_spec_DrawBundleText : FnOk Try.prog fn_spec_DrawBundleText := evF_ok mixed (allOk_cons ok_spec_l01New (allOk_cons ok_spec_l13AnyBundle allOk_nil)) m_spec_DrawBundleText (by decide)
def F_impl_inRange : TF := ⟨(.seq (.reg none [.p (.mv 6 (.c (.bool false))) .unit])
 (.seq (.reg none [.p (.mv 7 (.t 0)) .unit,
  .p (.mv 8 (.t 1)) .unit,
  .p (.bin 9 false .geq (.t 7) (.t 8)) .unit,
  .p (.mv 10 (.t 9)) .unit,
  .g 10 true (some 11) (.mv 11 (.t 0)) .unit,
  .g 10 true (some 12) (.mv 12 (.t 2)) .unit,
  .g 10 true (some 13) (.bin 13 false .leq (.t 11) (.t 12)) .unit,
  .p (.pick 14 (.t 10) (.t 13) (.c (.bool false))) .unit,
  .p (.mv 6 (.t 14)) .unit])
 .ret)),
 15, 3, [.t 6]⟩
theorem m_impl_inRange : mH Try.prog 66 [] = some (F_impl_inRange.code.x, F_impl_inRange.N, F_impl_inRange.np, F_impl_inRange.res) := by kernel_rfl
noncomputable def T_impl_inRange : (Int) × (Int) × Int → Option (Bool) := evF [] F_impl_inRange [.cell (.int .i64), .cell (.int .i64), .cell (.int .i64)] [] [.cell .bool] []
noncomputable def fn_impl_inRange : TFn := ⟨66, [.cell (.int .i64), .cell (.int .i64), .cell (.int .i64)], [], [.cell .bool], [], T_impl_inRange⟩
theorem ok_impl_inRange : FnOk Try.prog fn_impl_inRange := evF_ok mixed allOk_nil m_impl_inRange (by decide)
def F_impl_isDaemon : TF := ⟨(.seq (.reg none [.p (.mv 2 (.c (.bool false))) .unit])
 (.seq (.reg none [.p (.mv 3 (.t 0)) .unit,
  .p (.callB 4 n_impl_inRange [((.t 3), 0), ((.c (.int .i64 1)), 0), ((.c (.int .i64 5)), 0)]) .unit,
  .p (.mv 2 (.t 4)) .unit])
 .ret)),
 5, 1, [.t 2]⟩
theorem m_impl_isDaemon : mH Try.prog 67 [] = some (F_impl_isDaemon.code.x, F_impl_isDaemon.N, F_impl_isDaemon.np, F_impl_isDaemon.res) := by kernel_rfl
noncomputable def T_impl_isDaemon : Int → Option (Bool) := evF [fn_impl_inRange] F_impl_isDaemon [.cell (.int .i64)] [] [.cell .bool] []
noncomputable def fn_impl_isDaemon : TFn := ⟨67, [.cell (.int .i64)], [], [.cell .bool], [], T_impl_isDaemon⟩
theorem ok_impl_isDaemon : FnOk Try.prog fn_impl_isDaemon := evF_ok mixed (allOk_cons ok_impl_inRange allOk_nil) m_impl_isDaemon (by decide)
def F_impl_isLevel : TF := ⟨(.seq (.reg none [.p (.mv 2 (.c (.bool false))) .unit])
 (.seq (.reg none [.p (.mv 3 (.t 0)) .unit,
  .p (.bin 4 false .eql (.t 3) (.c (.int .i64 1))) .unit,
  .p (.mv 5 (.t 4)) .unit,
  .g 5 false (some 6) (.mv 6 (.t 0)) .unit,
  .g 5 false (some 7) (.bin 7 false .eql (.t 6) (.c (.int .i64 2))) .unit,
  .p (.pick 8 (.t 5) (.c (.bool true)) (.t 7)) .unit,
  .p (.mv 2 (.t 8)) .unit])
 .ret)),
 9, 1, [.t 2]⟩
theorem m_impl_isLevel : mH Try.prog 68 [] = some (F_impl_isLevel.code.x, F_impl_isLevel.N, F_impl_isLevel.np, F_impl_isLevel.res) := by kernel_rfl
noncomputable def T_impl_isLevel : Int → Option (Bool) := evF [] F_impl_isLevel [.cell (.int .i64)] [] [.cell .bool] []
noncomputable def fn_impl_isLevel : TFn := ⟨68, [.cell (.int .i64)], [], [.cell .bool], [], T_impl_isLevel⟩
theorem ok_impl_isLevel : FnOk Try.prog fn_impl_isLevel := evF_ok mixed allOk_nil m_impl_isLevel (by decide)
def F_impl_ItemOk : TF := ⟨(.seq (.reg none [.p (.box 1 (.t 0)) .unit,
  .p (.mv 2 (.c (.bool false))) .unit])
 (.seq (.reg none [.p (.fadr 3 (.t 1) 0) .unit,
  .p (.load 4 (.t 3) 1 false) .unit,
  .p (.callB 5 n_impl_inRange [((.t 4), 0), ((.c (.int .i64 1)), 0), ((.c (.int .i64 60)), 0)]) .unit,
  .p (.mv 6 (.t 5)) .unit,
  .g 6 true (some 7) (.fadr 7 (.t 1) 1) .unit,
  .g 6 true (some 8) (.load 8 (.t 7) 1 false) .unit,
  .g 6 true (some 9) (.callB 9 n_impl_isDaemon [((.t 8), 0)]) .unit,
  .p (.pick 10 (.t 6) (.t 9) (.c (.bool false))) .unit,
  .p (.mv 11 (.t 10)) .unit,
  .g 11 true (some 12) (.fadr 12 (.t 1) 2) .unit,
  .g 11 true (some 13) (.load 13 (.t 12) 1 false) .unit,
  .g 11 true (some 14) (.callB 14 n_impl_isLevel [((.t 13), 0)]) .unit,
  .p (.pick 15 (.t 11) (.t 14) (.c (.bool false))) .unit,
  .p (.mv 16 (.t 15)) .unit,
  .g 16 true (some 17) (.fadr 17 (.t 1) 3) .unit,
  .g 16 true (some 18) (.load 18 (.t 17) 1 false) .unit,
  .g 16 true (some 19) (.lenS 19 (.t 18)) .unit,
  .g 16 true (some 20) (.bin 20 false .leq (.t 19) (.c (.int .i64 60))) .unit,
  .p (.pick 21 (.t 16) (.t 20) (.c (.bool false))) .unit,
  .p (.mv 2 (.t 21)) .unit])
 .ret)),
 22, 1, [.t 2]⟩
theorem m_impl_ItemOk : mH Try.prog 16 [] = some (F_impl_ItemOk.code.x, F_impl_ItemOk.N, F_impl_ItemOk.np, F_impl_ItemOk.res) := by kernel_rfl
noncomputable def T_impl_ItemOk : Int × Int × Int × List UInt8 → Option (Bool) := evF [fn_impl_inRange, fn_impl_isDaemon, fn_impl_isLevel] F_impl_ItemOk [.agg (.pair (.int .i64) (.pair (.int .i64) (.pair (.int .i64) .str)))] [] [.cell .bool] []
noncomputable def fn_impl_ItemOk : TFn := ⟨16, [.agg (.pair (.int .i64) (.pair (.int .i64) (.pair (.int .i64) .str)))], [], [.cell .bool], [], T_impl_ItemOk⟩
theorem ok_impl_ItemOk : FnOk Try.prog fn_impl_ItemOk := evF_ok mixed (allOk_cons ok_impl_inRange (allOk_cons ok_impl_isDaemon (allOk_cons ok_impl_isLevel allOk_nil))) m_impl_ItemOk (by decide)
def B_impl_ItemsOk_1 : TC := (.seq (.reg none [.p (.bin 8 false .lss (.t 7) (.t 6)) .unit])
 (.seq (.cond (.t 8) .skip (.exit 0))
 (.seq (.block 1 (.seq (.reg none [.p (.mv 9 (.t 7)) .unit,
  .p (.iadr 10 4 (.t 5) (.t 7)) .unit,
  .p (.load 11 (.t 10) 4 true) .unit,
  .p (.alloc 4 [(.lit (.int .i64 0)), (.lit (.int .i64 0)), (.lit (.int .i64 0)), (.lit (.string (ba [])))]) .unit,
  .p (.mv 3 (.t 9)) .unit,
  .p (.store (.t 4) (.t 11) 4) .unit])
 (.seq (.join ⟨[(0, true), (5, false), (6, false), (7, false), (29, false)], [.cell (.sl false (.pair (.int .i64) (.pair (.int .i64) (.pair (.int .i64) .str)))), .cell (.sl false (.pair (.int .i64) (.pair (.int .i64) (.pair (.int .i64) .str)))), .cell (.int .i64), .cell (.int .i64), .cell .bool]⟩ (.reg (some [[], [0], [1], [2, 1], [3], [4, 3], [5, 3, 3], [6], [7, 6], [6], [6], [10, 6], [9, 11, 6], [12, 6], [13, 6], [8, 14, 6], [6, 15, 3], [3, 16]]) [.p (.load 12 (.t 4) 4 true) .unit,
  .p (.callB 13 n_impl_ItemOk [((.t 12), 0)]) .unit,
  .p (.un 14 .not (.t 13)) .unit,
  .p (.mv 15 (.t 14)) .unit,
  .g 15 false (some 16) (.mv 16 (.t 3)) .unit,
  .g 15 false (some 17) (.bin 17 false .gtr (.t 16) (.c (.int .i64 0))) .unit,
  .g 15 false (some 18) (.mv 18 (.t 17)) .unit,
  .g 18 true (some 19) (.fadr 19 (.t 4) 0) .unit,
  .g 18 true (some 20) (.load 20 (.t 19) 1 false) .unit,
  .g 18 true (some 21) (.mv 21 (.t 0)) .unit,
  .g 18 true (some 22) (.mv 22 (.t 3)) .unit,
  .g 18 true (some 23) (.bin 23 false .sub (.t 22) (.c (.int .i64 1))) .unit,
  .g 18 true (some 24) (.iadr 24 4 (.t 21) (.t 23)) .unit,
  .g 18 true (some 25) (.fadr 25 (.t 24) 0) .unit,
  .g 18 true (some 26) (.load 26 (.t 25) 1 false) .unit,
  .g 18 true (some 27) (.bin 27 false .leq (.t 20) (.t 26)) .unit,
  .g 15 false (some 28) (.pick 28 (.t 18) (.t 27) (.c (.bool false))) .unit,
  .p (.pick 29 (.t 15) (.c (.bool true)) (.t 28)) .unit]))
 (.cond (.t 29) (.seq (.reg none [.p (.mv 2 (.c (.bool false))) .unit])
 .ret) .skip))))
 (.reg none [.p (.bin 30 false .add (.t 7) (.c (.int .i64 1))) .unit,
  .p (.mv 7 (.t 30)) .unit]))))
noncomputable def L_impl_ItemsOk_1 : Nat → (List (Int × Int × Int × List UInt8)) × (List (Int × Int × Int × List UInt8)) × (Int) × Int → Option ((Unit) ⊕ (Bool)) := evL [fn_impl_ItemOk] (finT [.t 2] [] [.cell .bool]) 0 ⟨[(0, true), (5, false), (6, false), (7, false)], [.cell (.sl false (.pair (.int .i64) (.pair (.int .i64) (.pair (.int .i64) .str)))), .cell (.sl false (.pair (.int .i64) (.pair (.int .i64) (.pair (.int .i64) .str)))), .cell (.int .i64), .cell (.int .i64)]⟩ ⟨[], []⟩ B_impl_ItemsOk_1
def F_impl_ItemsOk : TF := ⟨(.seq (.reg none [.p (.mv 2 (.c (.bool false))) .unit])
 (.seq (.seq (.reg none [.p (.mv 5 (.t 0)) .unit,
  .p (.lenB 6 (.t 5)) .unit,
  .p (.mv 7 (.c (.int .i64 0))) .unit])
 (.jl 0 ⟨[(0, true), (5, false), (6, false), (7, false)], [.cell (.sl false (.pair (.int .i64) (.pair (.int .i64) (.pair (.int .i64) .str)))), .cell (.sl false (.pair (.int .i64) (.pair (.int .i64) (.pair (.int .i64) .str)))), .cell (.int .i64), .cell (.int .i64)]⟩ ⟨[], []⟩ B_impl_ItemsOk_1))
 (.seq (.reg none [.p (.mv 2 (.c (.bool true))) .unit])
 .ret))),
 31, 1, [.t 2]⟩
theorem m_impl_ItemsOk : mH Try.prog 108 [] = some (F_impl_ItemsOk.code.x, F_impl_ItemsOk.N, F_impl_ItemsOk.np, F_impl_ItemsOk.res) := by kernel_rfl
noncomputable def T_impl_ItemsOk : List (Int × Int × Int × List UInt8) → Option (Bool) := evF [fn_impl_ItemOk] F_impl_ItemsOk [.cell (.sl false (.pair (.int .i64) (.pair (.int .i64) (.pair (.int .i64) .str))))] [] [.cell .bool] []
noncomputable def fn_impl_ItemsOk : TFn := ⟨108, [.cell (.sl false (.pair (.int .i64) (.pair (.int .i64) (.pair (.int .i64) .str))))], [], [.cell .bool], [], T_impl_ItemsOk⟩
theorem ok_impl_ItemsOk : FnOk Try.prog fn_impl_ItemsOk := evF_ok mixed (allOk_cons ok_impl_ItemOk allOk_nil) m_impl_ItemsOk (by decide)
def F_impl_BundleOk : TF := ⟨(.seq (.reg none [.p (.box 1 (.t 0)) .unit,
  .p (.mv 2 (.c (.bool false))) .unit])
 (.seq (.seq (.join ⟨[(1, false), (21, false)], [.box (.pair (.int .i64) (.pair (.int .i64) (.pair (.int .i64) (.sl false (.pair (.int .i64) (.pair (.int .i64) (.pair (.int .i64) .str))))))), .cell .bool]⟩ (.reg none [.p (.fadr 3 (.t 1) 0) .unit,
  .p (.load 4 (.t 3) 1 false) .unit,
  .p (.callB 5 n_impl_isDaemon [((.t 4), 0)]) .unit,
  .p (.un 6 .not (.t 5)) .unit,
  .p (.mv 7 (.t 6)) .unit,
  .g 7 false (some 8) (.fadr 8 (.t 1) 1) .unit,
  .g 7 false (some 9) (.load 9 (.t 8) 1 false) .unit,
  .g 7 false (some 10) (.callB 10 n_impl_inRange [((.t 9), 0), ((.c (.int .i64 1)), 0), ((.c (.int .i64 9)), 0)]) .unit,
  .g 7 false (some 11) (.un 11 .not (.t 10)) .unit,
  .p (.pick 12 (.t 7) (.c (.bool true)) (.t 11)) .unit,
  .p (.mv 13 (.t 12)) .unit,
  .g 13 false (some 14) (.fadr 14 (.t 1) 2) .unit,
  .g 13 false (some 15) (.load 15 (.t 14) 1 false) .unit,
  .g 13 false (some 16) (.fadr 16 (.t 1) 1) .unit,
  .g 13 false (some 17) (.load 17 (.t 16) 1 false) .unit,
  .g 13 false (some 18) (.bin 18 false .sub (.t 17) (.c (.int .i64 1))) .unit,
  .g 13 false (some 19) (.callB 19 n_impl_inRange [((.t 15), 0), ((.c (.int .i64 0)), 0), ((.t 18), 0)]) .unit,
  .g 13 false (some 20) (.un 20 .not (.t 19)) .unit,
  .p (.pick 21 (.t 13) (.c (.bool true)) (.t 20)) .unit]))
 (.cond (.t 21) (.seq (.reg none [.p (.mv 2 (.c (.bool false))) .unit])
 .ret) .skip))
 (.seq (.reg none [.p (.fadr 22 (.t 1) 3) .unit,
  .p (.load 23 (.t 22) 1 false) .unit,
  .p (.callB 24 n_impl_ItemsOk [((.t 23), 0)]) .unit,
  .p (.mv 25 (.t 24)) .unit,
  .g 25 true (some 26) (.fadr 26 (.t 1) 2) .unit,
  .g 25 true (some 27) (.load 27 (.t 26) 1 false) .unit,
  .g 25 true (some 28) (.bin 28 false .gtr (.t 27) (.c (.int .i64 0))) .unit,
  .g 25 true (some 29) (.mv 29 (.t 28)) .unit,
  .g 29 false (some 30) (.fadr 30 (.t 1) 3) .unit,
  .g 29 false (some 31) (.load 31 (.t 30) 1 false) .unit,
  .g 29 false (some 32) (.lenB 32 (.t 31)) .unit,
  .g 29 false (some 33) (.bin 33 false .eql (.t 32) (.c (.int .i64 0))) .unit,
  .g 25 true (some 34) (.pick 34 (.t 29) (.c (.bool true)) (.t 33)) .unit,
  .p (.pick 35 (.t 25) (.t 34) (.c (.bool false))) .unit,
  .p (.mv 2 (.t 35)) .unit])
 .ret))),
 36, 1, [.t 2]⟩
theorem m_impl_BundleOk : mH Try.prog 49 [] = some (F_impl_BundleOk.code.x, F_impl_BundleOk.N, F_impl_BundleOk.np, F_impl_BundleOk.res) := by kernel_rfl
noncomputable def T_impl_BundleOk : Int × Int × Int × List (Int × Int × Int × List UInt8) → Option (Bool) := evF [fn_impl_isDaemon, fn_impl_inRange, fn_impl_ItemsOk] F_impl_BundleOk [.agg (.pair (.int .i64) (.pair (.int .i64) (.pair (.int .i64) (.sl false (.pair (.int .i64) (.pair (.int .i64) (.pair (.int .i64) .str)))))))] [] [.cell .bool] []
noncomputable def fn_impl_BundleOk : TFn := ⟨49, [.agg (.pair (.int .i64) (.pair (.int .i64) (.pair (.int .i64) (.sl false (.pair (.int .i64) (.pair (.int .i64) (.pair (.int .i64) .str)))))))], [], [.cell .bool], [], T_impl_BundleOk⟩
theorem ok_impl_BundleOk : FnOk Try.prog fn_impl_BundleOk := evF_ok mixed (allOk_cons ok_impl_isDaemon (allOk_cons ok_impl_inRange (allOk_cons ok_impl_ItemsOk allOk_nil))) m_impl_BundleOk (by decide)
def B_impl_octets_1 : TC := (.seq (.reg none [.p (.bin 9 false .lss (.t 8) (.t 7)) .unit])
 (.seq (.cond (.t 9) .skip (.exit 0))
 (.seq (.block 1 (.seq (.reg none [.p (.iadr 10 1 (.t 6) (.t 8)) .unit,
  .p (.load 11 (.t 10) 1 false) .unit,
  .p (.mv 5 (.t 11)) .unit])
 (.reg none [.p (.mvT 12 3) .unit,
  .p (.mv 13 (.t 5)) .unit,
  .p (.cvi 14 .u8 .i64 (.t 13)) .unit,
  .p (.bldS 15 1 [(.lit (.int .u8 0))] [⟨0, 1, (.t 14)⟩]) (.int .u8),
  .p (.app 16 1 1 (.t 12) (.t 15)) (.int .u8),
  .p (.mvT 3 16) .unit])))
 (.reg none [.p (.bin 17 false .add (.t 8) (.c (.int .i64 1))) .unit,
  .p (.mv 8 (.t 17)) .unit]))))
noncomputable def L_impl_octets_1 : Nat → (List (Int)) × (List (Int)) × (Int) × Int → Option ((List (Int)) ⊕ (List UInt8)) := evL [] (finT [.t 2] [] [.cell .str]) 0 ⟨[(3, false), (6, false), (7, false), (8, false)], [.cell (.sl true (.int .u8)), .cell (.sl false (.int .i64)), .cell (.int .i64), .cell (.int .i64)]⟩ ⟨[(3, false)], [.cell (.sl true (.int .u8))]⟩ B_impl_octets_1
def F_impl_octets : TF := ⟨(.seq (.reg none [.p (.mv 2 (.c (.string (ba [])))) .unit])
 (.seq (.reg none [.p (.mvN 3 1) .unit])
 (.seq (.seq (.reg none [.p (.mv 6 (.t 0)) .unit,
  .p (.lenB 7 (.t 6)) .unit,
  .p (.mv 8 (.c (.int .i64 0))) .unit])
 (.jl 0 ⟨[(3, false), (6, false), (7, false), (8, false)], [.cell (.sl true (.int .u8)), .cell (.sl false (.int .i64)), .cell (.int .i64), .cell (.int .i64)]⟩ ⟨[(3, false)], [.cell (.sl true (.int .u8))]⟩ B_impl_octets_1))
 (.seq (.reg none [.p (.mvT 18 3) .unit,
  .p (.b2s 19 (.t 18)) .unit,
  .p (.mv 2 (.t 19)) .unit])
 .ret)))),
 20, 1, [.t 2]⟩
theorem m_impl_octets : mH Try.prog 91 [(5, 0, .t), (5, 5, .t), (7, 0, .t)] = some (F_impl_octets.code.x, F_impl_octets.N, F_impl_octets.np, F_impl_octets.res) := by kernel_rfl
noncomputable def T_impl_octets : List (Int) → Option (List UInt8) := evF [] F_impl_octets [.cell (.sl false (.int .i64))] [] [.cell .str] []
noncomputable def fn_impl_octets : TFn := ⟨91, [.cell (.sl false (.int .i64))], [], [.cell .str], [], T_impl_octets⟩
theorem ok_impl_octets : FnOk Try.prog fn_impl_octets := evF_ok mixed allOk_nil m_impl_octets (by decide)
def B_impl_varText_1 : TC := (.seq (.seq (.reg none [.p (.mv 4 (.t 0)) .unit,
  .p (.bin 5 false .gtr (.t 4) (.c (.int .i64 127))) .unit])
 (.cond (.t 5) .skip (.exit 0)))
 (.block 1 (.seq (.reg none [.p (.mvT 6 3) .unit,
  .p (.mv 7 (.t 0)) .unit,
  .p (.bin 8 false .rem (.t 7) (.c (.int .i64 128))) .unit,
  .p (.bin 9 false .add (.c (.int .i64 128)) (.t 8)) .unit,
  .p (.cvi 10 .u8 .i64 (.t 9)) .unit,
  .p (.bldS 11 1 [(.lit (.int .u8 0))] [⟨0, 1, (.t 10)⟩]) (.int .u8),
  .p (.app 12 1 1 (.t 6) (.t 11)) (.int .u8),
  .p (.mvT 3 12) .unit])
 (.reg none [.p (.mv 13 (.t 0)) .unit,
  .p (.bin 14 false .quo (.t 13) (.c (.int .i64 128))) .unit,
  .p (.mv 0 (.t 14)) .unit]))))
noncomputable def L_impl_varText_1 : Nat → (Int) × List (Int) → Option (((Int) × List (Int)) ⊕ (List UInt8)) := evL [] (finT [.t 2] [] [.cell .str]) 0 ⟨[(0, false), (3, false)], [.cell (.int .i64), .cell (.sl true (.int .u8))]⟩ ⟨[(0, false), (3, false)], [.cell (.int .i64), .cell (.sl true (.int .u8))]⟩ B_impl_varText_1
def F_impl_varText : TF := ⟨(.seq (.reg none [.p (.mv 2 (.c (.string (ba [])))) .unit])
 (.seq (.reg none [.p (.mvN 3 1) .unit])
 (.seq (.jl 0 ⟨[(0, false), (3, false)], [.cell (.int .i64), .cell (.sl true (.int .u8))]⟩ ⟨[(0, false), (3, false)], [.cell (.int .i64), .cell (.sl true (.int .u8))]⟩ B_impl_varText_1)
 (.seq (.reg none [.p (.mvT 15 3) .unit,
  .p (.mv 16 (.t 0)) .unit,
  .p (.cvi 17 .u8 .i64 (.t 16)) .unit,
  .p (.bldS 18 1 [(.lit (.int .u8 0))] [⟨0, 1, (.t 17)⟩]) (.int .u8),
  .p (.app 19 1 1 (.t 15) (.t 18)) (.int .u8),
  .p (.b2s 20 (.t 19)) .unit,
  .p (.mv 2 (.t 20)) .unit])
 .ret)))),
 21, 1, [.t 2]⟩
theorem m_impl_varText : mH Try.prog 92 [(3, 0, .t), (3, 7, .t), (5, 0, .t)] = some (F_impl_varText.code.x, F_impl_varText.N, F_impl_varText.np, F_impl_varText.res) := by kernel_rfl
noncomputable def T_impl_varText : Int → Option (List UInt8) := evF [] F_impl_varText [.cell (.int .i64)] [] [.cell .str] []
noncomputable def fn_impl_varText : TFn := ⟨92, [.cell (.int .i64)], [], [.cell .str], [], T_impl_varText⟩
theorem ok_impl_varText : FnOk Try.prog fn_impl_varText := evF_ok mixed allOk_nil m_impl_varText (by decide)
def F_impl_shortText : TF := ⟨(.seq (.reg none [.p (.mv 2 (.c (.string (ba [])))) .unit])
 (.seq (.reg none [.p (.mv 3 (.t 0)) .unit,
  .p (.lenS 4 (.t 3)) .unit,
  .p (.callB 5 n_impl_varText [((.t 4), 0)]) .unit,
  .p (.mv 6 (.t 0)) .unit,
  .p (.bin 7 false .add (.t 5) (.t 6)) .unit,
  .p (.mv 2 (.t 7)) .unit])
 .ret)),
 8, 1, [.t 2]⟩
theorem m_impl_shortText : mH Try.prog 98 [] = some (F_impl_shortText.code.x, F_impl_shortText.N, F_impl_shortText.np, F_impl_shortText.res) := by kernel_rfl
noncomputable def T_impl_shortText : List UInt8 → Option (List UInt8) := evF [fn_impl_varText] F_impl_shortText [.cell .str] [] [.cell .str] []
noncomputable def fn_impl_shortText : TFn := ⟨98, [.cell .str], [], [.cell .str], [], T_impl_shortText⟩
theorem ok_impl_shortText : FnOk Try.prog fn_impl_shortText := evF_ok mixed (allOk_cons ok_impl_varText allOk_nil) m_impl_shortText (by decide)
def F_impl_itemText : TF := ⟨(.seq (.reg none [.p (.box 1 (.t 0)) .unit,
  .p (.mv 2 (.c (.string (ba [])))) .unit])
 (.seq (.reg (some [[], [0], [1], [], [3], [], [5], [4, 6], [7, 2], [2, 8], [], [10], [11, 8], [9, 12], [13, 12, 0, 1, 2, 3, 4, 5, 6, 7, 8, 9, 10, 11, 12, 13]]) [.p (.fadr 3 (.t 1) 0) .unit,
  .p (.load 4 (.t 3) 1 false) .unit,
  .p (.callB 5 n_impl_varText [((.t 4), 0)]) .unit,
  .p (.fadr 6 (.t 1) 1) .unit,
  .p (.load 7 (.t 6) 1 false) .unit,
  .p (.fadr 8 (.t 1) 2) .unit,
  .p (.load 9 (.t 8) 1 false) .unit,
  .p (.bldS 10 2 [(.lit (.int .i64 0))] [⟨0, 1, (.t 7)⟩, ⟨1, 1, (.t 9)⟩]) (.int .i64),
  .p (.callB 11 n_impl_octets [((.t 10), 0)]) .unit,
  .p (.bin 12 false .add (.t 5) (.t 11)) .unit,
  .p (.fadr 13 (.t 1) 3) .unit,
  .p (.load 14 (.t 13) 1 false) .unit,
  .p (.callB 15 n_impl_shortText [((.t 14), 0)]) .unit,
  .p (.bin 16 false .add (.t 12) (.t 15)) .unit,
  .p (.mv 2 (.t 16)) .unit])
 .ret)),
 17, 1, [.t 2]⟩
theorem m_impl_itemText : mH Try.prog 60 [] = some (F_impl_itemText.code.x, F_impl_itemText.N, F_impl_itemText.np, F_impl_itemText.res) := by kernel_rfl
noncomputable def T_impl_itemText : Int × Int × Int × List UInt8 → Option (List UInt8) := evF [fn_impl_varText, fn_impl_octets, fn_impl_shortText] F_impl_itemText [.agg (.pair (.int .i64) (.pair (.int .i64) (.pair (.int .i64) .str)))] [] [.cell .str] []
noncomputable def fn_impl_itemText : TFn := ⟨60, [.agg (.pair (.int .i64) (.pair (.int .i64) (.pair (.int .i64) .str)))], [], [.cell .str], [], T_impl_itemText⟩
theorem ok_impl_itemText : FnOk Try.prog fn_impl_itemText := evF_ok mixed (allOk_cons ok_impl_varText (allOk_cons ok_impl_octets (allOk_cons ok_impl_shortText allOk_nil))) m_impl_itemText (by decide)
def B_impl_SumMore_1 : TC := (.seq (.reg none [.p (.bin 20 false .lss (.t 19) (.c (.int .i64 8))) .unit])
 (.seq (.cond (.t 20) .skip (.exit 2))
 (.seq (.join ⟨[(0, false), (1, true), (5, false), (19, false)], [.cell (.int .u32), .cell .str, .cell (.int .i64), .cell (.int .i64)]⟩ (.block 3 (.seq (.reg none [.p (.mv 21 (.t 0)) .unit,
  .p (.bin 22 false .and (.t 21) (.c (.int .u32 1))) .unit,
  .p (.mv 6 (.t 22)) .unit])
 (.seq (.reg none [.p (.mv 23 (.t 0)) .unit,
  .p (.bin 24 false .shr (.t 23) (.c (.int .u64 1))) .unit,
  .p (.mv 0 (.t 24)) .unit])
 (.seq (.reg none [.p (.mv 25 (.t 6)) .unit,
  .p (.bin 26 false .eql (.t 25) (.c (.int .u32 1))) .unit])
 (.cond (.t 26) (.reg none [.p (.mv 27 (.t 0)) .unit,
  .p (.bin 28 false .xor (.t 27) (.c (.int .u32 3558460437))) .unit,
  .p (.mv 0 (.t 28)) .unit]) .skip))))))
 (.reg none [.p (.bin 29 false .add (.t 19) (.c (.int .i64 1))) .unit,
  .p (.mv 19 (.t 29)) .unit]))))
noncomputable def L_impl_SumMore_1 : Nat → (Int) × (List UInt8) × (Int) × Int → Option (((Int) × (List UInt8) × Int) ⊕ (Int)) := evL [] (finT [.t 4] [] [.cell (.int .u32)]) 2 ⟨[(0, false), (1, true), (5, false), (19, false)], [.cell (.int .u32), .cell .str, .cell (.int .i64), .cell (.int .i64)]⟩ ⟨[(0, false), (1, true), (5, false)], [.cell (.int .u32), .cell .str, .cell (.int .i64)]⟩ B_impl_SumMore_1
def B_impl_SumMore_2 : TC := (.seq (.seq (.reg none [.p (.mv 7 (.t 5)) .unit,
  .p (.mv 8 (.t 1)) .unit,
  .p (.lenS 9 (.t 8)) .unit,
  .p (.bin 10 false .lss (.t 7) (.t 9)) .unit])
 (.cond (.t 10) .skip (.exit 0)))
 (.seq (.block 1 (.seq (.reg none [.p (.mv 13 (.t 0)) .unit,
  .p (.mv 14 (.t 1)) .unit,
  .p (.mv 15 (.t 5)) .unit,
  .p (.idx 16 (.t 14) (.t 15)) .unit,
  .p (.cvi 17 .u32 .u8 (.t 16)) .unit,
  .p (.bin 18 false .xor (.t 13) (.t 17)) .unit,
  .p (.mv 0 (.t 18)) .unit])
 (.seq (.reg none [.p (.mv 19 (.c (.int .i64 0))) .unit])
 (.jl 2 ⟨[(0, false), (1, true), (5, false), (19, false)], [.cell (.int .u32), .cell .str, .cell (.int .i64), .cell (.int .i64)]⟩ ⟨[(0, false), (1, true), (5, false)], [.cell (.int .u32), .cell .str, .cell (.int .i64)]⟩ B_impl_SumMore_1))))
 (.reg none [.p (.mv 11 (.t 5)) .unit,
  .p (.bin 12 false .add (.t 11) (.c (.int .i64 1))) .unit,
  .p (.mv 5 (.t 12)) .unit])))
noncomputable def L_impl_SumMore_2 : Nat → (Int) × (List UInt8) × Int → Option ((Int) ⊕ (Int)) := evL [] (finT [.t 4] [] [.cell (.int .u32)]) 0 ⟨[(0, false), (1, true), (5, false)], [.cell (.int .u32), .cell .str, .cell (.int .i64)]⟩ ⟨[(0, false)], [.cell (.int .u32)]⟩ B_impl_SumMore_2
def F_impl_SumMore : TF := ⟨(.seq (.reg none [.p (.mv 4 (.c (.int .u32 0))) .unit])
 (.seq (.seq (.reg none [.p (.mv 5 (.c (.int .i64 0))) .unit])
 (.jl 0 ⟨[(0, false), (1, true), (5, false)], [.cell (.int .u32), .cell .str, .cell (.int .i64)]⟩ ⟨[(0, false)], [.cell (.int .u32)]⟩ B_impl_SumMore_2))
 (.seq (.reg none [.p (.mv 30 (.t 0)) .unit,
  .p (.mv 4 (.t 30)) .unit])
 .ret))),
 31, 2, [.t 4]⟩
theorem m_impl_SumMore : mH Try.prog 181 [] = some (F_impl_SumMore.code.x, F_impl_SumMore.N, F_impl_SumMore.np, F_impl_SumMore.res) := by kernel_rfl
noncomputable def T_impl_SumMore : (Int) × List UInt8 → Option (Int) := evF [] F_impl_SumMore [.cell (.int .u32), .cell .str] [] [.cell (.int .u32)] []
noncomputable def fn_impl_SumMore : TFn := ⟨181, [.cell (.int .u32), .cell .str], [], [.cell (.int .u32)], [], T_impl_SumMore⟩
theorem ok_impl_SumMore : FnOk Try.prog fn_impl_SumMore := evF_ok mixed allOk_nil m_impl_SumMore (by decide)
def F_impl_SumOf : TF := ⟨(.seq (.reg none [.p (.mv 2 (.c (.int .u32 0))) .unit])
 (.seq (.reg none [.p (.mv 3 (.t 0)) .unit,
  .p (.callB 4 n_impl_SumMore [((.c (.int .u32 4294967295)), 0), ((.t 3), 0)]) .unit,
  .p (.mv 2 (.t 4)) .unit])
 .ret)),
 5, 1, [.t 2]⟩
theorem m_impl_SumOf : mH Try.prog 160 [] = some (F_impl_SumOf.code.x, F_impl_SumOf.N, F_impl_SumOf.np, F_impl_SumOf.res) := by kernel_rfl
noncomputable def T_impl_SumOf : List UInt8 → Option (Int) := evF [fn_impl_SumMore] F_impl_SumOf [.cell .str] [] [.cell (.int .u32)] []
noncomputable def fn_impl_SumOf : TFn := ⟨160, [.cell .str], [], [.cell (.int .u32)], [], T_impl_SumOf⟩
theorem ok_impl_SumOf : FnOk Try.prog fn_impl_SumOf := evF_ok mixed (allOk_cons ok_impl_SumMore allOk_nil) m_impl_SumOf (by decide)
def F_impl_sumText : TF := ⟨(.seq (.reg none [.p (.mv 2 (.c (.string (ba [])))) .unit])
 (.seq (.reg none [.p (.mv 4 (.t 0)) .unit,
  .p (.callB 5 n_impl_SumOf [((.t 4), 0)]) .unit,
  .p (.mv 3 (.t 5)) .unit])
 (.seq (.reg none [.p (.mv 6 (.t 3)) .unit,
  .p (.bin 7 false .shr (.t 6) (.c (.int .u64 24))) .unit,
  .p (.cvi 8 .u8 .u32 (.t 7)) .unit,
  .p (.mv 9 (.t 3)) .unit,
  .p (.bin 10 false .shr (.t 9) (.c (.int .u64 16))) .unit,
  .p (.cvi 11 .u8 .u32 (.t 10)) .unit,
  .p (.mv 12 (.t 3)) .unit,
  .p (.bin 13 false .shr (.t 12) (.c (.int .u64 8))) .unit,
  .p (.cvi 14 .u8 .u32 (.t 13)) .unit,
  .p (.mv 15 (.t 3)) .unit,
  .p (.cvi 16 .u8 .u32 (.t 15)) .unit,
  .p (.bldS 17 4 [(.lit (.int .u8 0))] [⟨0, 1, (.t 8)⟩, ⟨1, 1, (.t 11)⟩, ⟨2, 1, (.t 14)⟩, ⟨3, 1, (.t 16)⟩]) (.int .u8),
  .p (.b2s 18 (.t 17)) .unit,
  .p (.mv 2 (.t 18)) .unit])
 .ret))),
 19, 1, [.t 2]⟩
theorem m_impl_sumText : mH Try.prog 134 [] = some (F_impl_sumText.code.x, F_impl_sumText.N, F_impl_sumText.np, F_impl_sumText.res) := by kernel_rfl
noncomputable def T_impl_sumText : List UInt8 → Option (List UInt8) := evF [fn_impl_SumOf] F_impl_sumText [.cell .str] [] [.cell .str] []
noncomputable def fn_impl_sumText : TFn := ⟨134, [.cell .str], [], [.cell .str], [], T_impl_sumText⟩
theorem ok_impl_sumText : FnOk Try.prog fn_impl_sumText := evF_ok mixed (allOk_cons ok_impl_SumOf allOk_nil) m_impl_sumText (by decide)
def F_impl_Sealed : TF := ⟨(.seq (.reg none [.p (.mv 2 (.c (.string (ba [])))) .unit,
  .p (.mv 3 (.c (.bool false))) .unit])
 (.seq (.seq (.reg none [.p (.mv 4 (.t 0)) .unit,
  .p (.lenS 5 (.t 4)) .unit,
  .p (.bin 6 false .gtr (.t 5) (.c (.int .i64 20000))) .unit])
 (.cond (.t 6) (.seq (.reg none [.p (.mv 2 (.c (.string (ba [])))) .unit,
  .p (.mv 3 (.c (.bool false))) .unit])
 .ret) .skip))
 (.seq (.reg none [.p (.mv 7 (.t 0)) .unit,
  .p (.mv 8 (.t 0)) .unit,
  .p (.callB 9 n_impl_sumText [((.t 8), 0)]) .unit,
  .p (.bin 10 false .add (.t 7) (.t 9)) .unit,
  .p (.mv 2 (.t 10)) .unit,
  .p (.mv 3 (.c (.bool true))) .unit])
 .ret))),
 11, 1, [.t 2, .t 3]⟩
theorem m_impl_Sealed : mH Try.prog 93 [] = some (F_impl_Sealed.code.x, F_impl_Sealed.N, F_impl_Sealed.np, F_impl_Sealed.res) := by kernel_rfl
noncomputable def T_impl_Sealed : List UInt8 → Option ((List UInt8) × Bool) := evF [fn_impl_sumText] F_impl_Sealed [.cell .str] [] [.cell .str, .cell .bool] []
noncomputable def fn_impl_Sealed : TFn := ⟨93, [.cell .str], [], [.cell .str, .cell .bool], [], T_impl_Sealed⟩
theorem ok_impl_Sealed : FnOk Try.prog fn_impl_Sealed := evF_ok mixed (allOk_cons ok_impl_sumText allOk_nil) m_impl_Sealed (by decide)
def B_impl_BundleText_1 : TC := (.seq (.reg none [.p (.bin 30 false .lss (.t 29) (.t 28)) .unit])
 (.seq (.cond (.t 30) .skip (.exit 0))
 (.seq (.block 1 (.seq (.reg none [.p (.iadr 31 4 (.t 27) (.t 29)) .unit,
  .p (.load 32 (.t 31) 4 true) .unit,
  .p (.alloc 6 [(.lit (.int .i64 0)), (.lit (.int .i64 0)), (.lit (.int .i64 0)), (.lit (.string (ba [])))]) .unit,
  .p (.store (.t 6) (.t 32) 4) .unit])
 (.reg none [.p (.load 33 (.t 6) 4 true) .unit,
  .p (.callB 34 n_impl_itemText [((.t 33), 0)]) .unit,
  .p (.callB 35 n_impl_shortText [((.t 34), 0)]) .unit,
  .p (.callM 36 n___strings_Builder__WriteString [] (.tmp 4) [((.t 35), 0)]) .unit])))
 (.reg none [.p (.bin 37 false .add (.t 29) (.c (.int .i64 1))) .unit,
  .p (.mv 29 (.t 37)) .unit]))))
noncomputable def L_impl_BundleText_1 : Nat → (List UInt8) × (List (Int × Int × Int × List UInt8)) × (Int) × Int → Option ((List UInt8) ⊕ ((List UInt8) × Bool)) := evL [fn_impl_BundleOk, fn_impl_octets, fn_impl_varText, fn___strings_Builder__WriteString, fn_impl_itemText, fn_impl_shortText, fn___strings_Builder__String, fn_impl_Sealed] (finT [.t 2, .t 3] [] [.cell .str, .cell .bool]) 0 ⟨[(4, false), (27, false), (28, false), (29, false)], [.bld 110 5, .cell (.sl false (.pair (.int .i64) (.pair (.int .i64) (.pair (.int .i64) .str)))), .cell (.int .i64), .cell (.int .i64)]⟩ ⟨[(4, false)], [.bld 110 5]⟩ B_impl_BundleText_1
def F_impl_BundleText : TF := ⟨(.seq (.reg none [.p (.box 1 (.t 0)) .unit,
  .p (.mv 2 (.c (.string (ba [])))) .unit,
  .p (.mv 3 (.c (.bool false))) .unit])
 (.seq (.seq (.reg none [.p (.load 9 (.t 1) 4 true) .unit,
  .p (.callB 10 n_impl_BundleOk [((.t 9), 0)]) .unit,
  .p (.un 11 .not (.t 10)) .unit])
 (.cond (.t 11) (.seq (.reg none [.p (.mv 2 (.c (.string (ba [])))) .unit,
  .p (.mv 3 (.c (.bool false))) .unit])
 .ret) .skip))
 (.seq (.reg none [.p (.allocB 4 110 5) .unit])
 (.seq (.reg (some [[], [0], [], [2], [], [4], [1, 3, 5], [6], [], [8], [9], [10, 7], [7, 11], [12, 11]]) [.p (.fadr 12 (.t 1) 0) .unit,
  .p (.load 13 (.t 12) 1 false) .unit,
  .p (.fadr 14 (.t 1) 1) .unit,
  .p (.load 15 (.t 14) 1 false) .unit,
  .p (.fadr 16 (.t 1) 2) .unit,
  .p (.load 17 (.t 16) 1 false) .unit,
  .p (.bldS 18 3 [(.lit (.int .i64 0))] [⟨0, 1, (.t 13)⟩, ⟨1, 1, (.t 15)⟩, ⟨2, 1, (.t 17)⟩]) (.int .i64),
  .p (.callB 19 n_impl_octets [((.t 18), 0)]) .unit,
  .p (.fadr 20 (.t 1) 3) .unit,
  .p (.load 21 (.t 20) 1 false) .unit,
  .p (.lenB 22 (.t 21)) .unit,
  .p (.callB 23 n_impl_varText [((.t 22), 0)]) .unit,
  .p (.bin 24 false .add (.t 19) (.t 23)) .unit,
  .p (.callM 25 n___strings_Builder__WriteString [] (.tmp 4) [((.t 24), 0)]) .unit])
 (.seq (.seq (.reg none [.p (.fadr 26 (.t 1) 3) .unit,
  .p (.load 27 (.t 26) 1 false) .unit,
  .p (.lenB 28 (.t 27)) .unit,
  .p (.mv 29 (.c (.int .i64 0))) .unit])
 (.jl 0 ⟨[(4, false), (27, false), (28, false), (29, false)], [.bld 110 5, .cell (.sl false (.pair (.int .i64) (.pair (.int .i64) (.pair (.int .i64) .str)))), .cell (.int .i64), .cell (.int .i64)]⟩ ⟨[(4, false)], [.bld 110 5]⟩ B_impl_BundleText_1))
 (.seq (.reg none [.p (.callM 39 n___strings_Builder__String [] (.tmp 4) []) .unit,
  .p (.callB 40 n_impl_Sealed [((.t 39), 0)]) .unit,
  .p (.mv 38 (.t 40)) .unit,
  .p (.ext 41 (.t 38) 0) .unit,
  .p (.ext 42 (.t 38) 1) .unit,
  .p (.mv 7 (.t 41)) .unit,
  .p (.mv 8 (.t 42)) .unit])
 (.seq (.seq (.join ⟨[(7, false), (49, false)], [.cell .str, .cell .bool]⟩ (.reg none [.p (.mv 43 (.t 8)) .unit,
  .p (.un 44 .not (.t 43)) .unit,
  .p (.mv 45 (.t 44)) .unit,
  .g 45 false (some 46) (.mv 46 (.t 7)) .unit,
  .g 45 false (some 47) (.lenS 47 (.t 46)) .unit,
  .g 45 false (some 48) (.bin 48 false .gtr (.t 47) (.c (.int .i64 20000))) .unit,
  .p (.pick 49 (.t 45) (.c (.bool true)) (.t 48)) .unit]))
 (.cond (.t 49) (.seq (.reg none [.p (.mv 2 (.c (.string (ba [])))) .unit,
  .p (.mv 3 (.c (.bool false))) .unit])
 .ret) .skip))
 (.seq (.reg none [.p (.mv 50 (.t 7)) .unit,
  .p (.mv 2 (.t 50)) .unit,
  .p (.mv 3 (.c (.bool true))) .unit])
 .ret)))))))),
 51, 1, [.t 2, .t 3]⟩
theorem m_impl_BundleText : mH Try.prog 47 [(4, 13, (.m 0)), (8, 3, (.m 0)), (10, 0, (.m 0))] = some (F_impl_BundleText.code.x, F_impl_BundleText.N, F_impl_BundleText.np, F_impl_BundleText.res) := by kernel_rfl
noncomputable def T_impl_BundleText : Int × Int × Int × List (Int × Int × Int × List UInt8) → Option ((List UInt8) × Bool) := evF [fn_impl_BundleOk, fn_impl_octets, fn_impl_varText, fn___strings_Builder__WriteString, fn_impl_itemText, fn_impl_shortText, fn___strings_Builder__String, fn_impl_Sealed] F_impl_BundleText [.agg (.pair (.int .i64) (.pair (.int .i64) (.pair (.int .i64) (.sl false (.pair (.int .i64) (.pair (.int .i64) (.pair (.int .i64) .str)))))))] [] [.cell .str, .cell .bool] []
noncomputable def fn_impl_BundleText : TFn := ⟨47, [.agg (.pair (.int .i64) (.pair (.int .i64) (.pair (.int .i64) (.sl false (.pair (.int .i64) (.pair (.int .i64) (.pair (.int .i64) .str)))))))], [], [.cell .str, .cell .bool], [], T_impl_BundleText⟩
theorem ok_impl_BundleText : FnOk Try.prog fn_impl_BundleText := evF_ok mixed (allOk_cons ok_impl_BundleOk (allOk_cons ok_impl_octets (allOk_cons ok_impl_varText (allOk_cons ok___strings_Builder__WriteString (allOk_cons ok_impl_itemText (allOk_cons ok_impl_shortText (allOk_cons ok___strings_Builder__String (allOk_cons ok_impl_Sealed allOk_nil)))))))) m_impl_BundleText (by decide)
def F_impl_Unsealed : TF := ⟨(.seq (.reg none [.p (.mv 2 (.c (.string (ba [])))) .unit,
  .p (.mv 3 (.c (.bool false))) .unit])
 (.seq (.reg none [.p (.mv 5 (.t 0)) .unit,
  .p (.lenS 6 (.t 5)) .unit,
  .p (.bin 7 false .sub (.t 6) (.c (.int .i64 4))) .unit,
  .p (.mv 4 (.t 7)) .unit])
 (.seq (.seq (.join ⟨[(0, true), (4, false), (23, false)], [.cell .str, .cell (.int .i64), .cell .bool]⟩ (.reg (some [[], [0], [1], [2], [3, 2], [2, 4], [5, 2], [6], [6], [7, 8, 6], [9, 6, 6], [6], [6], [11, 12, 6], [10, 13, 6], [6, 14]]) [.p (.mv 8 (.t 4)) .unit,
  .p (.bin 9 false .lss (.t 8) (.c (.int .i64 0))) .unit,
  .p (.mv 10 (.t 9)) .unit,
  .g 10 false (some 11) (.mv 11 (.t 4)) .unit,
  .g 10 false (some 12) (.bin 12 false .gtr (.t 11) (.c (.int .i64 20000))) .unit,
  .p (.pick 13 (.t 10) (.c (.bool true)) (.t 12)) .unit,
  .p (.mv 14 (.t 13)) .unit,
  .g 14 false (some 15) (.mv 15 (.t 0)) .unit,
  .g 14 false (some 16) (.mv 16 (.t 4)) .unit,
  .g 14 false (some 17) (.slcS 17 (.t 15) none (some (.t 16))) .unit,
  .g 14 false (some 18) (.callB 18 n_impl_sumText [((.t 17), 0)]) .unit,
  .g 14 false (some 19) (.mv 19 (.t 0)) .unit,
  .g 14 false (some 20) (.mv 20 (.t 4)) .unit,
  .g 14 false (some 21) (.slcS 21 (.t 19) (some (.t 20)) none) .unit,
  .g 14 false (some 22) (.bin 22 false .neq (.t 18) (.t 21)) .unit,
  .p (.pick 23 (.t 14) (.c (.bool true)) (.t 22)) .unit]))
 (.cond (.t 23) (.seq (.reg none [.p (.mv 2 (.c (.string (ba [])))) .unit,
  .p (.mv 3 (.c (.bool false))) .unit])
 .ret) .skip))
 (.seq (.reg none [.p (.mv 24 (.t 0)) .unit,
  .p (.mv 25 (.t 4)) .unit,
  .p (.slcS 26 (.t 24) none (some (.t 25))) .unit,
  .p (.mv 2 (.t 26)) .unit,
  .p (.mv 3 (.c (.bool true))) .unit])
 .ret)))),
 27, 1, [.t 2, .t 3]⟩
theorem m_impl_Unsealed : mH Try.prog 76 [] = some (F_impl_Unsealed.code.x, F_impl_Unsealed.N, F_impl_Unsealed.np, F_impl_Unsealed.res) := by kernel_rfl
noncomputable def T_impl_Unsealed : List UInt8 → Option ((List UInt8) × Bool) := evF [fn_impl_sumText] F_impl_Unsealed [.cell .str] [] [.cell .str, .cell .bool] []
noncomputable def fn_impl_Unsealed : TFn := ⟨76, [.cell .str], [], [.cell .str, .cell .bool], [], T_impl_Unsealed⟩
theorem ok_impl_Unsealed : FnOk Try.prog fn_impl_Unsealed := evF_ok mixed (allOk_cons ok_impl_sumText allOk_nil) m_impl_Unsealed (by decide)
def F___impl_scanner__take : TF := ⟨(.seq (.reg none [.p (.mv 4 (.c (.string (ba [])))) .unit])
 (.seq (.seq (.join ⟨[(0, true), (1, true), (22, false)], [.box (.pair .str (.pair (.int .i64) .bool)), .cell (.int .i64), .cell .bool]⟩ (.reg (some [[], [0], [1], [2], [3], [4], [4], [6, 4], [7, 4], [8, 4], [9, 4], [4], [11, 4], [12, 4], [13, 4], [10, 14, 4], [5, 15, 4], [4, 16]]) [.p (.mvA 5 0) .unit,
  .p (.nilck 6 (.t 5)) .unit,
  .p (.fadr 7 (.t 6) 2) .unit,
  .p (.load 8 (.t 7) 1 false) .unit,
  .p (.mv 9 (.t 8)) .unit,
  .g 9 false (some 10) (.mv 10 (.t 1)) .unit,
  .g 9 false (some 11) (.mvA 11 0) .unit,
  .g 9 false (some 12) (.nilck 12 (.t 11)) .unit,
  .g 9 false (some 13) (.fadr 13 (.t 12) 0) .unit,
  .g 9 false (some 14) (.load 14 (.t 13) 1 false) .unit,
  .g 9 false (some 15) (.lenS 15 (.t 14)) .unit,
  .g 9 false (some 16) (.mvA 16 0) .unit,
  .g 9 false (some 17) (.nilck 17 (.t 16)) .unit,
  .g 9 false (some 18) (.fadr 18 (.t 17) 1) .unit,
  .g 9 false (some 19) (.load 19 (.t 18) 1 false) .unit,
  .g 9 false (some 20) (.bin 20 false .sub (.t 15) (.t 19)) .unit,
  .g 9 false (some 21) (.bin 21 false .gtr (.t 10) (.t 20)) .unit,
  .p (.pick 22 (.t 9) (.c (.bool true)) (.t 21)) .unit]))
 (.cond (.t 22) (.seq (.reg none [.p (.mvA 23 0) .unit,
  .p (.nilck 24 (.t 23)) .unit,
  .p (.fadr 25 (.t 24) 2) .unit,
  .p (.store (.t 25) (.c (.bool true)) 1) .unit])
 (.seq (.reg none [.p (.mv 4 (.c (.string (ba [])))) .unit])
 .ret)) .skip))
 (.seq (.reg none [.p (.mvA 26 0) .unit,
  .p (.nilck 27 (.t 26)) .unit,
  .p (.fadr 28 (.t 27) 1) .unit,
  .p (.load 29 (.t 28) 1 false) .unit,
  .p (.mv 30 (.t 1)) .unit,
  .p (.bin 31 false .add (.t 29) (.t 30)) .unit,
  .p (.nilck 32 (.t 26)) .unit,
  .p (.fadr 33 (.t 32) 1) .unit,
  .p (.store (.t 33) (.t 31) 1) .unit])
 (.seq (.reg (some [[], [0], [1], [2], [], [4], [5], [6], [], [7, 8], [], [10], [11], [12], [3, 9, 13], [14, 0, 1, 2, 3, 4, 5, 6, 7, 8, 9, 10, 11, 12, 13, 14]]) [.p (.mvA 34 0) .unit,
  .p (.nilck 35 (.t 34)) .unit,
  .p (.fadr 36 (.t 35) 0) .unit,
  .p (.load 37 (.t 36) 1 false) .unit,
  .p (.mvA 38 0) .unit,
  .p (.nilck 39 (.t 38)) .unit,
  .p (.fadr 40 (.t 39) 1) .unit,
  .p (.load 41 (.t 40) 1 false) .unit,
  .p (.mv 42 (.t 1)) .unit,
  .p (.bin 43 false .sub (.t 41) (.t 42)) .unit,
  .p (.mvA 44 0) .unit,
  .p (.nilck 45 (.t 44)) .unit,
  .p (.fadr 46 (.t 45) 1) .unit,
  .p (.load 47 (.t 46) 1 false) .unit,
  .p (.slcS 48 (.t 37) (some (.t 43)) (some (.t 47))) .unit,
  .p (.mv 4 (.t 48)) .unit])
 .ret)))),
 49, 2, [.t 4]⟩
theorem m___impl_scanner__take : mH Try.prog 128 [(1, 0, .v), (1, 6, .v), (1, 11, .v), (2, 0, .v), (4, 0, .v), (5, 0, .v), (5, 4, .v), (5, 10, .v)] = some (F___impl_scanner__take.code.x, F___impl_scanner__take.N, F___impl_scanner__take.np, F___impl_scanner__take.res) := by kernel_rfl
noncomputable def T___impl_scanner__take : (List UInt8 × Int × Bool) × Int → Option ((List UInt8) × List UInt8 × Int × Bool) := evF [] F___impl_scanner__take [.box (.pair .str (.pair (.int .i64) .bool)), .cell (.int .i64)] [0] [.cell .str] [.box (.pair .str (.pair (.int .i64) .bool))]
noncomputable def fn___impl_scanner__take : TFn := ⟨128, [.box (.pair .str (.pair (.int .i64) .bool)), .cell (.int .i64)], [0], [.cell .str], [.box (.pair .str (.pair (.int .i64) .bool))], T___impl_scanner__take⟩
theorem ok___impl_scanner__take : FnOk Try.prog fn___impl_scanner__take := evF_ok mixed allOk_nil m___impl_scanner__take (by decide)
def F___impl_scanner__octet : TF := ⟨(.seq (.reg none [.p (.mv 2 (.c (.int .i64 0))) .unit])
 (.seq (.reg none [.p (.mvA 4 0) .unit,
  .p (.callM 5 n___impl_scanner__take [] (.ptr (.t 4) 0) [((.c (.int .i64 1)), 0)]) .unit,
  .p (.mv 3 (.t 5)) .unit])
 (.seq (.seq (.reg none [.p (.mv 6 (.t 3)) .unit,
  .p (.bin 7 false .eql (.t 6) (.c (.string (ba [])))) .unit])
 (.cond (.t 7) (.seq (.reg none [.p (.mv 2 (.c (.int .i64 0))) .unit])
 .ret) .skip))
 (.seq (.reg none [.p (.mv 8 (.t 3)) .unit,
  .p (.idx 9 (.t 8) (.c (.int .i64 0))) .unit,
  .p (.cvi 10 .i64 .u8 (.t 9)) .unit,
  .p (.mv 2 (.t 10)) .unit])
 .ret)))),
 11, 1, [.t 2]⟩
theorem m___impl_scanner__octet : mH Try.prog 62 [(1, 0, .v), (1, 1, (.p 0 0))] = some (F___impl_scanner__octet.code.x, F___impl_scanner__octet.N, F___impl_scanner__octet.np, F___impl_scanner__octet.res) := by kernel_rfl
noncomputable def T___impl_scanner__octet : List UInt8 × Int × Bool → Option ((Int) × List UInt8 × Int × Bool) := evF [fn___impl_scanner__take] F___impl_scanner__octet [.box (.pair .str (.pair (.int .i64) .bool))] [0] [.cell (.int .i64)] [.box (.pair .str (.pair (.int .i64) .bool))]
noncomputable def fn___impl_scanner__octet : TFn := ⟨62, [.box (.pair .str (.pair (.int .i64) .bool))], [0], [.cell (.int .i64)], [.box (.pair .str (.pair (.int .i64) .bool))], T___impl_scanner__octet⟩
theorem ok___impl_scanner__octet : FnOk Try.prog fn___impl_scanner__octet := evF_ok mixed (allOk_cons ok___impl_scanner__take allOk_nil) m___impl_scanner__octet (by decide)
def B_impl_ReadVar_1 : TC := (.seq (.seq (.join ⟨[(0, true), (1, true), (7, false), (8, false), (9, false), (28, false)], [.cell .str, .cell (.int .i64), .cell (.int .i64), .cell (.int .i64), .cell (.int .i64), .cell .bool]⟩ (.reg none [.p (.mv 19 (.t 9)) .unit,
  .p (.bin 20 false .lss (.t 19) (.c (.int .i64 5))) .unit,
  .p (.mv 21 (.t 20)) .unit,
  .g 21 true (some 22) (.mv 22 (.t 1)) .unit,
  .g 21 true (some 23) (.mv 23 (.t 9)) .unit,
  .g 21 true (some 24) (.bin 24 false .add (.t 22) (.t 23)) .unit,
  .g 21 true (some 25) (.mv 25 (.t 0)) .unit,
  .g 21 true (some 26) (.lenS 26 (.t 25)) .unit,
  .g 21 true (some 27) (.bin 27 false .lss (.t 24) (.t 26)) .unit,
  .p (.pick 28 (.t 21) (.t 27) (.c (.bool false))) .unit]))
 (.cond (.t 28) .skip (.exit 0)))
 (.seq (.block 1 (.seq (.reg none [.p (.mv 31 (.t 0)) .unit,
  .p (.mv 32 (.t 1)) .unit,
  .p (.mv 33 (.t 9)) .unit,
  .p (.bin 34 false .add (.t 32) (.t 33)) .unit,
  .p (.idx 35 (.t 31) (.t 34)) .unit,
  .p (.cvi 36 .i64 .u8 (.t 35)) .unit,
  .p (.mv 10 (.t 36)) .unit])
 (.seq (.reg none [.p (.mv 37 (.t 7)) .unit,
  .p (.mv 38 (.t 10)) .unit,
  .p (.bin 39 false .rem (.t 38) (.c (.int .i64 128))) .unit,
  .p (.mv 40 (.t 8)) .unit,
  .p (.bin 41 false .mul (.t 39) (.t 40)) .unit,
  .p (.bin 42 false .add (.t 37) (.t 41)) .unit,
  .p (.mv 7 (.t 42)) .unit])
 (.seq (.reg none [.p (.mv 43 (.t 8)) .unit,
  .p (.bin 44 false .mul (.t 43) (.c (.int .i64 128))) .unit,
  .p (.mv 8 (.t 44)) .unit])
 (.seq (.seq (.reg none [.p (.mv 45 (.t 10)) .unit,
  .p (.bin 46 false .geq (.t 45) (.c (.int .i64 128))) .unit])
 (.cond (.t 46) (.exit 1) .skip))
 (.seq (.seq (.join ⟨[(1, true), (7, false), (9, false), (56, false)], [.cell (.int .i64), .cell (.int .i64), .cell (.int .i64), .cell .bool]⟩ (.reg none [.p (.mv 47 (.t 10)) .unit,
  .p (.bin 48 false .eql (.t 47) (.c (.int .i64 0))) .unit,
  .p (.mv 49 (.t 48)) .unit,
  .g 49 true (some 50) (.mv 50 (.t 9)) .unit,
  .g 49 true (some 51) (.bin 51 false .gtr (.t 50) (.c (.int .i64 0))) .unit,
  .p (.pick 52 (.t 49) (.t 51) (.c (.bool false))) .unit,
  .p (.mv 53 (.t 52)) .unit,
  .g 53 false (some 54) (.mv 54 (.t 7)) .unit,
  .g 53 false (some 55) (.bin 55 false .gtr (.t 54) (.c (.int .i64 1000000000))) .unit,
  .p (.pick 56 (.t 53) (.c (.bool true)) (.t 55)) .unit]))
 (.cond (.t 56) (.seq (.reg none [.p (.mv 4 (.c (.int .i64 0))) .unit,
  .p (.mv 5 (.c (.int .i64 0))) .unit,
  .p (.mv 6 (.c (.bool false))) .unit])
 .ret) .skip))
 (.seq (.reg none [.p (.mv 57 (.t 7)) .unit,
  .p (.mv 58 (.t 1)) .unit,
  .p (.mv 59 (.t 9)) .unit,
  .p (.bin 60 false .add (.t 58) (.t 59)) .unit,
  .p (.bin 61 false .add (.t 60) (.c (.int .i64 1))) .unit,
  .p (.mv 4 (.t 57)) .unit,
  .p (.mv 5 (.t 61)) .unit,
  .p (.mv 6 (.c (.bool true))) .unit])
 .ret)))))))
 (.reg none [.p (.mv 29 (.t 9)) .unit,
  .p (.bin 30 false .add (.t 29) (.c (.int .i64 1))) .unit,
  .p (.mv 9 (.t 30)) .unit])))
noncomputable def L_impl_ReadVar_1 : Nat → (List UInt8) × (Int) × (Int) × (Int) × Int → Option ((Unit) ⊕ ((Int) × (Int) × Bool)) := evL [] (finT [.t 4, .t 5, .t 6] [] [.cell (.int .i64), .cell (.int .i64), .cell .bool]) 0 ⟨[(0, true), (1, true), (7, false), (8, false), (9, false)], [.cell .str, .cell (.int .i64), .cell (.int .i64), .cell (.int .i64), .cell (.int .i64)]⟩ ⟨[], []⟩ B_impl_ReadVar_1
def F_impl_ReadVar : TF := ⟨(.seq (.reg none [.p (.mv 4 (.c (.int .i64 0))) .unit,
  .p (.mv 5 (.c (.int .i64 0))) .unit,
  .p (.mv 6 (.c (.bool false))) .unit])
 (.seq (.seq (.join ⟨[(0, true), (1, true), (18, false)], [.cell .str, .cell (.int .i64), .cell .bool]⟩ (.reg none [.p (.mv 11 (.t 1)) .unit,
  .p (.bin 12 false .lss (.t 11) (.c (.int .i64 0))) .unit,
  .p (.mv 13 (.t 12)) .unit,
  .g 13 false (some 14) (.mv 14 (.t 1)) .unit,
  .g 13 false (some 15) (.mv 15 (.t 0)) .unit,
  .g 13 false (some 16) (.lenS 16 (.t 15)) .unit,
  .g 13 false (some 17) (.bin 17 false .gtr (.t 14) (.t 16)) .unit,
  .p (.pick 18 (.t 13) (.c (.bool true)) (.t 17)) .unit]))
 (.cond (.t 18) (.seq (.reg none [.p (.mv 4 (.c (.int .i64 0))) .unit,
  .p (.mv 5 (.c (.int .i64 0))) .unit,
  .p (.mv 6 (.c (.bool false))) .unit])
 .ret) .skip))
 (.seq (.reg none [.p (.mv 7 (.c (.int .i64 0))) .unit,
  .p (.mv 8 (.c (.int .i64 1))) .unit])
 (.seq (.seq (.reg none [.p (.mv 9 (.c (.int .i64 0))) .unit])
 (.jl 0 ⟨[(0, true), (1, true), (7, false), (8, false), (9, false)], [.cell .str, .cell (.int .i64), .cell (.int .i64), .cell (.int .i64), .cell (.int .i64)]⟩ ⟨[], []⟩ B_impl_ReadVar_1))
 (.seq (.reg none [.p (.mv 4 (.c (.int .i64 0))) .unit,
  .p (.mv 5 (.c (.int .i64 0))) .unit,
  .p (.mv 6 (.c (.bool false))) .unit])
 .ret))))),
 62, 2, [.t 4, .t 5, .t 6]⟩
theorem m_impl_ReadVar : mH Try.prog 127 [] = some (F_impl_ReadVar.code.x, F_impl_ReadVar.N, F_impl_ReadVar.np, F_impl_ReadVar.res) := by kernel_rfl
noncomputable def T_impl_ReadVar : (List UInt8) × Int → Option ((Int) × (Int) × Bool) := evF [] F_impl_ReadVar [.cell .str, .cell (.int .i64)] [] [.cell (.int .i64), .cell (.int .i64), .cell .bool] []
noncomputable def fn_impl_ReadVar : TFn := ⟨127, [.cell .str, .cell (.int .i64)], [], [.cell (.int .i64), .cell (.int .i64), .cell .bool], [], T_impl_ReadVar⟩
theorem ok_impl_ReadVar : FnOk Try.prog fn_impl_ReadVar := evF_ok mixed allOk_nil m_impl_ReadVar (by decide)
def F___impl_scanner__number : TF := ⟨(.seq (.reg none [.p (.mv 2 (.c (.int .i64 0))) .unit])
 (.seq (.reg (some [[], [0], [1], [2], [], [4], [5], [6], [3, 7], [8], [9], [9], [9], [10, 8, 0, 1, 2, 3, 4, 5, 6, 7, 8, 9, 10], [11, 13, 0, 1, 2, 3, 4, 5, 6, 7, 8, 9, 10, 11, 13], [12, 14, 0, 1, 2, 3, 4, 5, 6, 7, 8, 9, 10, 11, 12, 13, 14]]) [.p (.mvA 7 0) .unit,
  .p (.nilck 8 (.t 7)) .unit,
  .p (.fadr 9 (.t 8) 0) .unit,
  .p (.load 10 (.t 9) 1 false) .unit,
  .p (.mvA 11 0) .unit,
  .p (.nilck 12 (.t 11)) .unit,
  .p (.fadr 13 (.t 12) 1) .unit,
  .p (.load 14 (.t 13) 1 false) .unit,
  .p (.callB 15 n_impl_ReadVar [((.t 10), 0), ((.t 14), 0)]) .unit,
  .p (.mv 6 (.t 15)) .unit,
  .p (.ext 16 (.t 6) 0) .unit,
  .p (.ext 17 (.t 6) 1) .unit,
  .p (.ext 18 (.t 6) 2) .unit,
  .p (.mv 3 (.t 16)) .unit,
  .p (.mv 4 (.t 17)) .unit,
  .p (.mv 5 (.t 18)) .unit])
 (.seq (.seq (.join ⟨[(0, true), (3, false), (4, false), (26, false)], [.box (.pair .str (.pair (.int .i64) .bool)), .cell (.int .i64), .cell (.int .i64), .cell .bool]⟩ (.reg none [.p (.mvA 19 0) .unit,
  .p (.nilck 20 (.t 19)) .unit,
  .p (.fadr 21 (.t 20) 2) .unit,
  .p (.load 22 (.t 21) 1 false) .unit,
  .p (.mv 23 (.t 22)) .unit,
  .g 23 false (some 24) (.mv 24 (.t 5)) .unit,
  .g 23 false (some 25) (.un 25 .not (.t 24)) .unit,
  .p (.pick 26 (.t 23) (.c (.bool true)) (.t 25)) .unit]))
 (.cond (.t 26) (.seq (.reg none [.p (.mvA 27 0) .unit,
  .p (.nilck 28 (.t 27)) .unit,
  .p (.fadr 29 (.t 28) 2) .unit,
  .p (.store (.t 29) (.c (.bool true)) 1) .unit])
 (.seq (.reg none [.p (.mv 2 (.c (.int .i64 0))) .unit])
 .ret)) .skip))
 (.seq (.reg none [.p (.mvA 30 0) .unit,
  .p (.mv 31 (.t 4)) .unit,
  .p (.nilck 32 (.t 30)) .unit,
  .p (.fadr 33 (.t 32) 1) .unit,
  .p (.store (.t 33) (.t 31) 1) .unit])
 (.seq (.reg none [.p (.mv 34 (.t 3)) .unit,
  .p (.mv 2 (.t 34)) .unit])
 .ret))))),
 35, 1, [.t 2]⟩
theorem m___impl_scanner__number : mH Try.prog 61 [(1, 0, .v), (1, 4, .v), (2, 0, .v), (3, 0, .v), (5, 0, .v)] = some (F___impl_scanner__number.code.x, F___impl_scanner__number.N, F___impl_scanner__number.np, F___impl_scanner__number.res) := by kernel_rfl
noncomputable def T___impl_scanner__number : List UInt8 × Int × Bool → Option ((Int) × List UInt8 × Int × Bool) := evF [fn_impl_ReadVar] F___impl_scanner__number [.box (.pair .str (.pair (.int .i64) .bool))] [0] [.cell (.int .i64)] [.box (.pair .str (.pair (.int .i64) .bool))]
noncomputable def fn___impl_scanner__number : TFn := ⟨61, [.box (.pair .str (.pair (.int .i64) .bool))], [0], [.cell (.int .i64)], [.box (.pair .str (.pair (.int .i64) .bool))], T___impl_scanner__number⟩
theorem ok___impl_scanner__number : FnOk Try.prog fn___impl_scanner__number := evF_ok mixed (allOk_cons ok_impl_ReadVar allOk_nil) m___impl_scanner__number (by decide)
def F___impl_scanner__count : TF := ⟨(.seq (.reg none [.p (.mv 4 (.c (.int .i64 0))) .unit])
 (.seq (.reg none [.p (.mvA 6 0) .unit,
  .p (.callM 7 n___impl_scanner__number [] (.ptr (.t 6) 0) []) .unit,
  .p (.mv 5 (.t 7)) .unit])
 (.seq (.seq (.reg none [.p (.mv 8 (.t 5)) .unit,
  .p (.mv 9 (.t 1)) .unit,
  .p (.bin 10 false .gtr (.t 8) (.t 9)) .unit])
 (.cond (.t 10) (.seq (.reg none [.p (.mvA 11 0) .unit,
  .p (.nilck 12 (.t 11)) .unit,
  .p (.fadr 13 (.t 12) 2) .unit,
  .p (.store (.t 13) (.c (.bool true)) 1) .unit])
 (.seq (.reg none [.p (.mv 4 (.c (.int .i64 0))) .unit])
 .ret)) .skip))
 (.seq (.reg none [.p (.mv 14 (.t 5)) .unit,
  .p (.mv 4 (.t 14)) .unit])
 .ret)))),
 15, 2, [.t 4]⟩
theorem m___impl_scanner__count : mH Try.prog 77 [(1, 0, .v), (1, 1, (.p 0 0)), (3, 0, .v)] = some (F___impl_scanner__count.code.x, F___impl_scanner__count.N, F___impl_scanner__count.np, F___impl_scanner__count.res) := by kernel_rfl
noncomputable def T___impl_scanner__count : (List UInt8 × Int × Bool) × Int → Option ((Int) × List UInt8 × Int × Bool) := evF [fn___impl_scanner__number] F___impl_scanner__count [.box (.pair .str (.pair (.int .i64) .bool)), .cell (.int .i64)] [0] [.cell (.int .i64)] [.box (.pair .str (.pair (.int .i64) .bool))]
noncomputable def fn___impl_scanner__count : TFn := ⟨77, [.box (.pair .str (.pair (.int .i64) .bool)), .cell (.int .i64)], [0], [.cell (.int .i64)], [.box (.pair .str (.pair (.int .i64) .bool))], T___impl_scanner__count⟩
theorem ok___impl_scanner__count : FnOk Try.prog fn___impl_scanner__count := evF_ok mixed (allOk_cons ok___impl_scanner__number allOk_nil) m___impl_scanner__count (by decide)
def F___impl_scanner__short : TF := ⟨(.seq (.reg none [.p (.mv 2 (.c (.string (ba [])))) .unit])
 (.seq (.reg none [.p (.mvA 4 0) .unit,
  .p (.callM 5 n___impl_scanner__number [] (.ptr (.t 4) 0) []) .unit,
  .p (.mv 3 (.t 5)) .unit])
 (.seq (.join ⟨[(0, true), (3, false)], [.box (.pair .str (.pair (.int .i64) .bool)), .cell (.int .i64)]⟩ (.seq (.reg none [.p (.mv 6 (.t 3)) .unit,
  .p (.bin 7 false .gtr (.t 6) (.c (.int .i64 20000))) .unit])
 (.cond (.t 7) (.reg none [.p (.mvA 8 0) .unit,
  .p (.nilck 9 (.t 8)) .unit,
  .p (.fadr 10 (.t 9) 2) .unit,
  .p (.store (.t 10) (.c (.bool true)) 1) .unit]) .skip)))
 (.seq (.reg none [.p (.mvA 11 0) .unit,
  .p (.mv 12 (.t 3)) .unit,
  .p (.callM 13 n___impl_scanner__take [] (.ptr (.t 11) 0) [((.t 12), 0)]) .unit,
  .p (.mv 2 (.t 13)) .unit])
 .ret)))),
 14, 1, [.t 2]⟩
theorem m___impl_scanner__short : mH Try.prog 63 [(1, 0, .v), (1, 1, (.p 0 0)), (3, 0, .v), (4, 0, .v), (4, 2, (.p 0 0))] = some (F___impl_scanner__short.code.x, F___impl_scanner__short.N, F___impl_scanner__short.np, F___impl_scanner__short.res) := by kernel_rfl
noncomputable def T___impl_scanner__short : List UInt8 × Int × Bool → Option ((List UInt8) × List UInt8 × Int × Bool) := evF [fn___impl_scanner__number, fn___impl_scanner__take] F___impl_scanner__short [.box (.pair .str (.pair (.int .i64) .bool))] [0] [.cell .str] [.box (.pair .str (.pair (.int .i64) .bool))]
noncomputable def fn___impl_scanner__short : TFn := ⟨63, [.box (.pair .str (.pair (.int .i64) .bool))], [0], [.cell .str], [.box (.pair .str (.pair (.int .i64) .bool))], T___impl_scanner__short⟩
theorem ok___impl_scanner__short : FnOk Try.prog fn___impl_scanner__short := evF_ok mixed (allOk_cons ok___impl_scanner__number (allOk_cons ok___impl_scanner__take allOk_nil)) m___impl_scanner__short (by decide)
def F___impl_scanner__done : TF := ⟨(.seq (.reg none [.p (.mv 2 (.c (.bool false))) .unit])
 (.seq (.reg (some [[], [0], [1], [2], [3], [4], [5], [6, 5], [7, 5], [8, 5], [5], [10, 5], [11, 5], [12, 5], [13, 5], [9, 14, 5], [5, 15], [16, 5, 0, 1, 2, 3, 4, 5, 6, 7, 8, 9, 10, 11, 12, 13, 14, 15, 16]]) [.p (.mv 3 (.t 0)) .unit,
  .p (.nilck 4 (.t 3)) .unit,
  .p (.fadr 5 (.t 4) 2) .unit,
  .p (.load 6 (.t 5) 1 false) .unit,
  .p (.un 7 .not (.t 6)) .unit,
  .p (.mv 8 (.t 7)) .unit,
  .g 8 true (some 9) (.mv 9 (.t 0)) .unit,
  .g 8 true (some 10) (.nilck 10 (.t 9)) .unit,
  .g 8 true (some 11) (.fadr 11 (.t 10) 1) .unit,
  .g 8 true (some 12) (.load 12 (.t 11) 1 false) .unit,
  .g 8 true (some 13) (.mv 13 (.t 0)) .unit,
  .g 8 true (some 14) (.nilck 14 (.t 13)) .unit,
  .g 8 true (some 15) (.fadr 15 (.t 14) 0) .unit,
  .g 8 true (some 16) (.load 16 (.t 15) 1 false) .unit,
  .g 8 true (some 17) (.lenS 17 (.t 16)) .unit,
  .g 8 true (some 18) (.bin 18 false .eql (.t 12) (.t 17)) .unit,
  .p (.pick 19 (.t 8) (.t 18) (.c (.bool false))) .unit,
  .p (.mv 2 (.t 19)) .unit])
 .ret)),
 20, 1, [.t 2]⟩
theorem m___impl_scanner__done : mH Try.prog 64 [] = some (F___impl_scanner__done.code.x, F___impl_scanner__done.N, F___impl_scanner__done.np, F___impl_scanner__done.res) := by kernel_rfl
noncomputable def T___impl_scanner__done : List UInt8 × Int × Bool → Option (Bool) := evF [] F___impl_scanner__done [.rp (.pair .str (.pair (.int .i64) .bool))] [] [.cell .bool] []
noncomputable def fn___impl_scanner__done : TFn := ⟨64, [.rp (.pair .str (.pair (.int .i64) .bool))], [], [.cell .bool], [], T___impl_scanner__done⟩
theorem ok___impl_scanner__done : FnOk Try.prog fn___impl_scanner__done := evF_ok mixed allOk_nil m___impl_scanner__done (by decide)
def F_impl_ReadItem : TF := ⟨(.seq (.reg none [.p (.alloc 2 [(.lit (.int .i64 0)), (.lit (.int .i64 0)), (.lit (.int .i64 0)), (.lit (.string (ba [])))]) .unit,
  .p (.mv 3 (.c (.bool false))) .unit])
 (.seq (.reg none [.p (.mv 6 (.t 0)) .unit,
  .p (.bld 7 [(.lit (.string (ba []))), (.lit (.int .i64 0)), (.lit (.bool false))] [⟨0, 1, (.t 6)⟩]) .unit,
  .p (.alloc 4 [(.lit (.string (ba []))), (.lit (.int .i64 0)), (.lit (.bool false))]) .unit,
  .p (.store (.t 4) (.t 7) 3) .unit])
 (.seq (.reg none [.p (.callM 8 n___impl_scanner__number [] (.tmp 4) []) .unit,
  .p (.bld 9 [(.lit (.int .i64 0)), (.lit (.int .i64 0)), (.lit (.int .i64 0)), (.lit (.string (ba [])))] [⟨0, 1, (.t 8)⟩]) .unit,
  .p (.alloc 5 [(.lit (.int .i64 0)), (.lit (.int .i64 0)), (.lit (.int .i64 0)), (.lit (.string (ba [])))]) .unit,
  .p (.store (.t 5) (.t 9) 4) .unit])
 (.seq (.reg none [.p (.callM 10 n___impl_scanner__octet [] (.tmp 4) []) .unit,
  .p (.fadr 11 (.t 5) 1) .unit,
  .p (.store (.t 11) (.t 10) 1) .unit])
 (.seq (.reg none [.p (.callM 12 n___impl_scanner__octet [] (.tmp 4) []) .unit,
  .p (.fadr 13 (.t 5) 2) .unit,
  .p (.store (.t 13) (.t 12) 1) .unit])
 (.seq (.reg none [.p (.callM 14 n___impl_scanner__short [] (.tmp 4) []) .unit,
  .p (.fadr 15 (.t 5) 3) .unit,
  .p (.store (.t 15) (.t 14) 1) .unit])
 (.seq (.seq (.join ⟨[(2, false), (5, false), (22, false)], [.box (.pair (.int .i64) (.pair (.int .i64) (.pair (.int .i64) .str))), .box (.pair (.int .i64) (.pair (.int .i64) (.pair (.int .i64) .str))), .cell .bool]⟩ (.reg none [.p (.callB 16 n___impl_scanner__done [((.t 4), 0)]) .unit,
  .p (.un 17 .not (.t 16)) .unit,
  .p (.mv 18 (.t 17)) .unit,
  .g 18 false (some 19) (.load 19 (.t 5) 4 true) .unit,
  .g 18 false (some 20) (.callB 20 n_impl_ItemOk [((.t 19), 0)]) .unit,
  .g 18 false (some 21) (.un 21 .not (.t 20)) .unit,
  .p (.pick 22 (.t 18) (.c (.bool true)) (.t 21)) .unit]))
 (.cond (.t 22) (.seq (.reg none [.p (.bld 23 [(.lit (.int .i64 0)), (.lit (.int .i64 0)), (.lit (.int .i64 0)), (.lit (.string (ba [])))] []) .unit,
  .p (.store (.t 2) (.t 23) 4) .unit,
  .p (.mv 3 (.c (.bool false))) .unit])
 .ret) .skip))
 (.seq (.reg none [.p (.load 24 (.t 5) 4 true) .unit,
  .p (.store (.t 2) (.t 24) 4) .unit,
  .p (.mv 3 (.c (.bool true))) .unit])
 .ret)))))))),
 25, 1, [.c 2 4 true, .t 3]⟩
theorem m_impl_ReadItem : mH Try.prog 14 [(2, 0, (.m 0)), (3, 0, (.m 0)), (4, 0, (.m 0)), (5, 0, (.m 0))] = some (F_impl_ReadItem.code.x, F_impl_ReadItem.N, F_impl_ReadItem.np, F_impl_ReadItem.res) := by kernel_rfl
noncomputable def T_impl_ReadItem : List UInt8 → Option ((Int × Int × Int × List UInt8) × Bool) := evF [fn___impl_scanner__number, fn___impl_scanner__octet, fn___impl_scanner__short, fn___impl_scanner__done, fn_impl_ItemOk] F_impl_ReadItem [.cell .str] [] [.agg (.pair (.int .i64) (.pair (.int .i64) (.pair (.int .i64) .str))), .cell .bool] []
noncomputable def fn_impl_ReadItem : TFn := ⟨14, [.cell .str], [], [.agg (.pair (.int .i64) (.pair (.int .i64) (.pair (.int .i64) .str))), .cell .bool], [], T_impl_ReadItem⟩
theorem ok_impl_ReadItem : FnOk Try.prog fn_impl_ReadItem := evF_ok mixed (allOk_cons ok___impl_scanner__number (allOk_cons ok___impl_scanner__octet (allOk_cons ok___impl_scanner__short (allOk_cons ok___impl_scanner__done (allOk_cons ok_impl_ItemOk allOk_nil))))) m_impl_ReadItem (by decide)
def B_impl_ReadBundle_1 : TC := (.seq (.reg none [.p (.bin 32 false .lss (.t 31) (.t 30)) .unit])
 (.seq (.cond (.t 32) .skip (.exit 0))
 (.seq (.block 1 (.seq (.reg none [.p (.callM 34 n___impl_scanner__short [] (.tmp 6) []) .unit,
  .p (.callB 35 n_impl_ReadItem [((.t 34), 0)]) .unit,
  .p (.mv 33 (.t 35)) .unit,
  .p (.ext 36 (.t 33) 0) .unit,
  .p (.ext 37 (.t 33) 1) .unit,
  .p (.alloc 8 [(.lit (.int .i64 0)), (.lit (.int .i64 0)), (.lit (.int .i64 0)), (.lit (.string (ba [])))]) .unit,
  .p (.store (.t 8) (.t 36) 4) .unit,
  .p (.mv 9 (.t 37)) .unit])
 (.seq (.join ⟨[(2, false), (6, false), (7, false), (8, false), (30, false), (31, false)], [.box (.pair (.int .i64) (.pair (.int .i64) (.pair (.int .i64) (.sl true (.pair (.int .i64) (.pair (.int .i64) (.pair (.int .i64) .str))))))), .box (.pair .str (.pair (.int .i64) .bool)), .box (.pair (.int .i64) (.pair (.int .i64) (.pair (.int .i64) (.sl true (.pair (.int .i64) (.pair (.int .i64) (.pair (.int .i64) .str))))))), .box (.pair (.int .i64) (.pair (.int .i64) (.pair (.int .i64) .str))), .cell (.int .i64), .cell (.int .i64)]⟩ (.reg none [.p (.fadr 38 (.t 6) 2) .unit,
  .p (.load 39 (.t 38) 1 false) .unit,
  .p (.mv 40 (.t 39)) .unit,
  .g 40 false (some 41) (.mv 41 (.t 9)) .unit,
  .g 40 false (some 42) (.un 42 .not (.t 41)) .unit,
  .p (.pick 43 (.t 40) (.c (.bool true)) (.t 42)) .unit,
  .p (.fadr 44 (.t 6) 2) .unit,
  .p (.store (.t 44) (.t 43) 1) .unit]))
 (.reg none [.p (.fadr 45 (.t 7) 3) .unit,
  .p (.load 46 (.t 45) 1 false) .unit,
  .p (.load 47 (.t 8) 4 true) .unit,
  .p (.bldS 48 1 [(.lit (.int .i64 0)), (.lit (.int .i64 0)), (.lit (.int .i64 0)), (.lit (.string (ba [])))] [⟨0, 4, (.t 47)⟩]) (.pair (.int .i64) (.pair (.int .i64) (.pair (.int .i64) .str))),
  .p (.appC 49 4 40 46 (.t 48) false) (.pair (.int .i64) (.pair (.int .i64) (.pair (.int .i64) .str))),
  .p (.fadr 50 (.t 7) 3) .unit,
  .p (.storeT (.t 50) 49 1) .unit]))))
 (.reg none [.p (.bin 51 false .add (.t 31) (.c (.int .i64 1))) .unit,
  .p (.mv 31 (.t 51)) .unit]))))
noncomputable def L_impl_ReadBundle_1 : Nat → (Int × Int × Int × List (Int × Int × Int × List UInt8)) × (List UInt8 × Int × Bool) × (Int × Int × Int × List (Int × Int × Int × List UInt8)) × (Int) × Int → Option (((Int × Int × Int × List (Int × Int × Int × List UInt8)) × (List UInt8 × Int × Bool) × Int × Int × Int × List (Int × Int × Int × List UInt8)) ⊕ ((Int × Int × Int × List (Int × Int × Int × List UInt8)) × Bool)) := evL [fn_impl_Unsealed, fn___impl_scanner__octet, fn___impl_scanner__count, fn___impl_scanner__short, fn_impl_ReadItem, fn___impl_scanner__done, fn_impl_BundleOk] (finT [.c 2 4 true, .t 3] [] [.agg (.pair (.int .i64) (.pair (.int .i64) (.pair (.int .i64) (.sl true (.pair (.int .i64) (.pair (.int .i64) (.pair (.int .i64) .str))))))), .cell .bool]) 0 ⟨[(2, false), (6, false), (7, false), (30, false), (31, false)], [.box (.pair (.int .i64) (.pair (.int .i64) (.pair (.int .i64) (.sl true (.pair (.int .i64) (.pair (.int .i64) (.pair (.int .i64) .str))))))), .box (.pair .str (.pair (.int .i64) .bool)), .box (.pair (.int .i64) (.pair (.int .i64) (.pair (.int .i64) (.sl true (.pair (.int .i64) (.pair (.int .i64) (.pair (.int .i64) .str))))))), .cell (.int .i64), .cell (.int .i64)]⟩ ⟨[(2, false), (6, false), (7, false)], [.box (.pair (.int .i64) (.pair (.int .i64) (.pair (.int .i64) (.sl true (.pair (.int .i64) (.pair (.int .i64) (.pair (.int .i64) .str))))))), .box (.pair .str (.pair (.int .i64) .bool)), .box (.pair (.int .i64) (.pair (.int .i64) (.pair (.int .i64) (.sl true (.pair (.int .i64) (.pair (.int .i64) (.pair (.int .i64) .str)))))))]⟩ B_impl_ReadBundle_1
def F_impl_ReadBundle : TF := ⟨(.seq (.reg none [.p (.alloc 2 [(.lit (.int .i64 0)), (.lit (.int .i64 0)), (.lit (.int .i64 0)), (.sl true 4 [])]) .unit,
  .p (.mv 3 (.c (.bool false))) .unit])
 (.seq (.reg none [.p (.mv 11 (.t 0)) .unit,
  .p (.callB 12 n_impl_Unsealed [((.t 11), 0)]) .unit,
  .p (.mv 10 (.t 12)) .unit,
  .p (.ext 13 (.t 10) 0) .unit,
  .p (.ext 14 (.t 10) 1) .unit,
  .p (.mv 4 (.t 13)) .unit,
  .p (.mv 5 (.t 14)) .unit])
 (.seq (.join ⟨[(2, false), (6, false)], [.box (.pair (.int .i64) (.pair (.int .i64) (.pair (.int .i64) (.sl true (.pair (.int .i64) (.pair (.int .i64) (.pair (.int .i64) .str))))))), .box (.pair .str (.pair (.int .i64) .bool))]⟩ (.reg none [.p (.mv 15 (.t 4)) .unit,
  .p (.mv 16 (.t 5)) .unit,
  .p (.un 17 .not (.t 16)) .unit,
  .p (.mv 18 (.t 17)) .unit,
  .g 18 false (some 19) (.mv 19 (.t 0)) .unit,
  .g 18 false (some 20) (.lenS 20 (.t 19)) .unit,
  .g 18 false (some 21) (.bin 21 false .gtr (.t 20) (.c (.int .i64 20000))) .unit,
  .p (.pick 22 (.t 18) (.c (.bool true)) (.t 21)) .unit,
  .p (.bld 23 [(.lit (.string (ba []))), (.lit (.int .i64 0)), (.lit (.bool false))] [⟨0, 1, (.t 15)⟩, ⟨2, 1, (.t 22)⟩]) .unit,
  .p (.alloc 6 [(.lit (.string (ba []))), (.lit (.int .i64 0)), (.lit (.bool false))]) .unit,
  .p (.store (.t 6) (.t 23) 3) .unit]))
 (.seq (.reg none [.p (.callM 24 n___impl_scanner__octet [] (.tmp 6) []) .unit,
  .p (.bld 25 [(.lit (.int .i64 0)), (.lit (.int .i64 0)), (.lit (.int .i64 0)), (.sl true 4 [])] [⟨0, 1, (.t 24)⟩]) .unit,
  .p (.alloc 7 [(.lit (.int .i64 0)), (.lit (.int .i64 0)), (.lit (.int .i64 0)), (.sl true 4 [])]) .unit,
  .p (.storeT (.t 7) 25 4) .unit])
 (.seq (.reg none [.p (.callM 26 n___impl_scanner__octet [] (.tmp 6) []) .unit,
  .p (.fadr 27 (.t 7) 1) .unit,
  .p (.store (.t 27) (.t 26) 1) .unit])
 (.seq (.reg none [.p (.callM 28 n___impl_scanner__octet [] (.tmp 6) []) .unit,
  .p (.fadr 29 (.t 7) 2) .unit,
  .p (.store (.t 29) (.t 28) 1) .unit])
 (.seq (.seq (.reg none [.p (.callM 30 n___impl_scanner__count [] (.tmp 6) [((.c (.int .i64 60)), 0)]) .unit,
  .p (.mv 31 (.c (.int .i64 0))) .unit])
 (.jl 0 ⟨[(2, false), (6, false), (7, false), (30, false), (31, false)], [.box (.pair (.int .i64) (.pair (.int .i64) (.pair (.int .i64) (.sl true (.pair (.int .i64) (.pair (.int .i64) (.pair (.int .i64) .str))))))), .box (.pair .str (.pair (.int .i64) .bool)), .box (.pair (.int .i64) (.pair (.int .i64) (.pair (.int .i64) (.sl true (.pair (.int .i64) (.pair (.int .i64) (.pair (.int .i64) .str))))))), .cell (.int .i64), .cell (.int .i64)]⟩ ⟨[(2, false), (6, false), (7, false)], [.box (.pair (.int .i64) (.pair (.int .i64) (.pair (.int .i64) (.sl true (.pair (.int .i64) (.pair (.int .i64) (.pair (.int .i64) .str))))))), .box (.pair .str (.pair (.int .i64) .bool)), .box (.pair (.int .i64) (.pair (.int .i64) (.pair (.int .i64) (.sl true (.pair (.int .i64) (.pair (.int .i64) (.pair (.int .i64) .str)))))))]⟩ B_impl_ReadBundle_1))
 (.seq (.seq (.join ⟨[(2, false), (7, false), (58, false)], [.box (.pair (.int .i64) (.pair (.int .i64) (.pair (.int .i64) (.sl true (.pair (.int .i64) (.pair (.int .i64) (.pair (.int .i64) .str))))))), .box (.pair (.int .i64) (.pair (.int .i64) (.pair (.int .i64) (.sl true (.pair (.int .i64) (.pair (.int .i64) (.pair (.int .i64) .str))))))), .cell .bool]⟩ (.reg none [.p (.callB 52 n___impl_scanner__done [((.t 6), 0)]) .unit,
  .p (.un 53 .not (.t 52)) .unit,
  .p (.mv 54 (.t 53)) .unit,
  .g 54 false (some 55) (.load 55 (.t 7) 4 true) .unit,
  .g 54 false (some 56) (.callB 56 n_impl_BundleOk [((.t 55), 0)]) .unit,
  .g 54 false (some 57) (.un 57 .not (.t 56)) .unit,
  .p (.pick 58 (.t 54) (.c (.bool true)) (.t 57)) .unit]))
 (.cond (.t 58) (.seq (.reg none [.p (.bld 59 [(.lit (.int .i64 0)), (.lit (.int .i64 0)), (.lit (.int .i64 0)), (.sl true 4 [])] []) .unit,
  .p (.storeT (.t 2) 59 4) .unit,
  .p (.mv 3 (.c (.bool false))) .unit])
 .ret) .skip))
 (.seq (.reg none [.p (.loadT 60 (.t 7) 4 true) .unit,
  .p (.storeT (.t 2) 60 4) .unit,
  .p (.mv 3 (.c (.bool true))) .unit])
 .ret))))))))),
 61, 1, [.c 2 4 true, .t 3]⟩
theorem m_impl_ReadBundle : mH Try.prog 30 [(3, 0, (.m 0)), (3, 3, .t), (4, 0, (.m 0)), (5, 0, (.m 0)), (6, 0, (.m 0)), (8, 0, (.m 0)), (10, 4, .z), (10, 6, .t), (13, 1, .t), (14, 0, .t), (14, 1, .t)] = some (F_impl_ReadBundle.code.x, F_impl_ReadBundle.N, F_impl_ReadBundle.np, F_impl_ReadBundle.res) := by kernel_rfl
noncomputable def T_impl_ReadBundle : List UInt8 → Option ((Int × Int × Int × List (Int × Int × Int × List UInt8)) × Bool) := evF [fn_impl_Unsealed, fn___impl_scanner__octet, fn___impl_scanner__count, fn___impl_scanner__short, fn_impl_ReadItem, fn___impl_scanner__done, fn_impl_BundleOk] F_impl_ReadBundle [.cell .str] [] [.agg (.pair (.int .i64) (.pair (.int .i64) (.pair (.int .i64) (.sl true (.pair (.int .i64) (.pair (.int .i64) (.pair (.int .i64) .str))))))), .cell .bool] []
noncomputable def fn_impl_ReadBundle : TFn := ⟨30, [.cell .str], [], [.agg (.pair (.int .i64) (.pair (.int .i64) (.pair (.int .i64) (.sl true (.pair (.int .i64) (.pair (.int .i64) (.pair (.int .i64) .str))))))), .cell .bool], [], T_impl_ReadBundle⟩
theorem ok_impl_ReadBundle : FnOk Try.prog fn_impl_ReadBundle := evF_ok mixed (allOk_cons ok_impl_Unsealed (allOk_cons ok___impl_scanner__octet (allOk_cons ok___impl_scanner__count (allOk_cons ok___impl_scanner__short (allOk_cons ok_impl_ReadItem (allOk_cons ok___impl_scanner__done (allOk_cons ok_impl_BundleOk allOk_nil))))))) m_impl_ReadBundle (by decide)
def F_spec_l01In : TF := ⟨(.seq (.reg none [.p (.mv 6 (.c (.bool false))) .unit])
 (.seq (.reg none [.p (.mv 7 (.t 0)) .unit,
  .p (.mv 8 (.t 1)) .unit,
  .p (.bin 9 false .geq (.t 7) (.t 8)) .unit,
  .p (.mv 10 (.t 9)) .unit,
  .g 10 true (some 11) (.mv 11 (.t 0)) .unit,
  .g 10 true (some 12) (.mv 12 (.t 2)) .unit,
  .g 10 true (some 13) (.bin 13 false .leq (.t 11) (.t 12)) .unit,
  .p (.pick 14 (.t 10) (.t 13) (.c (.bool false))) .unit,
  .p (.mv 6 (.t 14)) .unit])
 .ret)),
 15, 3, [.t 6]⟩
theorem m_spec_l01In : mH Try.prog 65 [] = some (F_spec_l01In.code.x, F_spec_l01In.N, F_spec_l01In.np, F_spec_l01In.res) := by kernel_rfl
noncomputable def T_spec_l01In : (Int) × (Int) × Int → Option (Bool) := evF [] F_spec_l01In [.cell (.int .i64), .cell (.int .i64), .cell (.int .i64)] [] [.cell .bool] []
noncomputable def fn_spec_l01In : TFn := ⟨65, [.cell (.int .i64), .cell (.int .i64), .cell (.int .i64)], [], [.cell .bool], [], T_spec_l01In⟩
theorem ok_spec_l01In : FnOk Try.prog fn_spec_l01In := evF_ok mixed allOk_nil m_spec_l01In (by decide)
def F_spec_ItemOk : TF := ⟨(.seq (.reg none [.p (.box 1 (.t 0)) .unit,
  .p (.mv 2 (.c (.bool false))) .unit])
 (.seq (.reg none [.p (.fadr 3 (.t 1) 0) .unit,
  .p (.load 4 (.t 3) 1 false) .unit,
  .p (.callB 5 n_spec_l01In [((.t 4), 0), ((.c (.int .i64 1)), 0), ((.c (.int .i64 60)), 0)]) .unit,
  .p (.mv 6 (.t 5)) .unit,
  .g 6 true (some 7) (.fadr 7 (.t 1) 1) .unit,
  .g 6 true (some 8) (.load 8 (.t 7) 1 false) .unit,
  .g 6 true (some 9) (.callB 9 n_spec_l01In [((.t 8), 0), ((.c (.int .i64 1)), 0), ((.c (.int .i64 5)), 0)]) .unit,
  .p (.pick 10 (.t 6) (.t 9) (.c (.bool false))) .unit,
  .p (.mv 11 (.t 10)) .unit,
  .g 11 true (some 12) (.fadr 12 (.t 1) 2) .unit,
  .g 11 true (some 13) (.load 13 (.t 12) 1 false) .unit,
  .g 11 true (some 14) (.callB 14 n_spec_l01In [((.t 13), 0), ((.c (.int .i64 1)), 0), ((.c (.int .i64 2)), 0)]) .unit,
  .p (.pick 15 (.t 11) (.t 14) (.c (.bool false))) .unit,
  .p (.mv 16 (.t 15)) .unit,
  .g 16 true (some 17) (.fadr 17 (.t 1) 3) .unit,
  .g 16 true (some 18) (.load 18 (.t 17) 1 false) .unit,
  .g 16 true (some 19) (.lenS 19 (.t 18)) .unit,
  .g 16 true (some 20) (.bin 20 false .leq (.t 19) (.c (.int .i64 60))) .unit,
  .p (.pick 21 (.t 16) (.t 20) (.c (.bool false))) .unit,
  .p (.mv 2 (.t 21)) .unit])
 .ret)),
 22, 1, [.t 2]⟩
theorem m_spec_ItemOk : mH Try.prog 15 [] = some (F_spec_ItemOk.code.x, F_spec_ItemOk.N, F_spec_ItemOk.np, F_spec_ItemOk.res) := by kernel_rfl
noncomputable def T_spec_ItemOk : Int × Int × Int × List UInt8 → Option (Bool) := evF [fn_spec_l01In] F_spec_ItemOk [.agg (.pair (.int .i64) (.pair (.int .i64) (.pair (.int .i64) .str)))] [] [.cell .bool] []
noncomputable def fn_spec_ItemOk : TFn := ⟨15, [.agg (.pair (.int .i64) (.pair (.int .i64) (.pair (.int .i64) .str)))], [], [.cell .bool], [], T_spec_ItemOk⟩
theorem ok_spec_ItemOk : FnOk Try.prog fn_spec_ItemOk := evF_ok mixed (allOk_cons ok_spec_l01In allOk_nil) m_spec_ItemOk (by decide)
def B_spec_ItemsOk_1 : TC := (.seq (.seq (.reg none [.p (.mv 4 (.t 3)) .unit,
  .p (.mv 5 (.t 0)) .unit,
  .p (.lenB 6 (.t 5)) .unit,
  .p (.bin 7 false .lss (.t 4) (.t 6)) .unit])
 (.cond (.t 7) .skip (.exit 0)))
 (.seq (.block 1 (.seq (.join ⟨[(0, true), (3, false), (33, false)], [.cell (.sl false (.pair (.int .i64) (.pair (.int .i64) (.pair (.int .i64) .str)))), .cell (.int .i64), .cell .bool]⟩ (.reg (some [[], [], [0, 1], [2], [3], [4], [5, 4], [6], [7, 6], [8, 6, 6], [9], [9], [11, 9], [10, 12, 9], [13, 9], [14, 9], [9], [9], [16, 17, 9], [18, 9], [19, 9], [15, 20, 9], [9, 21, 6], [6, 22]]) [.p (.mv 10 (.t 0)) .unit,
  .p (.mv 11 (.t 3)) .unit,
  .p (.iadr 12 4 (.t 10) (.t 11)) .unit,
  .p (.load 13 (.t 12) 4 true) .unit,
  .p (.callB 14 n_spec_ItemOk [((.t 13), 0)]) .unit,
  .p (.un 15 .not (.t 14)) .unit,
  .p (.mv 16 (.t 15)) .unit,
  .g 16 false (some 17) (.mv 17 (.t 3)) .unit,
  .g 16 false (some 18) (.bin 18 false .gtr (.t 17) (.c (.int .i64 0))) .unit,
  .g 16 false (some 19) (.mv 19 (.t 18)) .unit,
  .g 19 true (some 20) (.mv 20 (.t 0)) .unit,
  .g 19 true (some 21) (.mv 21 (.t 3)) .unit,
  .g 19 true (some 22) (.bin 22 false .sub (.t 21) (.c (.int .i64 1))) .unit,
  .g 19 true (some 23) (.iadr 23 4 (.t 20) (.t 22)) .unit,
  .g 19 true (some 24) (.fadr 24 (.t 23) 0) .unit,
  .g 19 true (some 25) (.load 25 (.t 24) 1 false) .unit,
  .g 19 true (some 26) (.mv 26 (.t 0)) .unit,
  .g 19 true (some 27) (.mv 27 (.t 3)) .unit,
  .g 19 true (some 28) (.iadr 28 4 (.t 26) (.t 27)) .unit,
  .g 19 true (some 29) (.fadr 29 (.t 28) 0) .unit,
  .g 19 true (some 30) (.load 30 (.t 29) 1 false) .unit,
  .g 19 true (some 31) (.bin 31 false .geq (.t 25) (.t 30)) .unit,
  .g 16 false (some 32) (.pick 32 (.t 19) (.t 31) (.c (.bool false))) .unit,
  .p (.pick 33 (.t 16) (.c (.bool true)) (.t 32)) .unit]))
 (.cond (.t 33) (.seq (.reg none [.p (.mv 2 (.c (.bool false))) .unit])
 .ret) .skip)))
 (.reg none [.p (.mv 8 (.t 3)) .unit,
  .p (.bin 9 false .add (.t 8) (.c (.int .i64 1))) .unit,
  .p (.mv 3 (.t 9)) .unit])))
noncomputable def L_spec_ItemsOk_1 : Nat → (List (Int × Int × Int × List UInt8)) × Int → Option ((Unit) ⊕ (Bool)) := evL [fn_spec_ItemOk] (finT [.t 2] [] [.cell .bool]) 0 ⟨[(0, true), (3, false)], [.cell (.sl false (.pair (.int .i64) (.pair (.int .i64) (.pair (.int .i64) .str)))), .cell (.int .i64)]⟩ ⟨[], []⟩ B_spec_ItemsOk_1
def F_spec_ItemsOk : TF := ⟨(.seq (.reg none [.p (.mv 2 (.c (.bool false))) .unit])
 (.seq (.seq (.reg none [.p (.mv 3 (.c (.int .i64 0))) .unit])
 (.jl 0 ⟨[(0, true), (3, false)], [.cell (.sl false (.pair (.int .i64) (.pair (.int .i64) (.pair (.int .i64) .str)))), .cell (.int .i64)]⟩ ⟨[], []⟩ B_spec_ItemsOk_1))
 (.seq (.reg none [.p (.mv 2 (.c (.bool true))) .unit])
 .ret))),
 34, 1, [.t 2]⟩
theorem m_spec_ItemsOk : mH Try.prog 109 [] = some (F_spec_ItemsOk.code.x, F_spec_ItemsOk.N, F_spec_ItemsOk.np, F_spec_ItemsOk.res) := by kernel_rfl
noncomputable def T_spec_ItemsOk : List (Int × Int × Int × List UInt8) → Option (Bool) := evF [fn_spec_ItemOk] F_spec_ItemsOk [.cell (.sl false (.pair (.int .i64) (.pair (.int .i64) (.pair (.int .i64) .str))))] [] [.cell .bool] []
noncomputable def fn_spec_ItemsOk : TFn := ⟨109, [.cell (.sl false (.pair (.int .i64) (.pair (.int .i64) (.pair (.int .i64) .str))))], [], [.cell .bool], [], T_spec_ItemsOk⟩
theorem ok_spec_ItemsOk : FnOk Try.prog fn_spec_ItemsOk := evF_ok mixed (allOk_cons ok_spec_ItemOk allOk_nil) m_spec_ItemsOk (by decide)
def F_spec_BundleOk : TF := ⟨(.seq (.reg none [.p (.box 1 (.t 0)) .unit,
  .p (.mv 2 (.c (.bool false))) .unit])
 (.seq (.reg none [.p (.fadr 3 (.t 1) 0) .unit,
  .p (.load 4 (.t 3) 1 false) .unit,
  .p (.callB 5 n_spec_l01In [((.t 4), 0), ((.c (.int .i64 1)), 0), ((.c (.int .i64 5)), 0)]) .unit,
  .p (.mv 6 (.t 5)) .unit,
  .g 6 true (some 7) (.fadr 7 (.t 1) 1) .unit,
  .g 6 true (some 8) (.load 8 (.t 7) 1 false) .unit,
  .g 6 true (some 9) (.callB 9 n_spec_l01In [((.t 8), 0), ((.c (.int .i64 1)), 0), ((.c (.int .i64 9)), 0)]) .unit,
  .p (.pick 10 (.t 6) (.t 9) (.c (.bool false))) .unit,
  .p (.mv 11 (.t 10)) .unit,
  .g 11 true (some 12) (.fadr 12 (.t 1) 2) .unit,
  .g 11 true (some 13) (.load 13 (.t 12) 1 false) .unit,
  .g 11 true (some 14) (.fadr 14 (.t 1) 1) .unit,
  .g 11 true (some 15) (.load 15 (.t 14) 1 false) .unit,
  .g 11 true (some 16) (.bin 16 false .sub (.t 15) (.c (.int .i64 1))) .unit,
  .g 11 true (some 17) (.callB 17 n_spec_l01In [((.t 13), 0), ((.c (.int .i64 0)), 0), ((.t 16), 0)]) .unit,
  .p (.pick 18 (.t 11) (.t 17) (.c (.bool false))) .unit,
  .p (.mv 19 (.t 18)) .unit,
  .g 19 true (some 20) (.fadr 20 (.t 1) 3) .unit,
  .g 19 true (some 21) (.load 21 (.t 20) 1 false) .unit,
  .g 19 true (some 22) (.callB 22 n_spec_ItemsOk [((.t 21), 0)]) .unit,
  .p (.pick 23 (.t 19) (.t 22) (.c (.bool false))) .unit,
  .p (.mv 24 (.t 23)) .unit,
  .g 24 true (some 25) (.fadr 25 (.t 1) 2) .unit,
  .g 24 true (some 26) (.load 26 (.t 25) 1 false) .unit,
  .g 24 true (some 27) (.bin 27 false .gtr (.t 26) (.c (.int .i64 0))) .unit,
  .g 24 true (some 28) (.mv 28 (.t 27)) .unit,
  .g 28 false (some 29) (.fadr 29 (.t 1) 3) .unit,
  .g 28 false (some 30) (.load 30 (.t 29) 1 false) .unit,
  .g 28 false (some 31) (.lenB 31 (.t 30)) .unit,
  .g 28 false (some 32) (.bin 32 false .eql (.t 31) (.c (.int .i64 0))) .unit,
  .g 24 true (some 33) (.pick 33 (.t 28) (.c (.bool true)) (.t 32)) .unit,
  .p (.pick 34 (.t 24) (.t 33) (.c (.bool false))) .unit,
  .p (.mv 2 (.t 34)) .unit])
 .ret)),
 35, 1, [.t 2]⟩
theorem m_spec_BundleOk : mH Try.prog 50 [] = some (F_spec_BundleOk.code.x, F_spec_BundleOk.N, F_spec_BundleOk.np, F_spec_BundleOk.res) := by kernel_rfl
noncomputable def T_spec_BundleOk : Int × Int × Int × List (Int × Int × Int × List UInt8) → Option (Bool) := evF [fn_spec_l01In, fn_spec_ItemsOk] F_spec_BundleOk [.agg (.pair (.int .i64) (.pair (.int .i64) (.pair (.int .i64) (.sl false (.pair (.int .i64) (.pair (.int .i64) (.pair (.int .i64) .str)))))))] [] [.cell .bool] []
noncomputable def fn_spec_BundleOk : TFn := ⟨50, [.agg (.pair (.int .i64) (.pair (.int .i64) (.pair (.int .i64) (.sl false (.pair (.int .i64) (.pair (.int .i64) (.pair (.int .i64) .str)))))))], [], [.cell .bool], [], T_spec_BundleOk⟩
theorem ok_spec_BundleOk : FnOk Try.prog fn_spec_BundleOk := evF_ok mixed (allOk_cons ok_spec_l01In (allOk_cons ok_spec_ItemsOk allOk_nil)) m_spec_BundleOk (by decide)
def F_spec_l05Byte : TF := ⟨(.seq (.reg none [.p (.mv 2 (.c (.string (ba [])))) .unit])
 (.seq (.reg none [.p (.mv 3 (.t 0)) .unit,
  .p (.cvi 4 .u8 .i64 (.t 3)) .unit,
  .p (.bldS 5 1 [(.lit (.int .u8 0))] [⟨0, 1, (.t 4)⟩]) (.int .u8),
  .p (.b2s 6 (.t 5)) .unit,
  .p (.mv 2 (.t 6)) .unit])
 .ret)),
 7, 1, [.t 2]⟩
theorem m_spec_l05Byte : mH Try.prog 105 [] = some (F_spec_l05Byte.code.x, F_spec_l05Byte.N, F_spec_l05Byte.np, F_spec_l05Byte.res) := by kernel_rfl
noncomputable def T_spec_l05Byte : Int → Option (List UInt8) := evF [] F_spec_l05Byte [.cell (.int .i64)] [] [.cell .str] []
noncomputable def fn_spec_l05Byte : TFn := ⟨105, [.cell (.int .i64)], [], [.cell .str], [], T_spec_l05Byte⟩
theorem ok_spec_l05Byte : FnOk Try.prog fn_spec_l05Byte := evF_ok mixed allOk_nil m_spec_l05Byte (by decide)
def B_spec_l01Var_1 : TC := (.seq (.seq (.reg none [.p (.mv 5 (.t 0)) .unit,
  .p (.bin 6 false .gtr (.t 5) (.c (.int .i64 127))) .unit])
 (.cond (.t 6) .skip (.exit 0)))
 (.block 1 (.seq (.reg none [.p (.mvT 7 3) .unit,
  .p (.mv 8 (.t 0)) .unit,
  .p (.bin 9 false .rem (.t 8) (.c (.int .i64 128))) .unit,
  .p (.bin 10 false .add (.t 9) (.c (.int .i64 128))) .unit,
  .p (.cvi 11 .u8 .i64 (.t 10)) .unit,
  .p (.bldS 12 1 [(.lit (.int .u8 0))] [⟨0, 1, (.t 11)⟩]) (.int .u8),
  .p (.app 13 1 1 (.t 7) (.t 12)) (.int .u8),
  .p (.mvT 3 13) .unit])
 (.reg none [.p (.mv 14 (.t 0)) .unit,
  .p (.bin 15 false .quo (.t 14) (.c (.int .i64 128))) .unit,
  .p (.mv 0 (.t 15)) .unit]))))
noncomputable def L_spec_l01Var_1 : Nat → (Int) × List (Int) → Option (((Int) × List (Int)) ⊕ (List UInt8)) := evL [] (finT [.t 2] [] [.cell .str]) 0 ⟨[(0, false), (3, false)], [.cell (.int .i64), .cell (.sl true (.int .u8))]⟩ ⟨[(0, false), (3, false)], [.cell (.int .i64), .cell (.sl true (.int .u8))]⟩ B_spec_l01Var_1
def F_spec_l01Var : TF := ⟨(.seq (.reg none [.p (.mv 2 (.c (.string (ba [])))) .unit])
 (.seq (.reg none [.p (.bldS 4 0 [(.lit (.int .u8 0))] []) (.int .u8),
  .p (.mvT 3 4) .unit])
 (.seq (.jl 0 ⟨[(0, false), (3, false)], [.cell (.int .i64), .cell (.sl true (.int .u8))]⟩ ⟨[(0, false), (3, false)], [.cell (.int .i64), .cell (.sl true (.int .u8))]⟩ B_spec_l01Var_1)
 (.seq (.reg none [.p (.mvT 16 3) .unit,
  .p (.mv 17 (.t 0)) .unit,
  .p (.cvi 18 .u8 .i64 (.t 17)) .unit,
  .p (.bldS 19 1 [(.lit (.int .u8 0))] [⟨0, 1, (.t 18)⟩]) (.int .u8),
  .p (.app 20 1 1 (.t 16) (.t 19)) (.int .u8),
  .p (.b2s 21 (.t 20)) .unit,
  .p (.mv 2 (.t 21)) .unit])
 .ret)))),
 22, 1, [.t 2]⟩
theorem m_spec_l01Var : mH Try.prog 106 [(1, 1, .t), (3, 0, .t), (3, 7, .t), (5, 0, .t)] = some (F_spec_l01Var.code.x, F_spec_l01Var.N, F_spec_l01Var.np, F_spec_l01Var.res) := by kernel_rfl
noncomputable def T_spec_l01Var : Int → Option (List UInt8) := evF [] F_spec_l01Var [.cell (.int .i64)] [] [.cell .str] []
noncomputable def fn_spec_l01Var : TFn := ⟨106, [.cell (.int .i64)], [], [.cell .str], [], T_spec_l01Var⟩
theorem ok_spec_l01Var : FnOk Try.prog fn_spec_l01Var := evF_ok mixed allOk_nil m_spec_l01Var (by decide)
def F_spec_l05Short : TF := ⟨(.seq (.reg none [.p (.mv 2 (.c (.string (ba [])))) .unit])
 (.seq (.reg none [.p (.mv 3 (.t 0)) .unit,
  .p (.lenS 4 (.t 3)) .unit,
  .p (.callB 5 n_spec_l01Var [((.t 4), 0)]) .unit,
  .p (.mv 6 (.t 0)) .unit,
  .p (.bin 7 false .add (.t 5) (.t 6)) .unit,
  .p (.mv 2 (.t 7)) .unit])
 .ret)),
 8, 1, [.t 2]⟩
theorem m_spec_l05Short : mH Try.prog 107 [] = some (F_spec_l05Short.code.x, F_spec_l05Short.N, F_spec_l05Short.np, F_spec_l05Short.res) := by kernel_rfl
noncomputable def T_spec_l05Short : List UInt8 → Option (List UInt8) := evF [fn_spec_l01Var] F_spec_l05Short [.cell .str] [] [.cell .str] []
noncomputable def fn_spec_l05Short : TFn := ⟨107, [.cell .str], [], [.cell .str], [], T_spec_l05Short⟩
theorem ok_spec_l05Short : FnOk Try.prog fn_spec_l05Short := evF_ok mixed (allOk_cons ok_spec_l01Var allOk_nil) m_spec_l05Short (by decide)
def F_spec_ItemText : TF := ⟨(.seq (.reg none [.p (.box 1 (.t 0)) .unit,
  .p (.mv 2 (.c (.string (ba [])))) .unit,
  .p (.mv 3 (.c (.bool false))) .unit])
 (.seq (.seq (.reg none [.p (.load 4 (.t 1) 4 true) .unit,
  .p (.callB 5 n_spec_ItemOk [((.t 4), 0)]) .unit,
  .p (.un 6 .not (.t 5)) .unit])
 (.cond (.t 6) (.seq (.reg none [.p (.mv 2 (.c (.string (ba [])))) .unit,
  .p (.mv 3 (.c (.bool false))) .unit])
 .ret) .skip))
 (.seq (.reg (some [[], [0], [1], [], [3], [4, 2], [2, 5], [], [7], [8, 5], [6, 9], [], [11], [12, 9], [10, 13], [14, 13, 0, 1, 2, 3, 4, 5, 6, 7, 8, 9, 10, 11, 12, 13, 14], [15, 0, 1, 2, 3, 4, 5, 6, 7, 8, 9, 10, 11, 12, 13, 14, 15]]) [.p (.fadr 7 (.t 1) 0) .unit,
  .p (.load 8 (.t 7) 1 false) .unit,
  .p (.callB 9 n_spec_l01Var [((.t 8), 0)]) .unit,
  .p (.fadr 10 (.t 1) 1) .unit,
  .p (.load 11 (.t 10) 1 false) .unit,
  .p (.callB 12 n_spec_l05Byte [((.t 11), 0)]) .unit,
  .p (.bin 13 false .add (.t 9) (.t 12)) .unit,
  .p (.fadr 14 (.t 1) 2) .unit,
  .p (.load 15 (.t 14) 1 false) .unit,
  .p (.callB 16 n_spec_l05Byte [((.t 15), 0)]) .unit,
  .p (.bin 17 false .add (.t 13) (.t 16)) .unit,
  .p (.fadr 18 (.t 1) 3) .unit,
  .p (.load 19 (.t 18) 1 false) .unit,
  .p (.callB 20 n_spec_l05Short [((.t 19), 0)]) .unit,
  .p (.bin 21 false .add (.t 17) (.t 20)) .unit,
  .p (.mv 2 (.t 21)) .unit,
  .p (.mv 3 (.c (.bool true))) .unit])
 .ret))),
 22, 1, [.t 2, .t 3]⟩
theorem m_spec_ItemText : mH Try.prog 69 [] = some (F_spec_ItemText.code.x, F_spec_ItemText.N, F_spec_ItemText.np, F_spec_ItemText.res) := by kernel_rfl
noncomputable def T_spec_ItemText : Int × Int × Int × List UInt8 → Option ((List UInt8) × Bool) := evF [fn_spec_ItemOk, fn_spec_l01Var, fn_spec_l05Byte, fn_spec_l05Short] F_spec_ItemText [.agg (.pair (.int .i64) (.pair (.int .i64) (.pair (.int .i64) .str)))] [] [.cell .str, .cell .bool] []
noncomputable def fn_spec_ItemText : TFn := ⟨69, [.agg (.pair (.int .i64) (.pair (.int .i64) (.pair (.int .i64) .str)))], [], [.cell .str, .cell .bool], [], T_spec_ItemText⟩
theorem ok_spec_ItemText : FnOk Try.prog fn_spec_ItemText := evF_ok mixed (allOk_cons ok_spec_ItemOk (allOk_cons ok_spec_l01Var (allOk_cons ok_spec_l05Byte (allOk_cons ok_spec_l05Short allOk_nil)))) m_spec_ItemText (by decide)
def B_spec_SumMore_1 : TC := (.seq (.seq (.reg none [.p (.mv 20 (.t 6)) .unit,
  .p (.bin 21 false .lss (.t 20) (.c (.int .i64 8))) .unit])
 (.cond (.t 21) .skip (.exit 2)))
 (.seq (.join ⟨[(0, false), (1, true), (5, false), (6, false)], [.cell (.int .u32), .cell .str, .cell (.int .i64), .cell (.int .i64)]⟩ (.block 3 (.seq (.reg none [.p (.mv 24 (.t 0)) .unit,
  .p (.bin 25 false .rem (.t 24) (.c (.int .u32 2))) .unit,
  .p (.bin 26 false .eql (.t 25) (.c (.int .u32 1))) .unit,
  .p (.mv 7 (.t 26)) .unit])
 (.seq (.reg none [.p (.mv 27 (.t 0)) .unit,
  .p (.bin 28 false .quo (.t 27) (.c (.int .u32 2))) .unit,
  .p (.mv 0 (.t 28)) .unit])
 (.seq (.reg none [.p (.mv 29 (.t 7)) .unit])
 (.cond (.t 29) (.reg none [.p (.mv 30 (.t 0)) .unit,
  .p (.bin 31 false .xor (.t 30) (.c (.int .u32 3558460437))) .unit,
  .p (.mv 0 (.t 31)) .unit]) .skip))))))
 (.reg none [.p (.mv 22 (.t 6)) .unit,
  .p (.bin 23 false .add (.t 22) (.c (.int .i64 1))) .unit,
  .p (.mv 6 (.t 23)) .unit])))
noncomputable def L_spec_SumMore_1 : Nat → (Int) × (List UInt8) × (Int) × Int → Option (((Int) × (List UInt8) × Int) ⊕ (Int)) := evL [] (finT [.t 4] [] [.cell (.int .u32)]) 2 ⟨[(0, false), (1, true), (5, false), (6, false)], [.cell (.int .u32), .cell .str, .cell (.int .i64), .cell (.int .i64)]⟩ ⟨[(0, false), (1, true), (5, false)], [.cell (.int .u32), .cell .str, .cell (.int .i64)]⟩ B_spec_SumMore_1
def B_spec_SumMore_2 : TC := (.seq (.seq (.reg none [.p (.mv 8 (.t 5)) .unit,
  .p (.mv 9 (.t 1)) .unit,
  .p (.lenS 10 (.t 9)) .unit,
  .p (.bin 11 false .lss (.t 8) (.t 10)) .unit])
 (.cond (.t 11) .skip (.exit 0)))
 (.seq (.block 1 (.seq (.reg none [.p (.mv 14 (.t 0)) .unit,
  .p (.mv 15 (.t 1)) .unit,
  .p (.mv 16 (.t 5)) .unit,
  .p (.idx 17 (.t 15) (.t 16)) .unit,
  .p (.cvi 18 .u32 .u8 (.t 17)) .unit,
  .p (.bin 19 false .xor (.t 14) (.t 18)) .unit,
  .p (.mv 0 (.t 19)) .unit])
 (.seq (.reg none [.p (.mv 6 (.c (.int .i64 0))) .unit])
 (.jl 2 ⟨[(0, false), (1, true), (5, false), (6, false)], [.cell (.int .u32), .cell .str, .cell (.int .i64), .cell (.int .i64)]⟩ ⟨[(0, false), (1, true), (5, false)], [.cell (.int .u32), .cell .str, .cell (.int .i64)]⟩ B_spec_SumMore_1))))
 (.reg none [.p (.mv 12 (.t 5)) .unit,
  .p (.bin 13 false .add (.t 12) (.c (.int .i64 1))) .unit,
  .p (.mv 5 (.t 13)) .unit])))
noncomputable def L_spec_SumMore_2 : Nat → (Int) × (List UInt8) × Int → Option ((Int) ⊕ (Int)) := evL [] (finT [.t 4] [] [.cell (.int .u32)]) 0 ⟨[(0, false), (1, true), (5, false)], [.cell (.int .u32), .cell .str, .cell (.int .i64)]⟩ ⟨[(0, false)], [.cell (.int .u32)]⟩ B_spec_SumMore_2
def F_spec_SumMore : TF := ⟨(.seq (.reg none [.p (.mv 4 (.c (.int .u32 0))) .unit])
 (.seq (.seq (.reg none [.p (.mv 5 (.c (.int .i64 0))) .unit])
 (.jl 0 ⟨[(0, false), (1, true), (5, false)], [.cell (.int .u32), .cell .str, .cell (.int .i64)]⟩ ⟨[(0, false)], [.cell (.int .u32)]⟩ B_spec_SumMore_2))
 (.seq (.reg none [.p (.mv 32 (.t 0)) .unit,
  .p (.mv 4 (.t 32)) .unit])
 .ret))),
 33, 2, [.t 4]⟩
theorem m_spec_SumMore : mH Try.prog 159 [] = some (F_spec_SumMore.code.x, F_spec_SumMore.N, F_spec_SumMore.np, F_spec_SumMore.res) := by kernel_rfl
noncomputable def T_spec_SumMore : (Int) × List UInt8 → Option (Int) := evF [] F_spec_SumMore [.cell (.int .u32), .cell .str] [] [.cell (.int .u32)] []
noncomputable def fn_spec_SumMore : TFn := ⟨159, [.cell (.int .u32), .cell .str], [], [.cell (.int .u32)], [], T_spec_SumMore⟩
theorem ok_spec_SumMore : FnOk Try.prog fn_spec_SumMore := evF_ok mixed allOk_nil m_spec_SumMore (by decide)
def F_spec_SumOf : TF := ⟨(.seq (.reg none [.p (.mv 2 (.c (.int .u32 0))) .unit])
 (.seq (.reg none [.p (.mv 3 (.t 0)) .unit,
  .p (.callB 4 n_spec_SumMore [((.c (.int .u32 4294967295)), 0), ((.t 3), 0)]) .unit,
  .p (.mv 2 (.t 4)) .unit])
 .ret)),
 5, 1, [.t 2]⟩
theorem m_spec_SumOf : mH Try.prog 133 [] = some (F_spec_SumOf.code.x, F_spec_SumOf.N, F_spec_SumOf.np, F_spec_SumOf.res) := by kernel_rfl
noncomputable def T_spec_SumOf : List UInt8 → Option (Int) := evF [fn_spec_SumMore] F_spec_SumOf [.cell .str] [] [.cell (.int .u32)] []
noncomputable def fn_spec_SumOf : TFn := ⟨133, [.cell .str], [], [.cell (.int .u32)], [], T_spec_SumOf⟩
theorem ok_spec_SumOf : FnOk Try.prog fn_spec_SumOf := evF_ok mixed (allOk_cons ok_spec_SumMore allOk_nil) m_spec_SumOf (by decide)
def F_spec_l02Four : TF := ⟨(.seq (.reg none [.p (.mv 2 (.c (.string (ba [])))) .unit])
 (.seq (.reg none [.p (.mv 3 (.t 0)) .unit,
  .p (.bin 4 false .shr (.t 3) (.c (.int .u64 24))) .unit,
  .p (.cvi 5 .u8 .u32 (.t 4)) .unit,
  .p (.mv 6 (.t 0)) .unit,
  .p (.bin 7 false .shr (.t 6) (.c (.int .u64 16))) .unit,
  .p (.cvi 8 .u8 .u32 (.t 7)) .unit,
  .p (.mv 9 (.t 0)) .unit,
  .p (.bin 10 false .shr (.t 9) (.c (.int .u64 8))) .unit,
  .p (.cvi 11 .u8 .u32 (.t 10)) .unit,
  .p (.mv 12 (.t 0)) .unit,
  .p (.cvi 13 .u8 .u32 (.t 12)) .unit,
  .p (.bldS 14 4 [(.lit (.int .u8 0))] [⟨0, 1, (.t 5)⟩, ⟨1, 1, (.t 8)⟩, ⟨2, 1, (.t 11)⟩, ⟨3, 1, (.t 13)⟩]) (.int .u8),
  .p (.b2s 15 (.t 14)) .unit,
  .p (.mv 2 (.t 15)) .unit])
 .ret)),
 16, 1, [.t 2]⟩
theorem m_spec_l02Four : mH Try.prog 132 [] = some (F_spec_l02Four.code.x, F_spec_l02Four.N, F_spec_l02Four.np, F_spec_l02Four.res) := by kernel_rfl
noncomputable def T_spec_l02Four : Int → Option (List UInt8) := evF [] F_spec_l02Four [.cell (.int .u32)] [] [.cell .str] []
noncomputable def fn_spec_l02Four : TFn := ⟨132, [.cell (.int .u32)], [], [.cell .str], [], T_spec_l02Four⟩
theorem ok_spec_l02Four : FnOk Try.prog fn_spec_l02Four := evF_ok mixed allOk_nil m_spec_l02Four (by decide)
def F_spec_Sealed : TF := ⟨(.seq (.reg none [.p (.mv 2 (.c (.string (ba [])))) .unit,
  .p (.mv 3 (.c (.bool false))) .unit])
 (.seq (.seq (.reg none [.p (.mv 4 (.t 0)) .unit,
  .p (.lenS 5 (.t 4)) .unit,
  .p (.bin 6 false .gtr (.t 5) (.c (.int .i64 20000))) .unit])
 (.cond (.t 6) (.seq (.reg none [.p (.mv 2 (.c (.string (ba [])))) .unit,
  .p (.mv 3 (.c (.bool false))) .unit])
 .ret) .skip))
 (.seq (.reg none [.p (.mv 7 (.t 0)) .unit,
  .p (.mv 8 (.t 0)) .unit,
  .p (.callB 9 n_spec_SumOf [((.t 8), 0)]) .unit,
  .p (.callB 10 n_spec_l02Four [((.t 9), 0)]) .unit,
  .p (.bin 11 false .add (.t 7) (.t 10)) .unit,
  .p (.mv 2 (.t 11)) .unit,
  .p (.mv 3 (.c (.bool true))) .unit])
 .ret))),
 12, 1, [.t 2, .t 3]⟩
theorem m_spec_Sealed : mH Try.prog 96 [] = some (F_spec_Sealed.code.x, F_spec_Sealed.N, F_spec_Sealed.np, F_spec_Sealed.res) := by kernel_rfl
noncomputable def T_spec_Sealed : List UInt8 → Option ((List UInt8) × Bool) := evF [fn_spec_SumOf, fn_spec_l02Four] F_spec_Sealed [.cell .str] [] [.cell .str, .cell .bool] []
noncomputable def fn_spec_Sealed : TFn := ⟨96, [.cell .str], [], [.cell .str, .cell .bool], [], T_spec_Sealed⟩
theorem ok_spec_Sealed : FnOk Try.prog fn_spec_Sealed := evF_ok mixed (allOk_cons ok_spec_SumOf (allOk_cons ok_spec_l02Four allOk_nil)) m_spec_Sealed (by decide)
def B_spec_BundleText_1 : TC := (.seq (.seq (.reg none [.p (.mv 28 (.t 5)) .unit,
  .p (.fadr 29 (.t 1) 3) .unit,
  .p (.load 30 (.t 29) 1 false) .unit,
  .p (.lenB 31 (.t 30)) .unit,
  .p (.bin 32 false .lss (.t 28) (.t 31)) .unit])
 (.cond (.t 32) .skip (.exit 0)))
 (.seq (.block 1 (.seq (.reg none [.p (.fadr 36 (.t 1) 3) .unit,
  .p (.load 37 (.t 36) 1 false) .unit,
  .p (.mv 38 (.t 5)) .unit,
  .p (.iadr 39 4 (.t 37) (.t 38)) .unit,
  .p (.load 40 (.t 39) 4 true) .unit,
  .p (.callB 41 n_spec_ItemText [((.t 40), 0)]) .unit,
  .p (.mv 35 (.t 41)) .unit,
  .p (.ext 42 (.t 35) 0) .unit,
  .p (.ext 43 (.t 35) 1) .unit,
  .p (.mv 6 (.t 42)) .unit,
  .p (.mv 7 (.t 43)) .unit])
 (.reg none [.p (.mvT 44 4) .unit,
  .p (.mv 45 (.t 6)) .unit,
  .p (.callB 46 n_spec_l05Short [((.t 45), 0)]) .unit,
  .p (.s2b 47 (.t 46)) .unit,
  .p (.app 48 1 1 (.t 44) (.t 47)) (.int .u8),
  .p (.mvT 4 48) .unit])))
 (.reg none [.p (.mv 33 (.t 5)) .unit,
  .p (.bin 34 false .add (.t 33) (.c (.int .i64 1))) .unit,
  .p (.mv 5 (.t 34)) .unit])))
noncomputable def L_spec_BundleText_1 : Nat → (Int × Int × Int × List (Int × Int × Int × List UInt8)) × (List (Int)) × Int → Option ((List (Int)) ⊕ ((List UInt8) × Bool)) := evL [fn_spec_BundleOk, fn_spec_l05Byte, fn_spec_l01Var, fn_spec_ItemText, fn_spec_l05Short, fn_spec_Sealed] (finT [.t 2, .t 3] [] [.cell .str, .cell .bool]) 0 ⟨[(1, false), (4, false), (5, false)], [.box (.pair (.int .i64) (.pair (.int .i64) (.pair (.int .i64) (.sl false (.pair (.int .i64) (.pair (.int .i64) (.pair (.int .i64) .str))))))), .cell (.sl true (.int .u8)), .cell (.int .i64)]⟩ ⟨[(4, false)], [.cell (.sl true (.int .u8))]⟩ B_spec_BundleText_1
def F_spec_BundleText : TF := ⟨(.seq (.reg none [.p (.box 1 (.t 0)) .unit,
  .p (.mv 2 (.c (.string (ba [])))) .unit,
  .p (.mv 3 (.c (.bool false))) .unit])
 (.seq (.seq (.reg none [.p (.load 8 (.t 1) 4 true) .unit,
  .p (.callB 9 n_spec_BundleOk [((.t 8), 0)]) .unit,
  .p (.un 10 .not (.t 9)) .unit])
 (.cond (.t 10) (.seq (.reg none [.p (.mv 2 (.c (.string (ba [])))) .unit,
  .p (.mv 3 (.c (.bool false))) .unit])
 .ret) .skip))
 (.seq (.reg (some [[], [0], [1], [], [3], [4, 2], [2, 5], [], [7], [8, 5], [6, 9], [], [11], [12], [13, 9], [10, 14], [15], [16, 14, 0, 1, 2, 3, 4, 5, 6, 7, 8, 9, 10, 11, 12, 13, 14, 15, 16]]) [.p (.fadr 11 (.t 1) 0) .unit,
  .p (.load 12 (.t 11) 1 false) .unit,
  .p (.callB 13 n_spec_l05Byte [((.t 12), 0)]) .unit,
  .p (.fadr 14 (.t 1) 1) .unit,
  .p (.load 15 (.t 14) 1 false) .unit,
  .p (.callB 16 n_spec_l05Byte [((.t 15), 0)]) .unit,
  .p (.bin 17 false .add (.t 13) (.t 16)) .unit,
  .p (.fadr 18 (.t 1) 2) .unit,
  .p (.load 19 (.t 18) 1 false) .unit,
  .p (.callB 20 n_spec_l05Byte [((.t 19), 0)]) .unit,
  .p (.bin 21 false .add (.t 17) (.t 20)) .unit,
  .p (.fadr 22 (.t 1) 3) .unit,
  .p (.load 23 (.t 22) 1 false) .unit,
  .p (.lenB 24 (.t 23)) .unit,
  .p (.callB 25 n_spec_l01Var [((.t 24), 0)]) .unit,
  .p (.bin 26 false .add (.t 21) (.t 25)) .unit,
  .p (.s2b 27 (.t 26)) .unit,
  .p (.mvT 4 27) .unit])
 (.seq (.seq (.reg none [.p (.mv 5 (.c (.int .i64 0))) .unit])
 (.jl 0 ⟨[(1, false), (4, false), (5, false)], [.box (.pair (.int .i64) (.pair (.int .i64) (.pair (.int .i64) (.sl false (.pair (.int .i64) (.pair (.int .i64) (.pair (.int .i64) .str))))))), .cell (.sl true (.int .u8)), .cell (.int .i64)]⟩ ⟨[(4, false)], [.cell (.sl true (.int .u8))]⟩ B_spec_BundleText_1))
 (.seq (.seq (.reg none [.p (.mvA 49 4) .unit,
  .p (.lenB 50 (.t 49)) .unit,
  .p (.bin 51 false .add (.t 50) (.c (.int .i64 4))) .unit,
  .p (.bin 52 false .gtr (.t 51) (.c (.int .i64 20000))) .unit])
 (.cond (.t 52) (.seq (.reg none [.p (.mv 2 (.c (.string (ba [])))) .unit,
  .p (.mv 3 (.c (.bool false))) .unit])
 .ret) .skip))
 (.seq (.reg none [.p (.mvT 53 4) .unit,
  .p (.b2s 54 (.t 53)) .unit,
  .p (.callB 55 n_spec_Sealed [((.t 54), 0)]) .unit,
  .p (.ext 56 (.t 55) 0) .unit,
  .p (.ext 57 (.t 55) 1) .unit,
  .p (.mv 2 (.t 56)) .unit,
  .p (.mv 3 (.t 57)) .unit])
 .ret)))))),
 58, 1, [.t 2, .t 3]⟩
theorem m_spec_BundleText : mH Try.prog 48 [(3, 17, .t), (8, 0, .t), (8, 5, .t), (9, 0, .v), (11, 0, .t)] = some (F_spec_BundleText.code.x, F_spec_BundleText.N, F_spec_BundleText.np, F_spec_BundleText.res) := by kernel_rfl
noncomputable def T_spec_BundleText : Int × Int × Int × List (Int × Int × Int × List UInt8) → Option ((List UInt8) × Bool) := evF [fn_spec_BundleOk, fn_spec_l05Byte, fn_spec_l01Var, fn_spec_ItemText, fn_spec_l05Short, fn_spec_Sealed] F_spec_BundleText [.agg (.pair (.int .i64) (.pair (.int .i64) (.pair (.int .i64) (.sl false (.pair (.int .i64) (.pair (.int .i64) (.pair (.int .i64) .str)))))))] [] [.cell .str, .cell .bool] []
noncomputable def fn_spec_BundleText : TFn := ⟨48, [.agg (.pair (.int .i64) (.pair (.int .i64) (.pair (.int .i64) (.sl false (.pair (.int .i64) (.pair (.int .i64) (.pair (.int .i64) .str)))))))], [], [.cell .str, .cell .bool], [], T_spec_BundleText⟩
theorem ok_spec_BundleText : FnOk Try.prog fn_spec_BundleText := evF_ok mixed (allOk_cons ok_spec_BundleOk (allOk_cons ok_spec_l05Byte (allOk_cons ok_spec_l01Var (allOk_cons ok_spec_ItemText (allOk_cons ok_spec_l05Short (allOk_cons ok_spec_Sealed allOk_nil)))))) m_spec_BundleText (by decide)
def B_laws_sameItems_1 : TC := (.seq (.seq (.reg none [.p (.mv 11 (.t 5)) .unit,
  .p (.mv 12 (.t 0)) .unit,
  .p (.lenB 13 (.t 12)) .unit,
  .p (.bin 14 false .lss (.t 11) (.t 13)) .unit])
 (.cond (.t 14) .skip (.exit 0)))
 (.seq (.block 1 (.seq (.reg (some [[], [], [0, 1], [2], [], [], [4, 5], [6], [3, 7]]) [.p (.mv 17 (.t 0)) .unit,
  .p (.mv 18 (.t 5)) .unit,
  .p (.iadr 19 4 (.t 17) (.t 18)) .unit,
  .p (.load 20 (.t 19) 4 true) .unit,
  .p (.mv 21 (.t 1)) .unit,
  .p (.mv 22 (.t 5)) .unit,
  .p (.iadr 23 4 (.t 21) (.t 22)) .unit,
  .p (.load 24 (.t 23) 4 true) .unit,
  .p (.eqA 25 true [0, 0, 0, 1] (.t 20) (.t 24)) .unit])
 (.cond (.t 25) (.seq (.reg none [.p (.mv 4 (.c (.bool false))) .unit])
 .ret) .skip)))
 (.reg none [.p (.mv 15 (.t 5)) .unit,
  .p (.bin 16 false .add (.t 15) (.c (.int .i64 1))) .unit,
  .p (.mv 5 (.t 16)) .unit])))
noncomputable def L_laws_sameItems_1 : Nat → (List (Int × Int × Int × List UInt8)) × (List (Int × Int × Int × List UInt8)) × Int → Option ((Unit) ⊕ (Bool)) := evL [] (finT [.t 4] [] [.cell .bool]) 0 ⟨[(0, true), (1, true), (5, false)], [.cell (.sl false (.pair (.int .i64) (.pair (.int .i64) (.pair (.int .i64) .str)))), .cell (.sl false (.pair (.int .i64) (.pair (.int .i64) (.pair (.int .i64) .str)))), .cell (.int .i64)]⟩ ⟨[], []⟩ B_laws_sameItems_1
def F_laws_sameItems : TF := ⟨(.seq (.reg none [.p (.mv 4 (.c (.bool false))) .unit])
 (.seq (.seq (.reg none [.p (.mv 6 (.t 0)) .unit,
  .p (.lenB 7 (.t 6)) .unit,
  .p (.mv 8 (.t 1)) .unit,
  .p (.lenB 9 (.t 8)) .unit,
  .p (.bin 10 false .neq (.t 7) (.t 9)) .unit])
 (.cond (.t 10) (.seq (.reg none [.p (.mv 4 (.c (.bool false))) .unit])
 .ret) .skip))
 (.seq (.seq (.reg none [.p (.mv 5 (.c (.int .i64 0))) .unit])
 (.jl 0 ⟨[(0, true), (1, true), (5, false)], [.cell (.sl false (.pair (.int .i64) (.pair (.int .i64) (.pair (.int .i64) .str)))), .cell (.sl false (.pair (.int .i64) (.pair (.int .i64) (.pair (.int .i64) .str)))), .cell (.int .i64)]⟩ ⟨[], []⟩ B_laws_sameItems_1))
 (.seq (.reg none [.p (.mv 4 (.c (.bool true))) .unit])
 .ret)))),
 26, 2, [.t 4]⟩
theorem m_laws_sameItems : mH Try.prog 51 [] = some (F_laws_sameItems.code.x, F_laws_sameItems.N, F_laws_sameItems.np, F_laws_sameItems.res) := by kernel_rfl
noncomputable def T_laws_sameItems : (List (Int × Int × Int × List UInt8)) × List (Int × Int × Int × List UInt8) → Option (Bool) := evF [] F_laws_sameItems [.cell (.sl false (.pair (.int .i64) (.pair (.int .i64) (.pair (.int .i64) .str)))), .cell (.sl false (.pair (.int .i64) (.pair (.int .i64) (.pair (.int .i64) .str))))] [] [.cell .bool] []
noncomputable def fn_laws_sameItems : TFn := ⟨51, [.cell (.sl false (.pair (.int .i64) (.pair (.int .i64) (.pair (.int .i64) .str)))), .cell (.sl false (.pair (.int .i64) (.pair (.int .i64) (.pair (.int .i64) .str))))], [], [.cell .bool], [], T_laws_sameItems⟩
theorem ok_laws_sameItems : FnOk Try.prog fn_laws_sameItems := evF_ok mixed allOk_nil m_laws_sameItems (by decide)
def F_spec_Unsealed : TF := ⟨(.seq (.reg none [.p (.mv 2 (.c (.string (ba [])))) .unit,
  .p (.mv 3 (.c (.bool false))) .unit])
 (.seq (.reg none [.p (.mv 5 (.t 0)) .unit,
  .p (.lenS 6 (.t 5)) .unit,
  .p (.bin 7 false .sub (.t 6) (.c (.int .i64 4))) .unit,
  .p (.mv 4 (.t 7)) .unit])
 (.seq (.seq (.join ⟨[(0, true), (4, false), (24, false)], [.cell .str, .cell (.int .i64), .cell .bool]⟩ (.reg (some [[], [0], [1], [2], [3, 2], [2, 4], [5, 2], [6], [6], [7, 8, 6], [6], [6], [10, 11, 6], [12, 6, 6], [13, 13, 6], [9, 14, 6], [6, 15]]) [.p (.mv 8 (.t 4)) .unit,
  .p (.bin 9 false .lss (.t 8) (.c (.int .i64 0))) .unit,
  .p (.mv 10 (.t 9)) .unit,
  .g 10 false (some 11) (.mv 11 (.t 4)) .unit,
  .g 10 false (some 12) (.bin 12 false .gtr (.t 11) (.c (.int .i64 20000))) .unit,
  .p (.pick 13 (.t 10) (.c (.bool true)) (.t 12)) .unit,
  .p (.mv 14 (.t 13)) .unit,
  .g 14 false (some 15) (.mv 15 (.t 0)) .unit,
  .g 14 false (some 16) (.mv 16 (.t 4)) .unit,
  .g 14 false (some 17) (.slcS 17 (.t 15) (some (.t 16)) none) .unit,
  .g 14 false (some 18) (.mv 18 (.t 0)) .unit,
  .g 14 false (some 19) (.mv 19 (.t 4)) .unit,
  .g 14 false (some 20) (.slcS 20 (.t 18) none (some (.t 19))) .unit,
  .g 14 false (some 21) (.callB 21 n_spec_SumOf [((.t 20), 0)]) .unit,
  .g 14 false (some 22) (.callB 22 n_spec_l02Four [((.t 21), 0)]) .unit,
  .g 14 false (some 23) (.bin 23 false .neq (.t 17) (.t 22)) .unit,
  .p (.pick 24 (.t 14) (.c (.bool true)) (.t 23)) .unit]))
 (.cond (.t 24) (.seq (.reg none [.p (.mv 2 (.c (.string (ba [])))) .unit,
  .p (.mv 3 (.c (.bool false))) .unit])
 .ret) .skip))
 (.seq (.reg none [.p (.mv 25 (.t 0)) .unit,
  .p (.mv 26 (.t 4)) .unit,
  .p (.slcS 27 (.t 25) none (some (.t 26))) .unit,
  .p (.mv 2 (.t 27)) .unit,
  .p (.mv 3 (.c (.bool true))) .unit])
 .ret)))),
 28, 1, [.t 2, .t 3]⟩
theorem m_spec_Unsealed : mH Try.prog 74 [] = some (F_spec_Unsealed.code.x, F_spec_Unsealed.N, F_spec_Unsealed.np, F_spec_Unsealed.res) := by kernel_rfl
noncomputable def T_spec_Unsealed : List UInt8 → Option ((List UInt8) × Bool) := evF [fn_spec_SumOf, fn_spec_l02Four] F_spec_Unsealed [.cell .str] [] [.cell .str, .cell .bool] []
noncomputable def fn_spec_Unsealed : TFn := ⟨74, [.cell .str], [], [.cell .str, .cell .bool], [], T_spec_Unsealed⟩
theorem ok_spec_Unsealed : FnOk Try.prog fn_spec_Unsealed := evF_ok mixed (allOk_cons ok_spec_SumOf (allOk_cons ok_spec_l02Four allOk_nil)) m_spec_Unsealed (by decide)
def B_spec_l01Text_1 : TC := (.seq (.seq (.reg none [.p (.mv 10 (.t 6)) .unit,
  .p (.mv 11 (.t 1)) .unit,
  .p (.bin 12 false .lss (.t 10) (.t 11)) .unit])
 (.cond (.t 12) .skip (.exit 0)))
 (.seq (.block 1 (.reg none [.p (.mvT 15 5) .unit,
  .p (.mvA 16 0) .unit,
  .p (.callM 17 n_spec_l01Byte [] (.ptrS (.t 16) 0) []) .unit,
  .p (.cvi 18 .u8 .i64 (.t 17)) .unit,
  .p (.bldS 19 1 [(.lit (.int .u8 0))] [⟨0, 1, (.t 18)⟩]) (.int .u8),
  .p (.app 20 1 1 (.t 15) (.t 19)) (.int .u8),
  .p (.mvT 5 20) .unit]))
 (.reg none [.p (.mv 13 (.t 6)) .unit,
  .p (.bin 14 false .add (.t 13) (.c (.int .i64 1))) .unit,
  .p (.mv 6 (.t 14)) .unit])))
noncomputable def L_spec_l01Text_1 : Nat → (List (Int) × Int × Int) × (Int) × (List (Int)) × Int → Option (((List (Int) × Int × Int) × List (Int)) ⊕ ((List UInt8) × List (Int) × Int × Int)) := evL [fn_spec_l01Byte] (finT [.t 4] [0] [.cell .str, .box (.pair (.sl false (.int .u8)) (.pair (.int .i64) (.int .i64)))]) 0 ⟨[(0, true), (1, false), (5, false), (6, false)], [.box (.pair (.sl false (.int .u8)) (.pair (.int .i64) (.int .i64))), .cell (.int .i64), .cell (.sl true (.int .u8)), .cell (.int .i64)]⟩ ⟨[(0, true), (5, false)], [.box (.pair (.sl false (.int .u8)) (.pair (.int .i64) (.int .i64))), .cell (.sl true (.int .u8))]⟩ B_spec_l01Text_1
def F_spec_l01Text : TF := ⟨(.seq (.reg none [.p (.mv 4 (.c (.string (ba [])))) .unit])
 (.seq (.join ⟨[(0, true), (1, false)], [.box (.pair (.sl false (.int .u8)) (.pair (.int .i64) (.int .i64))), .cell (.int .i64)]⟩ (.seq (.reg none [.p (.mv 7 (.t 1)) .unit,
  .p (.bin 8 false .gtr (.t 7) (.c (.int .i64 5000))) .unit])
 (.cond (.t 8) (.reg none [.p (.mv 1 (.c (.int .i64 5000))) .unit]) .skip)))
 (.seq (.reg none [.p (.bldS 9 0 [(.lit (.int .u8 0))] []) (.int .u8),
  .p (.mvT 5 9) .unit])
 (.seq (.seq (.reg none [.p (.mv 6 (.c (.int .i64 0))) .unit])
 (.jl 0 ⟨[(0, true), (1, false), (5, false), (6, false)], [.box (.pair (.sl false (.int .u8)) (.pair (.int .i64) (.int .i64))), .cell (.int .i64), .cell (.sl true (.int .u8)), .cell (.int .i64)]⟩ ⟨[(0, true), (5, false)], [.box (.pair (.sl false (.int .u8)) (.pair (.int .i64) (.int .i64))), .cell (.sl true (.int .u8))]⟩ B_spec_l01Text_1))
 (.seq (.reg none [.p (.mvT 21 5) .unit,
  .p (.b2s 22 (.t 21)) .unit,
  .p (.mv 4 (.t 22)) .unit])
 .ret))))),
 23, 2, [.t 4]⟩
theorem m_spec_l01Text : mH Try.prog 129 [(3, 1, .t), (7, 0, .t), (7, 1, .v), (7, 2, (.ps 0 0)), (7, 6, .t), (8, 0, .t)] = some (F_spec_l01Text.code.x, F_spec_l01Text.N, F_spec_l01Text.np, F_spec_l01Text.res) := by kernel_rfl
noncomputable def T_spec_l01Text : (List (Int) × Int × Int) × Int → Option ((List UInt8) × List (Int) × Int × Int) := evF [fn_spec_l01Byte] F_spec_l01Text [.box (.pair (.sl false (.int .u8)) (.pair (.int .i64) (.int .i64))), .cell (.int .i64)] [0] [.cell .str] [.box (.pair (.sl false (.int .u8)) (.pair (.int .i64) (.int .i64)))]
noncomputable def fn_spec_l01Text : TFn := ⟨129, [.box (.pair (.sl false (.int .u8)) (.pair (.int .i64) (.int .i64))), .cell (.int .i64)], [0], [.cell .str], [.box (.pair (.sl false (.int .u8)) (.pair (.int .i64) (.int .i64)))], T_spec_l01Text⟩
theorem ok_spec_l01Text : FnOk Try.prog fn_spec_l01Text := evF_ok mixed (allOk_cons ok_spec_l01Byte allOk_nil) m_spec_l01Text (by decide)
def F_spec_l02Spoilt : TF := ⟨(.seq (.reg none [.p (.mv 4 (.c (.string (ba [])))) .unit])
 (.seq (.join ⟨[(0, true), (1, true)], [.box (.pair (.sl false (.int .u8)) (.pair (.int .i64) (.int .i64))), .cell .str]⟩ (.seq (.reg none [.p (.mvA 6 0) .unit,
  .p (.callM 7 n_spec_l01Below [] (.ptrS (.t 6) 0) [((.c (.int .i64 12)), 0)]) .unit])
 (.block 0 (.seq (.reg none [.p (.bin 9 false .eql (.t 7) (.c (.int .i64 0))) .unit,
  .p (.mv 8 (.t 9)) .unit])
 (.cond (.t 8) (.seq (.reg none [.p (.mv 10 (.t 1)) .unit,
  .p (.mvA 11 0) .unit,
  .p (.callM 12 n_spec_l01Text [] (.ptrS (.t 11) 0) [((.c (.int .i64 1)), 0)]) .unit,
  .p (.bin 13 false .add (.t 10) (.t 12)) .unit,
  .p (.mv 4 (.t 13)) .unit])
 .ret) (.seq (.reg none [.p (.bin 15 false .eql (.t 7) (.c (.int .i64 1))) .unit,
  .p (.mv 14 (.t 15)) .unit])
 (.cond (.t 14) (.seq (.reg none [.p (.mv 16 (.t 1)) .unit,
  .p (.mvA 17 0) .unit,
  .p (.mv 18 (.t 1)) .unit,
  .p (.lenS 19 (.t 18)) .unit,
  .p (.bin 20 false .add (.t 19) (.c (.int .i64 1))) .unit,
  .p (.callM 21 n_spec_l01Below [] (.ptrS (.t 17) 0) [((.t 20), 0)]) .unit,
  .p (.slcS 22 (.t 16) none (some (.t 21))) .unit,
  .p (.mv 4 (.t 22)) .unit])
 .ret) (.seq (.join ⟨[(0, true), (1, true), (23, false)], [.box (.pair (.sl false (.int .u8)) (.pair (.int .i64) (.int .i64))), .cell .str, .cell .bool]⟩ (.seq (.reg none [.p (.bin 24 false .eql (.t 7) (.c (.int .i64 2))) .unit,
  .p (.mv 23 (.t 24)) .unit])
 (.cond (.t 23) .skip (.reg none [.p (.bin 25 false .eql (.t 7) (.c (.int .i64 3))) .unit,
  .p (.mv 23 (.t 25)) .unit]))))
 (.cond (.t 23) (.seq (.reg none [.p (.mv 26 (.t 1)) .unit,
  .p (.lenS 27 (.t 26)) .unit,
  .p (.bin 28 false .gtr (.t 27) (.c (.int .i64 0))) .unit])
 (.cond (.t 28) (.seq (.reg none [.p (.mvA 29 0) .unit,
  .p (.mv 30 (.t 1)) .unit,
  .p (.lenS 31 (.t 30)) .unit,
  .p (.callM 32 n_spec_l01Below [] (.ptrS (.t 29) 0) [((.t 31), 0)]) .unit,
  .p (.mv 5 (.t 32)) .unit])
 (.seq (.reg (some [[], [], [0, 1], [], [3], [2, 4], [], [], [7], [6, 8], [5, 9], [10, 4, 0, 1, 2, 3, 4, 5, 6, 7, 8, 9, 10]]) [.p (.mv 33 (.t 1)) .unit,
  .p (.mv 34 (.t 5)) .unit,
  .p (.slcS 35 (.t 33) none (some (.t 34))) .unit,
  .p (.mvA 36 0) .unit,
  .p (.callM 37 n_spec_l01Text [] (.ptrS (.t 36) 0) [((.c (.int .i64 1)), 0)]) .unit,
  .p (.bin 38 false .add (.t 35) (.t 37)) .unit,
  .p (.mv 39 (.t 1)) .unit,
  .p (.mv 40 (.t 5)) .unit,
  .p (.bin 41 false .add (.t 40) (.c (.int .i64 1))) .unit,
  .p (.slcS 42 (.t 39) (some (.t 41)) none) .unit,
  .p (.bin 43 false .add (.t 38) (.t 42)) .unit,
  .p (.mv 4 (.t 43)) .unit])
 .ret)) .skip)) .skip)))))))))
 (.seq (.reg none [.p (.mv 44 (.t 1)) .unit,
  .p (.mv 4 (.t 44)) .unit])
 .ret))),
 45, 2, [.t 4]⟩
theorem m_spec_l02Spoilt : mH Try.prog 70 [(1, 0, .v), (1, 1, (.ps 0 0)), (3, 1, .v), (3, 2, (.ps 0 0)), (5, 1, .v), (5, 5, (.ps 0 0)), (9, 0, .v), (9, 3, (.ps 0 0)), (10, 3, .v), (10, 4, (.ps 0 0))] = some (F_spec_l02Spoilt.code.x, F_spec_l02Spoilt.N, F_spec_l02Spoilt.np, F_spec_l02Spoilt.res) := by kernel_rfl
noncomputable def T_spec_l02Spoilt : (List (Int) × Int × Int) × List UInt8 → Option ((List UInt8) × List (Int) × Int × Int) := evF [fn_spec_l01Below, fn_spec_l01Text] F_spec_l02Spoilt [.box (.pair (.sl false (.int .u8)) (.pair (.int .i64) (.int .i64))), .cell .str] [0] [.cell .str] [.box (.pair (.sl false (.int .u8)) (.pair (.int .i64) (.int .i64)))]
noncomputable def fn_spec_l02Spoilt : TFn := ⟨70, [.box (.pair (.sl false (.int .u8)) (.pair (.int .i64) (.int .i64))), .cell .str], [0], [.cell .str], [.box (.pair (.sl false (.int .u8)) (.pair (.int .i64) (.int .i64)))], T_spec_l02Spoilt⟩
theorem ok_spec_l02Spoilt : FnOk Try.prog fn_spec_l02Spoilt := evF_ok mixed (allOk_cons ok_spec_l01Below (allOk_cons ok_spec_l01Text allOk_nil)) m_spec_l02Spoilt (by decide)
def F_spec_DrawReadBundle : TF := ⟨(.seq (.reg none [.p (.mv 2 (.c (.string (ba [])))) .unit])
 (.seq (.reg none [.p (.mv 8 (.t 0)) .unit,
  .p (.callS 9 n_spec_l01New [(.t 8)]) .unit,
  .p (.mvT 3 9) .unit])
 (.seq (.reg none [.p (.mvA 11 3) .unit,
  .p (.callM 12 n_spec_l13AnyBundle [] (.ptrS (.t 11) 3) []) .unit,
  .p (.callB 13 n_spec_BundleText [((.t 12), 0)]) .unit,
  .p (.mv 10 (.t 13)) .unit,
  .p (.ext 14 (.t 10) 0) .unit,
  .p (.ext 15 (.t 10) 1) .unit,
  .p (.mv 4 (.t 14)) .unit,
  .p (.mv 5 (.t 15)) .unit])
 (.seq (.seq (.reg none [.p (.mvA 16 3) .unit,
  .p (.callM 17 n_spec_l01Once [] (.ptrS (.t 16) 3) [((.c (.int .i64 3)), 0)]) .unit])
 (.cond (.t 17) (.seq (.reg none [.p (.mv 19 (.t 4)) .unit,
  .p (.callB 20 n_spec_Unsealed [((.t 19), 0)]) .unit,
  .p (.mv 18 (.t 20)) .unit,
  .p (.ext 21 (.t 18) 0) .unit,
  .p (.ext 22 (.t 18) 1) .unit,
  .p (.mv 6 (.t 21)) .unit,
  .p (.mv 7 (.t 22)) .unit])
 (.seq (.join ⟨[(4, false)], [.cell .str]⟩ (.seq (.reg none [.p (.mv 23 (.t 7)) .unit])
 (.cond (.t 23) (.reg none [.p (.mvT 25 3) .unit,
  .p (.mv 26 (.t 6)) .unit,
  .p (.callM 27 n_spec_l02Spoilt [] (.tmpS 25) [((.t 26), 0)]) .unit,
  .p (.callB 28 n_spec_Sealed [((.t 27), 0)]) .unit,
  .p (.mv 24 (.t 28)) .unit,
  .p (.ext 29 (.t 24) 0) .unit,
  .p (.ext 30 (.t 24) 1) .unit,
  .p (.mv 4 (.t 29)) .unit]) .skip)))
 (.seq (.reg none [.p (.mv 31 (.t 4)) .unit,
  .p (.mv 2 (.t 31)) .unit])
 .ret))) .skip))
 (.seq (.reg none [.p (.mvT 32 3) .unit,
  .p (.mv 33 (.t 4)) .unit,
  .p (.callM 34 n_spec_l02Spoilt [] (.tmpS 32) [((.t 33), 0)]) .unit,
  .p (.mv 2 (.t 34)) .unit])
 .ret))))),
 35, 1, [.t 2]⟩
theorem m_spec_DrawReadBundle : mH Try.prog 52 [(1, 1, .z), (1, 2, .t), (2, 0, .v), (2, 1, (.ps 0 3)), (3, 0, .v), (3, 1, (.ps 0 3)), (6, 0, .t), (6, 2, (.ms 0)), (8, 0, .t), (8, 2, (.ms 0))] = some (F_spec_DrawReadBundle.code.x, F_spec_DrawReadBundle.N, F_spec_DrawReadBundle.np, F_spec_DrawReadBundle.res) := by kernel_rfl
noncomputable def T_spec_DrawReadBundle : List (Int) → Option (List UInt8) := evF [fn_spec_l01New, fn_spec_l13AnyBundle, fn_spec_BundleText, fn_spec_l01Once, fn_spec_Unsealed, fn_spec_l02Spoilt, fn_spec_Sealed] F_spec_DrawReadBundle [.cell (.sl false (.int .u8))] [] [.cell .str] []
noncomputable def fn_spec_DrawReadBundle : TFn := ⟨52, [.cell (.sl false (.int .u8))], [], [.cell .str], [], T_spec_DrawReadBundle⟩
theorem ok_spec_DrawReadBundle : FnOk Try.prog fn_spec_DrawReadBundle := evF_ok mixed (allOk_cons ok_spec_l01New (allOk_cons ok_spec_l13AnyBundle (allOk_cons ok_spec_BundleText (allOk_cons ok_spec_l01Once (allOk_cons ok_spec_Unsealed (allOk_cons ok_spec_l02Spoilt (allOk_cons ok_spec_Sealed allOk_nil))))))) m_spec_DrawReadBundle (by decide)
def F_spec_l05Take : TF := ⟨(.seq (.reg none [.p (.mv 4 (.c (.string (ba [])))) .unit])
 (.seq (.seq (.join ⟨[(0, true), (1, true), (22, false)], [.box (.pair .str (.pair (.int .i64) .bool)), .cell (.int .i64), .cell .bool]⟩ (.reg (some [[], [0], [1], [2], [3], [4], [4], [6, 4], [7, 4], [8, 4], [9, 4], [4], [11, 4], [12, 4], [13, 4], [10, 14, 4], [5, 15, 4], [4, 16]]) [.p (.mvA 5 0) .unit,
  .p (.nilck 6 (.t 5)) .unit,
  .p (.fadr 7 (.t 6) 2) .unit,
  .p (.load 8 (.t 7) 1 false) .unit,
  .p (.mv 9 (.t 8)) .unit,
  .g 9 false (some 10) (.mv 10 (.t 1)) .unit,
  .g 9 false (some 11) (.mvA 11 0) .unit,
  .g 9 false (some 12) (.nilck 12 (.t 11)) .unit,
  .g 9 false (some 13) (.fadr 13 (.t 12) 0) .unit,
  .g 9 false (some 14) (.load 14 (.t 13) 1 false) .unit,
  .g 9 false (some 15) (.lenS 15 (.t 14)) .unit,
  .g 9 false (some 16) (.mvA 16 0) .unit,
  .g 9 false (some 17) (.nilck 17 (.t 16)) .unit,
  .g 9 false (some 18) (.fadr 18 (.t 17) 1) .unit,
  .g 9 false (some 19) (.load 19 (.t 18) 1 false) .unit,
  .g 9 false (some 20) (.bin 20 false .sub (.t 15) (.t 19)) .unit,
  .g 9 false (some 21) (.bin 21 false .gtr (.t 10) (.t 20)) .unit,
  .p (.pick 22 (.t 9) (.c (.bool true)) (.t 21)) .unit]))
 (.cond (.t 22) (.seq (.reg none [.p (.mvA 23 0) .unit,
  .p (.nilck 24 (.t 23)) .unit,
  .p (.fadr 25 (.t 24) 2) .unit,
  .p (.store (.t 25) (.c (.bool true)) 1) .unit])
 (.seq (.reg none [.p (.mv 4 (.c (.string (ba [])))) .unit])
 .ret)) .skip))
 (.seq (.reg none [.p (.mvA 26 0) .unit,
  .p (.mvA 27 0) .unit,
  .p (.nilck 28 (.t 27)) .unit,
  .p (.fadr 29 (.t 28) 1) .unit,
  .p (.load 30 (.t 29) 1 false) .unit,
  .p (.mv 31 (.t 1)) .unit,
  .p (.bin 32 false .add (.t 30) (.t 31)) .unit,
  .p (.nilck 33 (.t 26)) .unit,
  .p (.fadr 34 (.t 33) 1) .unit,
  .p (.store (.t 34) (.t 32) 1) .unit])
 (.seq (.reg (some [[], [0], [1], [2], [], [4], [5], [6], [], [7, 8], [], [10], [11], [12], [3, 9, 13], [14, 0, 1, 2, 3, 4, 5, 6, 7, 8, 9, 10, 11, 12, 13, 14]]) [.p (.mvA 35 0) .unit,
  .p (.nilck 36 (.t 35)) .unit,
  .p (.fadr 37 (.t 36) 0) .unit,
  .p (.load 38 (.t 37) 1 false) .unit,
  .p (.mvA 39 0) .unit,
  .p (.nilck 40 (.t 39)) .unit,
  .p (.fadr 41 (.t 40) 1) .unit,
  .p (.load 42 (.t 41) 1 false) .unit,
  .p (.mv 43 (.t 1)) .unit,
  .p (.bin 44 false .sub (.t 42) (.t 43)) .unit,
  .p (.mvA 45 0) .unit,
  .p (.nilck 46 (.t 45)) .unit,
  .p (.fadr 47 (.t 46) 1) .unit,
  .p (.load 48 (.t 47) 1 false) .unit,
  .p (.slcS 49 (.t 38) (some (.t 44)) (some (.t 48))) .unit,
  .p (.mv 4 (.t 49)) .unit])
 .ret)))),
 50, 2, [.t 4]⟩
theorem m_spec_l05Take : mH Try.prog 131 [(1, 0, .v), (1, 6, .v), (1, 11, .v), (2, 0, .v), (4, 0, .v), (4, 1, .v), (5, 0, .v), (5, 4, .v), (5, 10, .v)] = some (F_spec_l05Take.code.x, F_spec_l05Take.N, F_spec_l05Take.np, F_spec_l05Take.res) := by kernel_rfl
noncomputable def T_spec_l05Take : (List UInt8 × Int × Bool) × Int → Option ((List UInt8) × List UInt8 × Int × Bool) := evF [] F_spec_l05Take [.box (.pair .str (.pair (.int .i64) .bool)), .cell (.int .i64)] [0] [.cell .str] [.box (.pair .str (.pair (.int .i64) .bool))]
noncomputable def fn_spec_l05Take : TFn := ⟨131, [.box (.pair .str (.pair (.int .i64) .bool)), .cell (.int .i64)], [0], [.cell .str], [.box (.pair .str (.pair (.int .i64) .bool))], T_spec_l05Take⟩
theorem ok_spec_l05Take : FnOk Try.prog fn_spec_l05Take := evF_ok mixed allOk_nil m_spec_l05Take (by decide)
def F_spec_l05One : TF := ⟨(.seq (.reg none [.p (.mv 2 (.c (.int .i64 0))) .unit])
 (.seq (.reg none [.p (.mvA 4 0) .unit,
  .p (.callM 5 n_spec_l05Take [] (.ptr (.t 4) 0) [((.c (.int .i64 1)), 0)]) .unit,
  .p (.mv 3 (.t 5)) .unit])
 (.seq (.seq (.reg none [.p (.mvA 6 0) .unit,
  .p (.nilck 7 (.t 6)) .unit,
  .p (.fadr 8 (.t 7) 2) .unit,
  .p (.load 9 (.t 8) 1 false) .unit])
 (.cond (.t 9) (.seq (.reg none [.p (.mv 2 (.c (.int .i64 0))) .unit])
 .ret) .skip))
 (.seq (.reg none [.p (.mv 10 (.t 3)) .unit,
  .p (.idx 11 (.t 10) (.c (.int .i64 0))) .unit,
  .p (.cvi 12 .i64 .u8 (.t 11)) .unit,
  .p (.mv 2 (.t 12)) .unit])
 .ret)))),
 13, 1, [.t 2]⟩
theorem m_spec_l05One : mH Try.prog 72 [(1, 0, .v), (1, 1, (.p 0 0)), (2, 0, .v)] = some (F_spec_l05One.code.x, F_spec_l05One.N, F_spec_l05One.np, F_spec_l05One.res) := by kernel_rfl
noncomputable def T_spec_l05One : List UInt8 × Int × Bool → Option ((Int) × List UInt8 × Int × Bool) := evF [fn_spec_l05Take] F_spec_l05One [.box (.pair .str (.pair (.int .i64) .bool))] [0] [.cell (.int .i64)] [.box (.pair .str (.pair (.int .i64) .bool))]
noncomputable def fn_spec_l05One : TFn := ⟨72, [.box (.pair .str (.pair (.int .i64) .bool))], [0], [.cell (.int .i64)], [.box (.pair .str (.pair (.int .i64) .bool))], T_spec_l05One⟩
theorem ok_spec_l05One : FnOk Try.prog fn_spec_l05One := evF_ok mixed (allOk_cons ok_spec_l05Take allOk_nil) m_spec_l05One (by decide)
def B_spec_ReadVar_1 : TC := (.seq (.seq (.join ⟨[(0, true), (1, true), (7, false), (8, false), (9, false), (25, false)], [.cell .str, .cell (.int .i64), .cell (.int .i64), .cell (.int .i64), .cell (.int .i64), .cell .bool]⟩ (.reg none [.p (.mv 16 (.t 9)) .unit,
  .p (.mv 17 (.t 0)) .unit,
  .p (.lenS 18 (.t 17)) .unit,
  .p (.bin 19 false .lss (.t 16) (.t 18)) .unit,
  .p (.mv 20 (.t 19)) .unit,
  .g 20 true (some 21) (.mv 21 (.t 9)) .unit,
  .g 20 true (some 22) (.mv 22 (.t 1)) .unit,
  .g 20 true (some 23) (.bin 23 false .add (.t 22) (.c (.int .i64 5))) .unit,
  .g 20 true (some 24) (.bin 24 false .lss (.t 21) (.t 23)) .unit,
  .p (.pick 25 (.t 20) (.t 24) (.c (.bool false))) .unit]))
 (.cond (.t 25) .skip (.exit 0)))
 (.seq (.block 1 (.seq (.reg none [.p (.mv 28 (.t 7)) .unit,
  .p (.mv 29 (.t 0)) .unit,
  .p (.mv 30 (.t 9)) .unit,
  .p (.idx 31 (.t 29) (.t 30)) .unit,
  .p (.cvi 32 .i64 .u8 (.t 31)) .unit,
  .p (.bin 33 false .rem (.t 32) (.c (.int .i64 128))) .unit,
  .p (.mv 34 (.t 8)) .unit,
  .p (.bin 35 false .mul (.t 33) (.t 34)) .unit,
  .p (.bin 36 false .add (.t 28) (.t 35)) .unit,
  .p (.mv 7 (.t 36)) .unit])
 (.seq (.reg none [.p (.mv 37 (.t 8)) .unit,
  .p (.bin 38 false .mul (.t 37) (.c (.int .i64 128))) .unit,
  .p (.mv 8 (.t 38)) .unit])
 (.seq (.reg none [.p (.mv 39 (.t 0)) .unit,
  .p (.mv 40 (.t 9)) .unit,
  .p (.idx 41 (.t 39) (.t 40)) .unit,
  .p (.bin 42 false .lss (.t 41) (.c (.int .u8 128))) .unit])
 (.cond (.t 42) (.seq (.seq (.join ⟨[(7, false), (9, false), (54, false)], [.cell (.int .i64), .cell (.int .i64), .cell .bool]⟩ (.reg (some [[], [0], [1], [2], [3, 2, 2], [2], [2], [2], [7, 2], [5, 6, 8, 2], [4, 9, 2], [2, 10]]) [.p (.mv 43 (.t 7)) .unit,
  .p (.bin 44 false .gtr (.t 43) (.c (.int .i64 1000000000))) .unit,
  .p (.mv 45 (.t 44)) .unit,
  .g 45 false (some 46) (.mv 46 (.t 7)) .unit,
  .g 45 false (some 47) (.callB 47 n_spec_l01Var [((.t 46), 0)]) .unit,
  .g 45 false (some 48) (.mv 48 (.t 0)) .unit,
  .g 45 false (some 49) (.mv 49 (.t 1)) .unit,
  .g 45 false (some 50) (.mv 50 (.t 9)) .unit,
  .g 45 false (some 51) (.bin 51 false .add (.t 50) (.c (.int .i64 1))) .unit,
  .g 45 false (some 52) (.slcS 52 (.t 48) (some (.t 49)) (some (.t 51))) .unit,
  .g 45 false (some 53) (.bin 53 false .neq (.t 47) (.t 52)) .unit,
  .p (.pick 54 (.t 45) (.c (.bool true)) (.t 53)) .unit]))
 (.cond (.t 54) (.seq (.reg none [.p (.mv 4 (.c (.int .i64 0))) .unit,
  .p (.mv 5 (.c (.int .i64 0))) .unit,
  .p (.mv 6 (.c (.bool false))) .unit])
 .ret) .skip))
 (.seq (.reg none [.p (.mv 55 (.t 7)) .unit,
  .p (.mv 56 (.t 9)) .unit,
  .p (.bin 57 false .add (.t 56) (.c (.int .i64 1))) .unit,
  .p (.mv 4 (.t 55)) .unit,
  .p (.mv 5 (.t 57)) .unit,
  .p (.mv 6 (.c (.bool true))) .unit])
 .ret)) .skip)))))
 (.reg none [.p (.mv 26 (.t 9)) .unit,
  .p (.bin 27 false .add (.t 26) (.c (.int .i64 1))) .unit,
  .p (.mv 9 (.t 27)) .unit])))
noncomputable def L_spec_ReadVar_1 : Nat → (List UInt8) × (Int) × (Int) × (Int) × Int → Option ((Unit) ⊕ ((Int) × (Int) × Bool)) := evL [fn_spec_l01In, fn_spec_l01Var] (finT [.t 4, .t 5, .t 6] [] [.cell (.int .i64), .cell (.int .i64), .cell .bool]) 0 ⟨[(0, true), (1, true), (7, false), (8, false), (9, false)], [.cell .str, .cell (.int .i64), .cell (.int .i64), .cell (.int .i64), .cell (.int .i64)]⟩ ⟨[], []⟩ B_spec_ReadVar_1
def F_spec_ReadVar : TF := ⟨(.seq (.reg none [.p (.mv 4 (.c (.int .i64 0))) .unit,
  .p (.mv 5 (.c (.int .i64 0))) .unit,
  .p (.mv 6 (.c (.bool false))) .unit])
 (.seq (.seq (.reg none [.p (.mv 10 (.t 1)) .unit,
  .p (.mv 11 (.t 0)) .unit,
  .p (.lenS 12 (.t 11)) .unit,
  .p (.callB 13 n_spec_l01In [((.t 10), 0), ((.c (.int .i64 0)), 0), ((.t 12), 0)]) .unit,
  .p (.un 14 .not (.t 13)) .unit])
 (.cond (.t 14) (.seq (.reg none [.p (.mv 4 (.c (.int .i64 0))) .unit,
  .p (.mv 5 (.c (.int .i64 0))) .unit,
  .p (.mv 6 (.c (.bool false))) .unit])
 .ret) .skip))
 (.seq (.reg none [.p (.mv 7 (.c (.int .i64 0))) .unit])
 (.seq (.reg none [.p (.mv 8 (.c (.int .i64 1))) .unit])
 (.seq (.seq (.reg none [.p (.mv 15 (.t 1)) .unit,
  .p (.mv 9 (.t 15)) .unit])
 (.jl 0 ⟨[(0, true), (1, true), (7, false), (8, false), (9, false)], [.cell .str, .cell (.int .i64), .cell (.int .i64), .cell (.int .i64), .cell (.int .i64)]⟩ ⟨[], []⟩ B_spec_ReadVar_1))
 (.seq (.reg none [.p (.mv 4 (.c (.int .i64 0))) .unit,
  .p (.mv 5 (.c (.int .i64 0))) .unit,
  .p (.mv 6 (.c (.bool false))) .unit])
 .ret)))))),
 58, 2, [.t 4, .t 5, .t 6]⟩
theorem m_spec_ReadVar : mH Try.prog 130 [] = some (F_spec_ReadVar.code.x, F_spec_ReadVar.N, F_spec_ReadVar.np, F_spec_ReadVar.res) := by kernel_rfl
noncomputable def T_spec_ReadVar : (List UInt8) × Int → Option ((Int) × (Int) × Bool) := evF [fn_spec_l01In, fn_spec_l01Var] F_spec_ReadVar [.cell .str, .cell (.int .i64)] [] [.cell (.int .i64), .cell (.int .i64), .cell .bool] []
noncomputable def fn_spec_ReadVar : TFn := ⟨130, [.cell .str, .cell (.int .i64)], [], [.cell (.int .i64), .cell (.int .i64), .cell .bool], [], T_spec_ReadVar⟩
theorem ok_spec_ReadVar : FnOk Try.prog fn_spec_ReadVar := evF_ok mixed (allOk_cons ok_spec_l01In (allOk_cons ok_spec_l01Var allOk_nil)) m_spec_ReadVar (by decide)
def F_spec_l05Var : TF := ⟨(.seq (.reg none [.p (.mv 2 (.c (.int .i64 0))) .unit])
 (.seq (.reg (some [[], [0], [1], [2], [], [4], [5], [6], [3, 7], [8], [9], [9], [9], [10, 8, 0, 1, 2, 3, 4, 5, 6, 7, 8, 9, 10], [11, 13, 0, 1, 2, 3, 4, 5, 6, 7, 8, 9, 10, 11, 13], [12, 14, 0, 1, 2, 3, 4, 5, 6, 7, 8, 9, 10, 11, 12, 13, 14]]) [.p (.mvA 7 0) .unit,
  .p (.nilck 8 (.t 7)) .unit,
  .p (.fadr 9 (.t 8) 0) .unit,
  .p (.load 10 (.t 9) 1 false) .unit,
  .p (.mvA 11 0) .unit,
  .p (.nilck 12 (.t 11)) .unit,
  .p (.fadr 13 (.t 12) 1) .unit,
  .p (.load 14 (.t 13) 1 false) .unit,
  .p (.callB 15 n_spec_ReadVar [((.t 10), 0), ((.t 14), 0)]) .unit,
  .p (.mv 6 (.t 15)) .unit,
  .p (.ext 16 (.t 6) 0) .unit,
  .p (.ext 17 (.t 6) 1) .unit,
  .p (.ext 18 (.t 6) 2) .unit,
  .p (.mv 3 (.t 16)) .unit,
  .p (.mv 4 (.t 17)) .unit,
  .p (.mv 5 (.t 18)) .unit])
 (.seq (.seq (.join ⟨[(0, true), (3, false), (4, false), (26, false)], [.box (.pair .str (.pair (.int .i64) .bool)), .cell (.int .i64), .cell (.int .i64), .cell .bool]⟩ (.reg none [.p (.mvA 19 0) .unit,
  .p (.nilck 20 (.t 19)) .unit,
  .p (.fadr 21 (.t 20) 2) .unit,
  .p (.load 22 (.t 21) 1 false) .unit,
  .p (.mv 23 (.t 22)) .unit,
  .g 23 false (some 24) (.mv 24 (.t 5)) .unit,
  .g 23 false (some 25) (.un 25 .not (.t 24)) .unit,
  .p (.pick 26 (.t 23) (.c (.bool true)) (.t 25)) .unit]))
 (.cond (.t 26) (.seq (.reg none [.p (.mvA 27 0) .unit,
  .p (.nilck 28 (.t 27)) .unit,
  .p (.fadr 29 (.t 28) 2) .unit,
  .p (.store (.t 29) (.c (.bool true)) 1) .unit])
 (.seq (.reg none [.p (.mv 2 (.c (.int .i64 0))) .unit])
 .ret)) .skip))
 (.seq (.reg none [.p (.mvA 30 0) .unit,
  .p (.mv 31 (.t 4)) .unit,
  .p (.nilck 32 (.t 30)) .unit,
  .p (.fadr 33 (.t 32) 1) .unit,
  .p (.store (.t 33) (.t 31) 1) .unit])
 (.seq (.reg none [.p (.mv 34 (.t 3)) .unit,
  .p (.mv 2 (.t 34)) .unit])
 .ret))))),
 35, 1, [.t 2]⟩
theorem m_spec_l05Var : mH Try.prog 71 [(1, 0, .v), (1, 4, .v), (2, 0, .v), (3, 0, .v), (5, 0, .v)] = some (F_spec_l05Var.code.x, F_spec_l05Var.N, F_spec_l05Var.np, F_spec_l05Var.res) := by kernel_rfl
noncomputable def T_spec_l05Var : List UInt8 × Int × Bool → Option ((Int) × List UInt8 × Int × Bool) := evF [fn_spec_ReadVar] F_spec_l05Var [.box (.pair .str (.pair (.int .i64) .bool))] [0] [.cell (.int .i64)] [.box (.pair .str (.pair (.int .i64) .bool))]
noncomputable def fn_spec_l05Var : TFn := ⟨71, [.box (.pair .str (.pair (.int .i64) .bool))], [0], [.cell (.int .i64)], [.box (.pair .str (.pair (.int .i64) .bool))], T_spec_l05Var⟩
theorem ok_spec_l05Var : FnOk Try.prog fn_spec_l05Var := evF_ok mixed (allOk_cons ok_spec_ReadVar allOk_nil) m_spec_l05Var (by decide)
def F_spec_l05ReadShort : TF := ⟨(.seq (.reg none [.p (.mv 2 (.c (.string (ba [])))) .unit])
 (.seq (.reg none [.p (.mvA 4 0) .unit,
  .p (.callM 5 n_spec_l05Var [] (.ptr (.t 4) 0) []) .unit,
  .p (.mv 3 (.t 5)) .unit])
 (.seq (.reg none [.p (.mvA 6 0) .unit,
  .p (.mv 7 (.t 3)) .unit,
  .p (.callM 8 n_spec_l05Take [] (.ptr (.t 6) 0) [((.t 7), 0)]) .unit,
  .p (.mv 2 (.t 8)) .unit])
 .ret))),
 9, 1, [.t 2]⟩
theorem m_spec_l05ReadShort : mH Try.prog 73 [(1, 0, .v), (1, 1, (.p 0 0)), (2, 0, .v), (2, 2, (.p 0 0))] = some (F_spec_l05ReadShort.code.x, F_spec_l05ReadShort.N, F_spec_l05ReadShort.np, F_spec_l05ReadShort.res) := by kernel_rfl
noncomputable def T_spec_l05ReadShort : List UInt8 × Int × Bool → Option ((List UInt8) × List UInt8 × Int × Bool) := evF [fn_spec_l05Var, fn_spec_l05Take] F_spec_l05ReadShort [.box (.pair .str (.pair (.int .i64) .bool))] [0] [.cell .str] [.box (.pair .str (.pair (.int .i64) .bool))]
noncomputable def fn_spec_l05ReadShort : TFn := ⟨73, [.box (.pair .str (.pair (.int .i64) .bool))], [0], [.cell .str], [.box (.pair .str (.pair (.int .i64) .bool))], T_spec_l05ReadShort⟩
theorem ok_spec_l05ReadShort : FnOk Try.prog fn_spec_l05ReadShort := evF_ok mixed (allOk_cons ok_spec_l05Var (allOk_cons ok_spec_l05Take allOk_nil)) m_spec_l05ReadShort (by decide)
def F_spec_ReadItem : TF := ⟨(.seq (.reg none [.p (.alloc 2 [(.lit (.int .i64 0)), (.lit (.int .i64 0)), (.lit (.int .i64 0)), (.lit (.string (ba [])))]) .unit,
  .p (.mv 3 (.c (.bool false))) .unit])
 (.seq (.reg none [.p (.mv 8 (.t 0)) .unit,
  .p (.bld 9 [(.lit (.string (ba []))), (.lit (.int .i64 0)), (.lit (.bool false))] [⟨0, 1, (.t 8)⟩]) .unit,
  .p (.box 10 (.t 9)) .unit,
  .p (.mvT 4 10) .unit])
 (.seq (.reg none [.p (.mvA 11 4) .unit,
  .p (.callM 12 n_spec_l05Var [] (.ptr (.t 11) 4) []) .unit,
  .p (.bld 13 [(.lit (.int .i64 0)), (.lit (.int .i64 0)), (.lit (.int .i64 0)), (.lit (.string (ba [])))] [⟨0, 1, (.t 12)⟩]) .unit,
  .p (.alloc 5 [(.lit (.int .i64 0)), (.lit (.int .i64 0)), (.lit (.int .i64 0)), (.lit (.string (ba [])))]) .unit,
  .p (.store (.t 5) (.t 13) 4) .unit])
 (.seq (.reg none [.p (.mvA 14 4) .unit,
  .p (.callM 15 n_spec_l05One [] (.ptr (.t 14) 4) []) .unit,
  .p (.fadr 16 (.t 5) 1) .unit,
  .p (.store (.t 16) (.t 15) 1) .unit])
 (.seq (.reg none [.p (.mvA 17 4) .unit,
  .p (.callM 18 n_spec_l05One [] (.ptr (.t 17) 4) []) .unit,
  .p (.fadr 19 (.t 5) 2) .unit,
  .p (.store (.t 19) (.t 18) 1) .unit])
 (.seq (.reg none [.p (.mvA 20 4) .unit,
  .p (.callM 21 n_spec_l05ReadShort [] (.ptr (.t 20) 4) []) .unit,
  .p (.fadr 22 (.t 5) 3) .unit,
  .p (.store (.t 22) (.t 21) 1) .unit])
 (.seq (.reg none [.p (.load 24 (.t 5) 4 true) .unit,
  .p (.callB 25 n_spec_ItemText [((.t 24), 0)]) .unit,
  .p (.mv 23 (.t 25)) .unit,
  .p (.ext 26 (.t 23) 0) .unit,
  .p (.ext 27 (.t 23) 1) .unit,
  .p (.mv 6 (.t 26)) .unit,
  .p (.mv 7 (.t 27)) .unit])
 (.seq (.seq (.join ⟨[(2, false), (5, false), (40, false)], [.box (.pair (.int .i64) (.pair (.int .i64) (.pair (.int .i64) .str))), .box (.pair (.int .i64) (.pair (.int .i64) (.pair (.int .i64) .str))), .cell .bool]⟩ (.reg none [.p (.mvT 28 4) .unit,
  .p (.nilck 29 (.t 28)) .unit,
  .p (.fadr 30 (.t 29) 2) .unit,
  .p (.load 31 (.t 30) 1 false) .unit,
  .p (.mv 32 (.t 31)) .unit,
  .g 32 false (some 33) (.mv 33 (.t 7)) .unit,
  .g 32 false (some 34) (.un 34 .not (.t 33)) .unit,
  .p (.pick 35 (.t 32) (.c (.bool true)) (.t 34)) .unit,
  .p (.mv 36 (.t 35)) .unit,
  .g 36 false (some 37) (.mv 37 (.t 6)) .unit,
  .g 36 false (some 38) (.mv 38 (.t 0)) .unit,
  .g 36 false (some 39) (.bin 39 false .neq (.t 37) (.t 38)) .unit,
  .p (.pick 40 (.t 36) (.c (.bool true)) (.t 39)) .unit]))
 (.cond (.t 40) (.seq (.reg none [.p (.bld 41 [(.lit (.int .i64 0)), (.lit (.int .i64 0)), (.lit (.int .i64 0)), (.lit (.string (ba [])))] []) .unit,
  .p (.store (.t 2) (.t 41) 4) .unit,
  .p (.mv 3 (.c (.bool false))) .unit])
 .ret) .skip))
 (.seq (.reg none [.p (.load 42 (.t 5) 4 true) .unit,
  .p (.store (.t 2) (.t 42) 4) .unit,
  .p (.mv 3 (.c (.bool true))) .unit])
 .ret))))))))),
 43, 1, [.c 2 4 true, .t 3]⟩
theorem m_spec_ReadItem : mH Try.prog 18 [(1, 3, .t), (2, 0, .v), (2, 1, (.p 0 4)), (3, 0, .v), (3, 1, (.p 0 4)), (4, 0, .v), (4, 1, (.p 0 4)), (5, 0, .v), (5, 1, (.p 0 4)), (7, 0, .t)] = some (F_spec_ReadItem.code.x, F_spec_ReadItem.N, F_spec_ReadItem.np, F_spec_ReadItem.res) := by kernel_rfl
noncomputable def T_spec_ReadItem : List UInt8 → Option ((Int × Int × Int × List UInt8) × Bool) := evF [fn_spec_l05Var, fn_spec_l05One, fn_spec_l05ReadShort, fn_spec_ItemText] F_spec_ReadItem [.cell .str] [] [.agg (.pair (.int .i64) (.pair (.int .i64) (.pair (.int .i64) .str))), .cell .bool] []
noncomputable def fn_spec_ReadItem : TFn := ⟨18, [.cell .str], [], [.agg (.pair (.int .i64) (.pair (.int .i64) (.pair (.int .i64) .str))), .cell .bool], [], T_spec_ReadItem⟩
theorem ok_spec_ReadItem : FnOk Try.prog fn_spec_ReadItem := evF_ok mixed (allOk_cons ok_spec_l05Var (allOk_cons ok_spec_l05One (allOk_cons ok_spec_l05ReadShort (allOk_cons ok_spec_ItemText allOk_nil)))) m_spec_ReadItem (by decide)
def B_spec_ReadBundle_1 : TC := (.seq (.seq (.join ⟨[(0, true), (2, false), (6, false), (7, false), (8, false), (9, false), (48, false)], [.cell .str, .box (.pair (.int .i64) (.pair (.int .i64) (.pair (.int .i64) (.sl true (.pair (.int .i64) (.pair (.int .i64) (.pair (.int .i64) .str))))))), .box (.pair .str (.pair (.int .i64) .bool)), .box (.pair (.int .i64) (.pair (.int .i64) (.pair (.int .i64) (.sl true (.pair (.int .i64) (.pair (.int .i64) (.pair (.int .i64) .str))))))), .cell (.int .i64), .cell (.int .i64), .cell .bool]⟩ (.reg none [.p (.mv 35 (.t 9)) .unit,
  .p (.mv 36 (.t 8)) .unit,
  .p (.bin 37 false .lss (.t 35) (.t 36)) .unit,
  .p (.mv 38 (.t 37)) .unit,
  .g 38 true (some 39) (.mv 39 (.t 9)) .unit,
  .g 38 true (some 40) (.bin 40 false .lss (.t 39) (.c (.int .i64 100))) .unit,
  .p (.pick 41 (.t 38) (.t 40) (.c (.bool false))) .unit,
  .p (.mv 42 (.t 41)) .unit,
  .g 42 true (some 43) (.mvA 43 6) .unit,
  .g 42 true (some 44) (.nilck 44 (.t 43)) .unit,
  .g 42 true (some 45) (.fadr 45 (.t 44) 2) .unit,
  .g 42 true (some 46) (.load 46 (.t 45) 1 false) .unit,
  .g 42 true (some 47) (.un 47 .not (.t 46)) .unit,
  .p (.pick 48 (.t 42) (.t 47) (.c (.bool false))) .unit]))
 (.cond (.t 48) .skip (.exit 0)))
 (.seq (.block 1 (.seq (.reg none [.p (.mvA 52 6) .unit,
  .p (.callM 53 n_spec_l05ReadShort [] (.ptr (.t 52) 6) []) .unit,
  .p (.callB 54 n_spec_ReadItem [((.t 53), 0)]) .unit,
  .p (.mv 51 (.t 54)) .unit,
  .p (.ext 55 (.t 51) 0) .unit,
  .p (.ext 56 (.t 51) 1) .unit,
  .p (.alloc 10 [(.lit (.int .i64 0)), (.lit (.int .i64 0)), (.lit (.int .i64 0)), (.lit (.string (ba [])))]) .unit,
  .p (.store (.t 10) (.t 55) 4) .unit,
  .p (.mv 11 (.t 56)) .unit])
 (.reg none [.p (.fadr 57 (.t 7) 3) .unit,
  .p (.load 58 (.t 57) 1 false) .unit,
  .p (.load 59 (.t 10) 4 true) .unit,
  .p (.bldS 60 1 [(.lit (.int .i64 0)), (.lit (.int .i64 0)), (.lit (.int .i64 0)), (.lit (.string (ba [])))] [⟨0, 4, (.t 59)⟩]) (.pair (.int .i64) (.pair (.int .i64) (.pair (.int .i64) .str))),
  .p (.appC 61 4 40 58 (.t 60) false) (.pair (.int .i64) (.pair (.int .i64) (.pair (.int .i64) .str))),
  .p (.fadr 62 (.t 7) 3) .unit,
  .p (.storeT (.t 62) 61 1) .unit])))
 (.reg none [.p (.mv 49 (.t 9)) .unit,
  .p (.bin 50 false .add (.t 49) (.c (.int .i64 1))) .unit,
  .p (.mv 9 (.t 50)) .unit])))
noncomputable def L_spec_ReadBundle_1 : Nat → (List UInt8) × (Int × Int × Int × List (Int × Int × Int × List UInt8)) × (List UInt8 × Int × Bool) × (Int × Int × Int × List (Int × Int × Int × List UInt8)) × (Int) × Int → Option (((List UInt8) × (Int × Int × Int × List (Int × Int × Int × List UInt8)) × (List UInt8 × Int × Bool) × Int × Int × Int × List (Int × Int × Int × List UInt8)) ⊕ ((Int × Int × Int × List (Int × Int × Int × List UInt8)) × Bool)) := evL [fn_spec_Unsealed, fn_spec_l05One, fn_spec_l05Var, fn_spec_l05ReadShort, fn_spec_ReadItem, fn_spec_BundleText] (finT [.c 2 4 true, .t 3] [] [.agg (.pair (.int .i64) (.pair (.int .i64) (.pair (.int .i64) (.sl true (.pair (.int .i64) (.pair (.int .i64) (.pair (.int .i64) .str))))))), .cell .bool]) 0 ⟨[(0, true), (2, false), (6, false), (7, false), (8, false), (9, false)], [.cell .str, .box (.pair (.int .i64) (.pair (.int .i64) (.pair (.int .i64) (.sl true (.pair (.int .i64) (.pair (.int .i64) (.pair (.int .i64) .str))))))), .box (.pair .str (.pair (.int .i64) .bool)), .box (.pair (.int .i64) (.pair (.int .i64) (.pair (.int .i64) (.sl true (.pair (.int .i64) (.pair (.int .i64) (.pair (.int .i64) .str))))))), .cell (.int .i64), .cell (.int .i64)]⟩ ⟨[(0, true), (2, false), (6, false), (7, false)], [.cell .str, .box (.pair (.int .i64) (.pair (.int .i64) (.pair (.int .i64) (.sl true (.pair (.int .i64) (.pair (.int .i64) (.pair (.int .i64) .str))))))), .box (.pair .str (.pair (.int .i64) .bool)), .box (.pair (.int .i64) (.pair (.int .i64) (.pair (.int .i64) (.sl true (.pair (.int .i64) (.pair (.int .i64) (.pair (.int .i64) .str)))))))]⟩ B_spec_ReadBundle_1
def F_spec_ReadBundle : TF := ⟨(.seq (.reg none [.p (.alloc 2 [(.lit (.int .i64 0)), (.lit (.int .i64 0)), (.lit (.int .i64 0)), (.sl true 4 [])]) .unit,
  .p (.mv 3 (.c (.bool false))) .unit])
 (.seq (.reg none [.p (.mv 15 (.t 0)) .unit,
  .p (.callB 16 n_spec_Unsealed [((.t 15), 0)]) .unit,
  .p (.mv 14 (.t 16)) .unit,
  .p (.ext 17 (.t 14) 0) .unit,
  .p (.ext 18 (.t 14) 1) .unit,
  .p (.mv 4 (.t 17)) .unit,
  .p (.mv 5 (.t 18)) .unit])
 (.seq (.reg none [.p (.mv 19 (.t 4)) .unit,
  .p (.mv 20 (.t 5)) .unit,
  .p (.un 21 .not (.t 20)) .unit,
  .p (.bld 22 [(.lit (.string (ba []))), (.lit (.int .i64 0)), (.lit (.bool false))] [⟨0, 1, (.t 19)⟩, ⟨2, 1, (.t 21)⟩]) .unit,
  .p (.box 23 (.t 22)) .unit,
  .p (.mvT 6 23) .unit])
 (.seq (.reg none [.p (.mvA 24 6) .unit,
  .p (.callM 25 n_spec_l05One [] (.ptr (.t 24) 6) []) .unit,
  .p (.bld 26 [(.lit (.int .i64 0)), (.lit (.int .i64 0)), (.lit (.int .i64 0)), (.sl true 4 [])] [⟨0, 1, (.t 25)⟩]) .unit,
  .p (.alloc 7 [(.lit (.int .i64 0)), (.lit (.int .i64 0)), (.lit (.int .i64 0)), (.sl true 4 [])]) .unit,
  .p (.storeT (.t 7) 26 4) .unit])
 (.seq (.reg none [.p (.mvA 27 6) .unit,
  .p (.callM 28 n_spec_l05One [] (.ptr (.t 27) 6) []) .unit,
  .p (.fadr 29 (.t 7) 1) .unit,
  .p (.store (.t 29) (.t 28) 1) .unit])
 (.seq (.reg none [.p (.mvA 30 6) .unit,
  .p (.callM 31 n_spec_l05One [] (.ptr (.t 30) 6) []) .unit,
  .p (.fadr 32 (.t 7) 2) .unit,
  .p (.store (.t 32) (.t 31) 1) .unit])
 (.seq (.reg none [.p (.mvA 33 6) .unit,
  .p (.callM 34 n_spec_l05Var [] (.ptr (.t 33) 6) []) .unit,
  .p (.mv 8 (.t 34)) .unit])
 (.seq (.seq (.reg none [.p (.mv 9 (.c (.int .i64 0))) .unit])
 (.jl 0 ⟨[(0, true), (2, false), (6, false), (7, false), (8, false), (9, false)], [.cell .str, .box (.pair (.int .i64) (.pair (.int .i64) (.pair (.int .i64) (.sl true (.pair (.int .i64) (.pair (.int .i64) (.pair (.int .i64) .str))))))), .box (.pair .str (.pair (.int .i64) .bool)), .box (.pair (.int .i64) (.pair (.int .i64) (.pair (.int .i64) (.sl true (.pair (.int .i64) (.pair (.int .i64) (.pair (.int .i64) .str))))))), .cell (.int .i64), .cell (.int .i64)]⟩ ⟨[(0, true), (2, false), (6, false), (7, false)], [.cell .str, .box (.pair (.int .i64) (.pair (.int .i64) (.pair (.int .i64) (.sl true (.pair (.int .i64) (.pair (.int .i64) (.pair (.int .i64) .str))))))), .box (.pair .str (.pair (.int .i64) .bool)), .box (.pair (.int .i64) (.pair (.int .i64) (.pair (.int .i64) (.sl true (.pair (.int .i64) (.pair (.int .i64) (.pair (.int .i64) .str)))))))]⟩ B_spec_ReadBundle_1))
 (.seq (.reg none [.p (.load 64 (.t 7) 4 true) .unit,
  .p (.callB 65 n_spec_BundleText [((.t 64), 0)]) .unit,
  .p (.mv 63 (.t 65)) .unit,
  .p (.ext 66 (.t 63) 0) .unit,
  .p (.ext 67 (.t 63) 1) .unit,
  .p (.mv 12 (.t 66)) .unit,
  .p (.mv 13 (.t 67)) .unit])
 (.seq (.seq (.join ⟨[(2, false), (7, false), (80, false)], [.box (.pair (.int .i64) (.pair (.int .i64) (.pair (.int .i64) (.sl true (.pair (.int .i64) (.pair (.int .i64) (.pair (.int .i64) .str))))))), .box (.pair (.int .i64) (.pair (.int .i64) (.pair (.int .i64) (.sl true (.pair (.int .i64) (.pair (.int .i64) (.pair (.int .i64) .str))))))), .cell .bool]⟩ (.reg none [.p (.mvT 68 6) .unit,
  .p (.nilck 69 (.t 68)) .unit,
  .p (.fadr 70 (.t 69) 2) .unit,
  .p (.load 71 (.t 70) 1 false) .unit,
  .p (.mv 72 (.t 71)) .unit,
  .g 72 false (some 73) (.mv 73 (.t 13)) .unit,
  .g 72 false (some 74) (.un 74 .not (.t 73)) .unit,
  .p (.pick 75 (.t 72) (.c (.bool true)) (.t 74)) .unit,
  .p (.mv 76 (.t 75)) .unit,
  .g 76 false (some 77) (.mv 77 (.t 12)) .unit,
  .g 76 false (some 78) (.mv 78 (.t 0)) .unit,
  .g 76 false (some 79) (.bin 79 false .neq (.t 77) (.t 78)) .unit,
  .p (.pick 80 (.t 76) (.c (.bool true)) (.t 79)) .unit]))
 (.cond (.t 80) (.seq (.reg none [.p (.bld 81 [(.lit (.int .i64 0)), (.lit (.int .i64 0)), (.lit (.int .i64 0)), (.sl true 4 [])] []) .unit,
  .p (.storeT (.t 2) 81 4) .unit,
  .p (.mv 3 (.c (.bool false))) .unit])
 .ret) .skip))
 (.seq (.reg none [.p (.loadT 82 (.t 7) 4 true) .unit,
  .p (.storeT (.t 2) 82 4) .unit,
  .p (.mv 3 (.c (.bool true))) .unit])
 .ret))))))))))),
 83, 1, [.c 2 4 true, .t 3]⟩
theorem m_spec_ReadBundle : mH Try.prog 29 [(2, 5, .t), (3, 0, .v), (3, 1, (.p 0 6)), (3, 4, .t), (4, 0, .v), (4, 1, (.p 0 6)), (5, 0, .v), (5, 1, (.p 0 6)), (6, 0, .v), (6, 1, (.p 0 6)), (8, 8, .v), (10, 0, .v), (10, 1, (.p 0 6)), (11, 4, .z), (11, 6, .t), (13, 0, .t), (14, 1, .t), (15, 0, .t), (15, 1, .t)] = some (F_spec_ReadBundle.code.x, F_spec_ReadBundle.N, F_spec_ReadBundle.np, F_spec_ReadBundle.res) := by kernel_rfl
noncomputable def T_spec_ReadBundle : List UInt8 → Option ((Int × Int × Int × List (Int × Int × Int × List UInt8)) × Bool) := evF [fn_spec_Unsealed, fn_spec_l05One, fn_spec_l05Var, fn_spec_l05ReadShort, fn_spec_ReadItem, fn_spec_BundleText] F_spec_ReadBundle [.cell .str] [] [.agg (.pair (.int .i64) (.pair (.int .i64) (.pair (.int .i64) (.sl true (.pair (.int .i64) (.pair (.int .i64) (.pair (.int .i64) .str))))))), .cell .bool] []
noncomputable def fn_spec_ReadBundle : TFn := ⟨29, [.cell .str], [], [.agg (.pair (.int .i64) (.pair (.int .i64) (.pair (.int .i64) (.sl true (.pair (.int .i64) (.pair (.int .i64) (.pair (.int .i64) .str))))))), .cell .bool], [], T_spec_ReadBundle⟩
theorem ok_spec_ReadBundle : FnOk Try.prog fn_spec_ReadBundle := evF_ok mixed (allOk_cons ok_spec_Unsealed (allOk_cons ok_spec_l05One (allOk_cons ok_spec_l05Var (allOk_cons ok_spec_l05ReadShort (allOk_cons ok_spec_ReadItem (allOk_cons ok_spec_BundleText allOk_nil)))))) m_spec_ReadBundle (by decide)
def F_laws_FnBundles : TF := ⟨(.seq (.reg none [.p (.mv 2 (.c (.bool false))) .unit])
 (.seq (.seq (.reg none [.p (.mv 17 (.t 0)) .unit,
  .p (.callB 18 n_laws_big [((.t 17), 0)]) .unit])
 (.cond (.t 18) (.seq (.reg none [.p (.mv 2 (.c (.bool true))) .unit])
 .ret) .skip))
 (.seq (.reg none [.p (.mv 19 (.t 0)) .unit,
  .p (.callB 20 n_spec_DrawBundleText [((.t 19), 0)]) .unit,
  .p (.alloc 3 [(.lit (.int .i64 0)), (.lit (.int .i64 0)), (.lit (.int .i64 0)), (.sl true 4 [])]) .unit,
  .p (.storeT (.t 3) 20 4) .unit])
 (.seq (.reg none [.p (.load 22 (.t 3) 4 true) .unit,
  .p (.callB 23 n_impl_BundleText [((.t 22), 0)]) .unit,
  .p (.mv 21 (.t 23)) .unit,
  .p (.ext 24 (.t 21) 0) .unit,
  .p (.ext 25 (.t 21) 1) .unit,
  .p (.mv 4 (.t 24)) .unit,
  .p (.mv 5 (.t 25)) .unit])
 (.seq (.reg none [.p (.mv 27 (.t 4)) .unit,
  .p (.callB 28 n_impl_ReadBundle [((.t 27), 0)]) .unit,
  .p (.mvT 26 28) .unit,
  .p (.extT 29 26 0) .unit,
  .p (.ext 30 (.t 26) 1) .unit,
  .p (.alloc 6 [(.lit (.int .i64 0)), (.lit (.int .i64 0)), (.lit (.int .i64 0)), (.sl true 4 [])]) .unit,
  .p (.storeT (.t 6) 29 4) .unit,
  .p (.mv 7 (.t 30)) .unit])
 (.seq (.reg none [.p (.load 32 (.t 3) 4 true) .unit,
  .p (.callB 33 n_spec_BundleText [((.t 32), 0)]) .unit,
  .p (.mv 31 (.t 33)) .unit,
  .p (.ext 34 (.t 31) 0) .unit,
  .p (.ext 35 (.t 31) 1) .unit,
  .p (.mv 8 (.t 34)) .unit,
  .p (.mv 9 (.t 35)) .unit])
 (.seq (.seq (.join ⟨[(0, true), (81, false)], [.cell (.sl false (.int .u8)), .cell .bool]⟩ (.reg (some [[], [], [0, 1], [2], [3], [4, 3, 3], [3], [6, 5, 3], [5, 7, 3], [3, 8], [9, 7], [10], [11, 10, 10], [12], [13, 12], [14, 12, 12], [15], [16, 15], [15], [18, 15], [17, 19, 15], [15, 20, 12], [21, 15, 12], [22], [23, 22], [22], [25, 22], [24, 26, 22], [22, 27, 12], [28, 22, 12], [29], [30, 29], [29], [32, 29], [31, 33, 29], [29, 34, 12], [35, 29, 12], [36], [37, 36], [36], [39, 36], [38, 40, 36, 36], [41, 36], [36, 42, 12], [12, 43, 10], [10, 44]]) [.p (.mv 36 (.t 5)) .unit,
  .p (.mv 37 (.t 9)) .unit,
  .p (.bin 38 true .neq (.t 36) (.t 37)) .unit,
  .p (.mv 39 (.t 38)) .unit,
  .g 39 false (some 40) (.load 40 (.t 3) 4 true) .unit,
  .g 39 false (some 41) (.callB 41 n_impl_BundleOk [((.t 40), 0)]) .unit,
  .g 39 false (some 42) (.load 42 (.t 3) 4 true) .unit,
  .g 39 false (some 43) (.callB 43 n_spec_BundleOk [((.t 42), 0)]) .unit,
  .g 39 false (some 44) (.bin 44 true .neq (.t 41) (.t 43)) .unit,
  .p (.pick 45 (.t 39) (.c (.bool true)) (.t 44)) .unit,
  .p (.mv 46 (.t 45)) .unit,
  .g 46 false (some 47) (.mv 47 (.t 5)) .unit,
  .g 46 false (some 48) (.mv 48 (.t 47)) .unit,
  .g 48 true (some 49) (.mv 49 (.t 7)) .unit,
  .g 48 true (some 50) (.un 50 .not (.t 49)) .unit,
  .g 48 true (some 51) (.mv 51 (.t 50)) .unit,
  .g 51 false (some 52) (.fadr 52 (.t 6) 0) .unit,
  .g 51 false (some 53) (.load 53 (.t 52) 1 false) .unit,
  .g 51 false (some 54) (.fadr 54 (.t 3) 0) .unit,
  .g 51 false (some 55) (.load 55 (.t 54) 1 false) .unit,
  .g 51 false (some 56) (.bin 56 false .neq (.t 53) (.t 55)) .unit,
  .g 48 true (some 57) (.pick 57 (.t 51) (.c (.bool true)) (.t 56)) .unit,
  .g 48 true (some 58) (.mv 58 (.t 57)) .unit,
  .g 58 false (some 59) (.fadr 59 (.t 6) 1) .unit,
  .g 58 false (some 60) (.load 60 (.t 59) 1 false) .unit,
  .g 58 false (some 61) (.fadr 61 (.t 3) 1) .unit,
  .g 58 false (some 62) (.load 62 (.t 61) 1 false) .unit,
  .g 58 false (some 63) (.bin 63 false .neq (.t 60) (.t 62)) .unit,
  .g 48 true (some 64) (.pick 64 (.t 58) (.c (.bool true)) (.t 63)) .unit,
  .g 48 true (some 65) (.mv 65 (.t 64)) .unit,
  .g 65 false (some 66) (.fadr 66 (.t 6) 2) .unit,
  .g 65 false (some 67) (.load 67 (.t 66) 1 false) .unit,
  .g 65 false (some 68) (.fadr 68 (.t 3) 2) .unit,
  .g 65 false (some 69) (.load 69 (.t 68) 1 false) .unit,
  .g 65 false (some 70) (.bin 70 false .neq (.t 67) (.t 69)) .unit,
  .g 48 true (some 71) (.pick 71 (.t 65) (.c (.bool true)) (.t 70)) .unit,
  .g 48 true (some 72) (.mv 72 (.t 71)) .unit,
  .g 72 false (some 73) (.fadr 73 (.t 6) 3) .unit,
  .g 72 false (some 74) (.load 74 (.t 73) 1 false) .unit,
  .g 72 false (some 75) (.fadr 75 (.t 3) 3) .unit,
  .g 72 false (some 76) (.load 76 (.t 75) 1 false) .unit,
  .g 72 false (some 77) (.callB 77 n_laws_sameItems [((.t 74), 0), ((.t 76), 0)]) .unit,
  .g 72 false (some 78) (.un 78 .not (.t 77)) .unit,
  .g 48 true (some 79) (.pick 79 (.t 72) (.c (.bool true)) (.t 78)) .unit,
  .g 46 false (some 80) (.pick 80 (.t 48) (.t 79) (.c (.bool false))) .unit,
  .p (.pick 81 (.t 46) (.c (.bool true)) (.t 80)) .unit]))
 (.cond (.t 81) (.seq (.reg none [.p (.mv 2 (.c (.bool false))) .unit])
 .ret) .skip))
 (.seq (.reg none [.p (.mv 82 (.t 0)) .unit,
  .p (.callB 83 n_spec_DrawReadBundle [((.t 82), 0)]) .unit,
  .p (.mv 10 (.t 83)) .unit])
 (.seq (.reg none [.p (.mv 85 (.t 10)) .unit,
  .p (.callB 86 n_impl_ReadBundle [((.t 85), 0)]) .unit,
  .p (.mvT 84 86) .unit,
  .p (.extT 87 84 0) .unit,
  .p (.ext 88 (.t 84) 1) .unit,
  .p (.alloc 11 [(.lit (.int .i64 0)), (.lit (.int .i64 0)), (.lit (.int .i64 0)), (.sl true 4 [])]) .unit,
  .p (.storeT (.t 11) 87 4) .unit,
  .p (.mv 12 (.t 88)) .unit])
 (.seq (.reg none [.p (.mv 90 (.t 10)) .unit,
  .p (.callB 91 n_spec_ReadBundle [((.t 90), 0)]) .unit,
  .p (.mvT 89 91) .unit,
  .p (.extT 92 89 0) .unit,
  .p (.ext 93 (.t 89) 1) .unit,
  .p (.alloc 13 [(.lit (.int .i64 0)), (.lit (.int .i64 0)), (.lit (.int .i64 0)), (.sl true 4 [])]) .unit,
  .p (.storeT (.t 13) 92 4) .unit,
  .p (.mv 14 (.t 93)) .unit])
 (.seq (.reg none [.p (.load 95 (.t 11) 4 true) .unit,
  .p (.callB 96 n_impl_BundleText [((.t 95), 0)]) .unit,
  .p (.mv 94 (.t 96)) .unit,
  .p (.ext 97 (.t 94) 0) .unit,
  .p (.ext 98 (.t 94) 1) .unit,
  .p (.mv 15 (.t 97)) .unit,
  .p (.mv 16 (.t 98)) .unit])
 (.seq (.reg none [.p (.mv 99 (.t 12)) .unit,
  .p (.mv 100 (.t 14)) .unit,
  .p (.bin 101 true .eql (.t 99) (.t 100)) .unit,
  .p (.mv 102 (.t 101)) .unit,
  .g 102 true (some 103) (.mv 103 (.t 12)) .unit,
  .g 102 true (some 104) (.un 104 .not (.t 103)) .unit,
  .g 102 true (some 105) (.mv 105 (.t 104)) .unit,
  .g 105 false (some 106) (.mv 106 (.t 15)) .unit,
  .g 105 false (some 107) (.mv 107 (.t 10)) .unit,
  .g 105 false (some 108) (.bin 108 false .eql (.t 106) (.t 107)) .unit,
  .g 102 true (some 109) (.pick 109 (.t 105) (.c (.bool true)) (.t 108)) .unit,
  .p (.pick 110 (.t 102) (.t 109) (.c (.bool false))) .unit,
  .p (.mv 2 (.t 110)) .unit])
 .ret)))))))))))),
 111, 1, [.t 2]⟩
theorem m_laws_FnBundles : mH Try.prog 9 [(3, 3, .t), (5, 2, .t), (5, 3, .t), (5, 6, .t), (10, 2, .t), (10, 3, .t), (10, 6, .t), (11, 2, .t), (11, 3, .t), (11, 6, .t)] = some (F_laws_FnBundles.code.x, F_laws_FnBundles.N, F_laws_FnBundles.np, F_laws_FnBundles.res) := by kernel_rfl
noncomputable def T_laws_FnBundles : List (Int) → Option (Bool) := evF [fn_laws_big, fn_spec_DrawBundleText, fn_impl_BundleText, fn_impl_ReadBundle, fn_spec_BundleText, fn_impl_BundleOk, fn_spec_BundleOk, fn_laws_sameItems, fn_spec_DrawReadBundle, fn_spec_ReadBundle] F_laws_FnBundles [.cell (.sl false (.int .u8))] [] [.cell .bool] []
noncomputable def fn_laws_FnBundles : TFn := ⟨9, [.cell (.sl false (.int .u8))], [], [.cell .bool], [], T_laws_FnBundles⟩
theorem ok_laws_FnBundles : FnOk Try.prog fn_laws_FnBundles := evF_ok mixed (allOk_cons ok_laws_big (allOk_cons ok_spec_DrawBundleText (allOk_cons ok_impl_BundleText (allOk_cons ok_impl_ReadBundle (allOk_cons ok_spec_BundleText (allOk_cons ok_impl_BundleOk (allOk_cons ok_spec_BundleOk (allOk_cons ok_laws_sameItems (allOk_cons ok_spec_DrawReadBundle (allOk_cons ok_spec_ReadBundle allOk_nil)))))))))) m_laws_FnBundles (by decide)

end Xs
end Go.Proofs.Ytlblgfhdndpmfaa
