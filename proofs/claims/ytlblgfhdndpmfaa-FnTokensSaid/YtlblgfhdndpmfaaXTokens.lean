/- The typed code of the functions, printed by program. -/
import Derived.Test.YtlblgfhdndpmfaaT7
import Derived.Test.YtlblgfhdndpmfaaProg
import Derived.KernelRfl

import Derived.Test.YtlblgfhdndpmfaaBld
namespace Go.Proofs.Ytlblgfhdndpmfaa
open Go Vm
namespace Xs
theorem mixed : Try.prog.follows .mixedOrders = true := by kernel_rfl
abbrev n_laws_FnTokens : Nat := 7
abbrev n_laws_big : Nat := 11
abbrev n_spec_ReadToken : Nat := 19
abbrev n_impl_ReadToken : Nat := 20
abbrev n_spec_DrawTokenText : Nat := 34
abbrev n_impl_TokenText : Nat := 35
abbrev n_spec_TokenOk : Nat := 36
abbrev n_impl_TokenOk : Nat := 37
abbrev n_laws_sameInts : Nat := 38
abbrev n_spec_DrawReadToken : Nat := 39
abbrev n_spec_l01New : Nat := 59
abbrev n___impl_scanner__number : Nat := 61
abbrev n___impl_scanner__octet : Nat := 62
abbrev n___impl_scanner__done : Nat := 64
abbrev n_spec_l01In : Nat := 65
abbrev n_impl_inRange : Nat := 66
abbrev n_spec_l02Spoilt : Nat := 70
abbrev n_spec_l05Var : Nat := 71
abbrev n_spec_l05One : Nat := 72
abbrev n_spec_Unsealed : Nat := 74
abbrev n_spec_TokenText : Nat := 75
abbrev n_impl_Unsealed : Nat := 76
abbrev n___impl_scanner__count : Nat := 77
abbrev n_spec_l05AnyToken : Nat := 89
abbrev n___strings_Builder__WriteString : Nat := 90
abbrev n_impl_octets : Nat := 91
abbrev n_impl_varText : Nat := 92
abbrev n_impl_Sealed : Nat := 93
abbrev n___strings_Builder__String : Nat := 94
abbrev n_spec_l01Once : Nat := 95
abbrev n_spec_Sealed : Nat := 96
abbrev n_spec_l05Byte : Nat := 105
abbrev n_spec_l01Var : Nat := 106
abbrev n_spec_l01Below : Nat := 124
abbrev n_spec_l01PickInt : Nat := 125
abbrev n_impl_ReadVar : Nat := 127
abbrev n___impl_scanner__take : Nat := 128
abbrev n_spec_l01Text : Nat := 129
abbrev n_spec_ReadVar : Nat := 130
abbrev n_spec_l05Take : Nat := 131
abbrev n_spec_l02Four : Nat := 132
abbrev n_spec_SumOf : Nat := 133
abbrev n_impl_sumText : Nat := 134
abbrev n_spec_l05Token : Nat := 137
abbrev n_spec_l01Byte : Nat := 158
abbrev n_spec_SumMore : Nat := 159
abbrev n_impl_SumOf : Nat := 160
abbrev n_impl_SumMore : Nat := 181
def F_laws_big : TF := ⟨(.seq (.reg none [.p (.mv 2 (.c (.bool false))) .unit])
 (.seq (.reg none [.p (.mv 3 (.t 0)) .unit,
  .p (.lenB 4 (.t 3)) .unit,
  .p (.bin 5 false .gtr (.t 4) (.c (.int .i64 1048576))) .unit,
  .p (.mv 2 (.t 5)) .unit])
 .ret)),
 6, 1, [.t 2]⟩
theorem m_laws_big : mH Try.prog 11 [] = some (F_laws_big.code.x, F_laws_big.N, F_laws_big.np, F_laws_big.res) := by kernel_rfl
noncomputable def T_laws_big : List (Int) → Option (Bool) := evF [] F_laws_big [.cell (.sl false (.int .u8))] [] [.cell .bool] []
noncomputable def fn_laws_big : TFn := ⟨11, [.cell (.sl false (.int .u8))], [], [.cell .bool], [], T_laws_big⟩
theorem ok_laws_big : FnOk Try.prog fn_laws_big := evF_ok mixed allOk_nil m_laws_big (by decide)
def B_spec_l01New_1 : TC := (.seq (.seq (.join ⟨[(0, true), (3, false), (4, false), (15, false)], [.cell (.sl false (.int .u8)), .cell (.int .i64), .cell (.int .i64), .cell .bool]⟩ (.reg none [.p (.mv 8 (.t 4)) .unit,
  .p (.mv 9 (.t 0)) .unit,
  .p (.lenB 10 (.t 9)) .unit,
  .p (.bin 11 false .lss (.t 8) (.t 10)) .unit,
  .p (.mv 12 (.t 11)) .unit,
  .g 12 true (some 13) (.mv 13 (.t 4)) .unit,
  .g 12 true (some 14) (.bin 14 false .lss (.t 13) (.c (.int .i64 4000))) .unit,
  .p (.pick 15 (.t 12) (.t 14) (.c (.bool false))) .unit]))
 (.cond (.t 15) .skip (.exit 0)))
 (.seq (.block 1 (.reg none [.p (.mv 18 (.t 3)) .unit,
  .p (.bin 19 false .mul (.t 18) (.c (.int .i64 131))) .unit,
  .p (.mv 20 (.t 0)) .unit,
  .p (.mv 21 (.t 4)) .unit,
  .p (.iadr 22 1 (.t 20) (.t 21)) .unit,
  .p (.load 23 (.t 22) 1 false) .unit,
  .p (.cvi 24 .i64 .u8 (.t 23)) .unit,
  .p (.bin 25 false .add (.t 19) (.t 24)) .unit,
  .p (.bin 26 false .add (.t 25) (.c (.int .i64 7))) .unit,
  .p (.bin 27 false .and (.t 26) (.c (.int .i64 1073741823))) .unit,
  .p (.mv 3 (.t 27)) .unit]))
 (.reg none [.p (.mv 16 (.t 4)) .unit,
  .p (.bin 17 false .add (.t 16) (.c (.int .i64 1))) .unit,
  .p (.mv 4 (.t 17)) .unit])))
noncomputable def L_spec_l01New_1 : Nat → (List (Int)) × (Int) × Int → Option (((List (Int)) × Int) ⊕ (List (Int) × Int × Int)) := evL [] (finT [.t 2] [] [.box (.pair (.sl false (.int .u8)) (.pair (.int .i64) (.int .i64)))]) 0 ⟨[(0, true), (3, false), (4, false)], [.cell (.sl false (.int .u8)), .cell (.int .i64), .cell (.int .i64)]⟩ ⟨[(0, true), (3, false)], [.cell (.sl false (.int .u8)), .cell (.int .i64)]⟩ B_spec_l01New_1
def F_spec_l01New : TF := ⟨(.seq (.reg none [.p (.mv 2 (.c (.pointer none))) .unit])
 (.seq (.reg none [.p (.mv 5 (.t 0)) .unit,
  .p (.lenB 6 (.t 5)) .unit,
  .p (.bin 7 false .add (.c (.int .i64 27101)) (.t 6)) .unit,
  .p (.mv 3 (.t 7)) .unit])
 (.seq (.seq (.reg none [.p (.mv 4 (.c (.int .i64 0))) .unit])
 (.jl 0 ⟨[(0, true), (3, false), (4, false)], [.cell (.sl false (.int .u8)), .cell (.int .i64), .cell (.int .i64)]⟩ ⟨[(0, true), (3, false)], [.cell (.sl false (.int .u8)), .cell (.int .i64)]⟩ B_spec_l01New_1))
 (.seq (.reg none [.p (.mv 28 (.t 0)) .unit,
  .p (.mv 29 (.t 3)) .unit,
  .p (.bld 30 [(.sl true 1 []), (.lit (.int .i64 0)), (.lit (.int .i64 0))] [⟨0, 1, (.t 28)⟩, ⟨2, 1, (.t 29)⟩]) .unit,
  .p (.box 31 (.t 30)) .unit,
  .p (.mvT 2 31) .unit])
 .ret)))),
 32, 1, [.t 2]⟩
theorem m_spec_l01New : mH Try.prog 59 [(6, 4, .t)] = some (F_spec_l01New.code.x, F_spec_l01New.N, F_spec_l01New.np, F_spec_l01New.res) := by kernel_rfl
noncomputable def T_spec_l01New : List (Int) → Option (List (Int) × Int × Int) := evF [] F_spec_l01New [.cell (.sl false (.int .u8))] [] [.box (.pair (.sl false (.int .u8)) (.pair (.int .i64) (.int .i64)))] []
noncomputable def fn_spec_l01New : TFn := ⟨59, [.cell (.sl false (.int .u8))], [], [.box (.pair (.sl false (.int .u8)) (.pair (.int .i64) (.int .i64)))], [], T_spec_l01New⟩
theorem ok_spec_l01New : FnOk Try.prog fn_spec_l01New := evF_ok mixed allOk_nil m_spec_l01New (by decide)
def F_spec_l01Byte : TF := ⟨(.seq (.reg none [.p (.mv 2 (.c (.int .i64 0))) .unit])
 (.seq (.reg none [.p (.mvA 4 0) .unit,
  .p (.mvA 5 0) .unit,
  .p (.nilck 6 (.t 5)) .unit,
  .p (.fadr 7 (.t 6) 2) .unit,
  .p (.load 8 (.t 7) 1 false) .unit,
  .p (.bin 9 false .mul (.t 8) (.c (.int .i64 6364136223846793005))) .unit,
  .p (.bin 10 false .add (.t 9) (.c (.int .i64 1442695040888963407))) .unit,
  .p (.nilck 11 (.t 4)) .unit,
  .p (.fadr 12 (.t 11) 2) .unit,
  .p (.store (.t 12) (.t 10) 1) .unit])
 (.seq (.reg (some [[], [0], [1], [2], [3], [], [5], [6], [7], [8], [4, 9], [10], [11, 0, 1, 2, 3, 4, 5, 6, 7, 8, 9, 10, 11]]) [.p (.mvA 13 0) .unit,
  .p (.nilck 14 (.t 13)) .unit,
  .p (.fadr 15 (.t 14) 2) .unit,
  .p (.load 16 (.t 15) 1 false) .unit,
  .p (.bin 17 false .shr (.t 16) (.c (.int .u64 33))) .unit,
  .p (.mvA 18 0) .unit,
  .p (.nilck 19 (.t 18)) .unit,
  .p (.fadr 20 (.t 19) 2) .unit,
  .p (.load 21 (.t 20) 1 false) .unit,
  .p (.bin 22 false .shr (.t 21) (.c (.int .u64 45))) .unit,
  .p (.bin 23 false .xor (.t 17) (.t 22)) .unit,
  .p (.bin 24 false .and (.t 23) (.c (.int .i64 255))) .unit,
  .p (.mv 3 (.t 24)) .unit])
 (.seq (.join ⟨[(0, true), (3, false)], [.box (.pair (.sl false (.int .u8)) (.pair (.int .i64) (.int .i64))), .cell (.int .i64)]⟩ (.seq (.reg (some [[], [0], [1], [2], [], [4], [5], [6], [7], [3, 8]]) [.p (.mvA 25 0) .unit,
  .p (.nilck 26 (.t 25)) .unit,
  .p (.fadr 27 (.t 26) 1) .unit,
  .p (.load 28 (.t 27) 1 false) .unit,
  .p (.mvA 29 0) .unit,
  .p (.nilck 30 (.t 29)) .unit,
  .p (.fadr 31 (.t 30) 0) .unit,
  .p (.load 32 (.t 31) 1 false) .unit,
  .p (.lenB 33 (.t 32)) .unit,
  .p (.bin 34 false .lss (.t 28) (.t 33)) .unit])
 (.cond (.t 34) (.seq (.reg (some [[], [], [1], [2], [3], [], [5], [6], [7], [4, 8], [9], [10], [0, 11], [12], [13, 0, 1, 2, 3, 4, 5, 6, 7, 8, 9, 10, 11, 12, 13]]) [.p (.mv 35 (.t 3)) .unit,
  .p (.mvA 36 0) .unit,
  .p (.nilck 37 (.t 36)) .unit,
  .p (.fadr 38 (.t 37) 0) .unit,
  .p (.load 39 (.t 38) 1 false) .unit,
  .p (.mvA 40 0) .unit,
  .p (.nilck 41 (.t 40)) .unit,
  .p (.fadr 42 (.t 41) 1) .unit,
  .p (.load 43 (.t 42) 1 false) .unit,
  .p (.iadr 44 1 (.t 39) (.t 43)) .unit,
  .p (.load 45 (.t 44) 1 false) .unit,
  .p (.cvi 46 .i64 .u8 (.t 45)) .unit,
  .p (.bin 47 false .add (.t 35) (.t 46)) .unit,
  .p (.bin 48 false .and (.t 47) (.c (.int .i64 255))) .unit,
  .p (.mv 3 (.t 48)) .unit])
 (.reg none [.p (.mvA 49 0) .unit,
  .p (.mvA 50 0) .unit,
  .p (.nilck 51 (.t 50)) .unit,
  .p (.fadr 52 (.t 51) 1) .unit,
  .p (.load 53 (.t 52) 1 false) .unit,
  .p (.bin 54 false .add (.t 53) (.c (.int .i64 1))) .unit,
  .p (.nilck 55 (.t 49)) .unit,
  .p (.fadr 56 (.t 55) 1) .unit,
  .p (.store (.t 56) (.t 54) 1) .unit])) .skip)))
 (.seq (.reg none [.p (.mv 57 (.t 3)) .unit,
  .p (.mv 2 (.t 57)) .unit])
 .ret))))),
 58, 1, [.t 2]⟩
theorem m_spec_l01Byte : mH Try.prog 158 [(1, 0, .v), (1, 1, .v), (2, 0, .v), (2, 5, .v), (3, 0, .v), (3, 4, .v), (4, 1, .v), (4, 5, .v), (5, 0, .v), (5, 1, .v)] = some (F_spec_l01Byte.code.x, F_spec_l01Byte.N, F_spec_l01Byte.np, F_spec_l01Byte.res) := by kernel_rfl
noncomputable def T_spec_l01Byte : List (Int) × Int × Int → Option ((Int) × List (Int) × Int × Int) := evF [] F_spec_l01Byte [.box (.pair (.sl false (.int .u8)) (.pair (.int .i64) (.int .i64)))] [0] [.cell (.int .i64)] [.box (.pair (.sl false (.int .u8)) (.pair (.int .i64) (.int .i64)))]
noncomputable def fn_spec_l01Byte : TFn := ⟨158, [.box (.pair (.sl false (.int .u8)) (.pair (.int .i64) (.int .i64)))], [0], [.cell (.int .i64)], [.box (.pair (.sl false (.int .u8)) (.pair (.int .i64) (.int .i64)))], T_spec_l01Byte⟩
theorem ok_spec_l01Byte : FnOk Try.prog fn_spec_l01Byte := evF_ok mixed allOk_nil m_spec_l01Byte (by decide)
def F_spec_l01Below : TF := ⟨(.seq (.reg none [.p (.mv 4 (.c (.int .i64 0))) .unit])
 (.seq (.seq (.reg none [.p (.mv 9 (.t 1)) .unit,
  .p (.bin 10 false .leq (.t 9) (.c (.int .i64 0))) .unit])
 (.cond (.t 10) (.seq (.reg none [.p (.mv 4 (.c (.int .i64 0))) .unit])
 .ret) .skip))
 (.seq (.seq (.reg none [.p (.mv 11 (.t 1)) .unit,
  .p (.bin 12 false .leq (.t 11) (.c (.int .i64 256))) .unit])
 (.cond (.t 12) (.seq (.reg none [.p (.mvA 13 0) .unit,
  .p (.callM 14 n_spec_l01Byte [] (.ptrS (.t 13) 0) []) .unit,
  .p (.mv 15 (.t 1)) .unit,
  .p (.bin 16 false .rem (.t 14) (.t 15)) .unit,
  .p (.mv 4 (.t 16)) .unit])
 .ret) .skip))
 (.seq (.reg none [.p (.mvA 17 0) .unit,
  .p (.callM 18 n_spec_l01Byte [] (.ptrS (.t 17) 0) []) .unit,
  .p (.mv 5 (.t 18)) .unit])
 (.seq (.reg none [.p (.mvA 19 0) .unit,
  .p (.callM 20 n_spec_l01Byte [] (.ptrS (.t 19) 0) []) .unit,
  .p (.mv 6 (.t 20)) .unit])
 (.seq (.reg none [.p (.mvA 21 0) .unit,
  .p (.callM 22 n_spec_l01Byte [] (.ptrS (.t 21) 0) []) .unit,
  .p (.mv 7 (.t 22)) .unit])
 (.seq (.reg none [.p (.mvA 23 0) .unit,
  .p (.callM 24 n_spec_l01Byte [] (.ptrS (.t 23) 0) []) .unit,
  .p (.mv 8 (.t 24)) .unit])
 (.seq (.reg none [.p (.mv 25 (.t 5)) .unit,
  .p (.bin 26 false .mul (.t 25) (.c (.int .i64 16777216))) .unit,
  .p (.mv 27 (.t 6)) .unit,
  .p (.bin 28 false .mul (.t 27) (.c (.int .i64 65536))) .unit,
  .p (.bin 29 false .add (.t 26) (.t 28)) .unit,
  .p (.mv 30 (.t 7)) .unit,
  .p (.bin 31 false .mul (.t 30) (.c (.int .i64 256))) .unit,
  .p (.bin 32 false .add (.t 29) (.t 31)) .unit,
  .p (.mv 33 (.t 8)) .unit,
  .p (.bin 34 false .add (.t 32) (.t 33)) .unit,
  .p (.mv 35 (.t 1)) .unit,
  .p (.bin 36 false .rem (.t 34) (.t 35)) .unit,
  .p (.mv 4 (.t 36)) .unit])
 .ret)))))))),
 37, 2, [.t 4]⟩
theorem m_spec_l01Below : mH Try.prog 124 [(4, 0, .v), (4, 1, (.ps 0 0)), (5, 0, .v), (5, 1, (.ps 0 0)), (6, 0, .v), (6, 1, (.ps 0 0)), (7, 0, .v), (7, 1, (.ps 0 0)), (8, 0, .v), (8, 1, (.ps 0 0))] = some (F_spec_l01Below.code.x, F_spec_l01Below.N, F_spec_l01Below.np, F_spec_l01Below.res) := by kernel_rfl
noncomputable def T_spec_l01Below : (List (Int) × Int × Int) × Int → Option ((Int) × List (Int) × Int × Int) := evF [fn_spec_l01Byte] F_spec_l01Below [.box (.pair (.sl false (.int .u8)) (.pair (.int .i64) (.int .i64))), .cell (.int .i64)] [0] [.cell (.int .i64)] [.box (.pair (.sl false (.int .u8)) (.pair (.int .i64) (.int .i64)))]
noncomputable def fn_spec_l01Below : TFn := ⟨124, [.box (.pair (.sl false (.int .u8)) (.pair (.int .i64) (.int .i64))), .cell (.int .i64)], [0], [.cell (.int .i64)], [.box (.pair (.sl false (.int .u8)) (.pair (.int .i64) (.int .i64)))], T_spec_l01Below⟩
theorem ok_spec_l01Below : FnOk Try.prog fn_spec_l01Below := evF_ok mixed (allOk_cons ok_spec_l01Byte allOk_nil) m_spec_l01Below (by decide)
def F_spec_l01Once : TF := ⟨(.seq (.reg none [.p (.mv 4 (.c (.bool false))) .unit])
 (.seq (.reg none [.p (.mvA 5 0) .unit,
  .p (.mv 6 (.t 1)) .unit,
  .p (.callM 7 n_spec_l01Below [] (.ptrS (.t 5) 0) [((.t 6), 0)]) .unit,
  .p (.bin 8 false .eql (.t 7) (.c (.int .i64 0))) .unit,
  .p (.mv 4 (.t 8)) .unit])
 .ret)),
 9, 2, [.t 4]⟩
theorem m_spec_l01Once : mH Try.prog 95 [(1, 0, .v), (1, 2, (.ps 0 0))] = some (F_spec_l01Once.code.x, F_spec_l01Once.N, F_spec_l01Once.np, F_spec_l01Once.res) := by kernel_rfl
noncomputable def T_spec_l01Once : (List (Int) × Int × Int) × Int → Option ((Bool) × List (Int) × Int × Int) := evF [fn_spec_l01Below] F_spec_l01Once [.box (.pair (.sl false (.int .u8)) (.pair (.int .i64) (.int .i64))), .cell (.int .i64)] [0] [.cell .bool] [.box (.pair (.sl false (.int .u8)) (.pair (.int .i64) (.int .i64)))]
noncomputable def fn_spec_l01Once : TFn := ⟨95, [.box (.pair (.sl false (.int .u8)) (.pair (.int .i64) (.int .i64))), .cell (.int .i64)], [0], [.cell .bool], [.box (.pair (.sl false (.int .u8)) (.pair (.int .i64) (.int .i64)))], T_spec_l01Once⟩
theorem ok_spec_l01Once : FnOk Try.prog fn_spec_l01Once := evF_ok mixed (allOk_cons ok_spec_l01Below allOk_nil) m_spec_l01Once (by decide)
def B_spec_l05Token_1 : TC := (.seq (.seq (.reg none [.p (.mv 33 (.t 4)) .unit,
  .p (.fadr 34 (.t 3) 2) .unit,
  .p (.load 35 (.t 34) 1 false) .unit,
  .p (.bin 36 false .leq (.t 33) (.t 35)) .unit])
 (.cond (.t 36) .skip (.exit 0)))
 (.seq (.join ⟨[(0, true), (2, false), (3, false), (4, false)], [.box (.pair (.sl false (.int .u8)) (.pair (.int .i64) (.int .i64))), .box (.pair (.int .i64) (.pair (.int .i64) (.pair (.int .i64) (.pair (.int .i64) (.pair (.int .i64) (.sl true (.int .i64))))))), .box (.pair (.int .i64) (.pair (.int .i64) (.pair (.int .i64) (.pair (.int .i64) (.pair (.int .i64) (.sl true (.int .i64))))))), .cell (.int .i64)]⟩ (.block 1 (.seq (.reg none [.p (.mvA 39 0) .unit,
  .p (.callM 40 n_spec_l01Once [] (.ptrS (.t 39) 0) [((.c (.int .i64 5)), 0)]) .unit])
 (.cond (.t 40) (.reg none [.p (.fadr 41 (.t 3) 5) .unit,
  .p (.load 42 (.t 41) 1 false) .unit,
  .p (.mv 43 (.t 4)) .unit,
  .p (.bldS 44 1 [(.lit (.int .i64 0))] [⟨0, 1, (.t 43)⟩]) (.int .i64),
  .p (.appC 45 1 8 42 (.t 44) false) (.int .i64),
  .p (.fadr 46 (.t 3) 5) .unit,
  .p (.storeT (.t 46) 45 1) .unit]) .skip))))
 (.reg none [.p (.mv 37 (.t 4)) .unit,
  .p (.bin 38 false .add (.t 37) (.c (.int .i64 1))) .unit,
  .p (.mv 4 (.t 38)) .unit])))
noncomputable def L_spec_l05Token_1 : Nat → (List (Int) × Int × Int) × (Int × Int × Int × Int × Int × List (Int)) × (Int × Int × Int × Int × Int × List (Int)) × Int → Option (((List (Int) × Int × Int) × (Int × Int × Int × Int × Int × List (Int)) × Int × Int × Int × Int × Int × List (Int)) ⊕ ((Int × Int × Int × Int × Int × List (Int)) × List (Int) × Int × Int)) := evL [fn_spec_l01Below, fn_spec_l01Once] (finT [.c 2 6 true] [0] [.agg (.pair (.int .i64) (.pair (.int .i64) (.pair (.int .i64) (.pair (.int .i64) (.pair (.int .i64) (.sl true (.int .i64))))))), .box (.pair (.sl false (.int .u8)) (.pair (.int .i64) (.int .i64)))]) 0 ⟨[(0, true), (2, false), (3, false), (4, false)], [.box (.pair (.sl false (.int .u8)) (.pair (.int .i64) (.int .i64))), .box (.pair (.int .i64) (.pair (.int .i64) (.pair (.int .i64) (.pair (.int .i64) (.pair (.int .i64) (.sl true (.int .i64))))))), .box (.pair (.int .i64) (.pair (.int .i64) (.pair (.int .i64) (.pair (.int .i64) (.pair (.int .i64) (.sl true (.int .i64))))))), .cell (.int .i64)]⟩ ⟨[(0, true), (2, false), (3, false)], [.box (.pair (.sl false (.int .u8)) (.pair (.int .i64) (.int .i64))), .box (.pair (.int .i64) (.pair (.int .i64) (.pair (.int .i64) (.pair (.int .i64) (.pair (.int .i64) (.sl true (.int .i64))))))), .box (.pair (.int .i64) (.pair (.int .i64) (.pair (.int .i64) (.pair (.int .i64) (.pair (.int .i64) (.sl true (.int .i64)))))))]⟩ B_spec_l05Token_1
def F_spec_l05Token : TF := ⟨(.seq (.reg none [.p (.alloc 2 [(.lit (.int .i64 0)), (.lit (.int .i64 0)), (.lit (.int .i64 0)), (.lit (.int .i64 0)), (.lit (.int .i64 0)), (.sl true 1 [])]) .unit])
 (.seq (.reg none [.p (.mvA 5 0) .unit,
  .p (.callM 6 n_spec_l01Below [] (.ptrS (.t 5) 0) [((.c (.int .i64 3)), 0)]) .unit,
  .p (.bin 7 false .add (.c (.int .i64 1)) (.t 6)) .unit,
  .p (.mvA 8 0) .unit,
  .p (.callM 9 n_spec_l01Below [] (.ptrS (.t 8) 0) [((.c (.int .i64 9)), 0)]) .unit,
  .p (.bin 10 false .add (.c (.int .i64 1)) (.t 9)) .unit,
  .p (.mvA 11 0) .unit,
  .p (.callM 12 n_spec_l01Below [] (.ptrS (.t 11) 0) [((.c (.int .i64 12)), 0)]) .unit,
  .p (.bld 13 [(.lit (.int .i64 0)), (.lit (.int .i64 0)), (.lit (.int .i64 0)), (.lit (.int .i64 0)), (.lit (.int .i64 0)), (.sl true 1 [])] [⟨0, 1, (.t 7)⟩, ⟨1, 1, (.t 10)⟩, ⟨2, 1, (.t 12)⟩]) .unit,
  .p (.alloc 3 [(.lit (.int .i64 0)), (.lit (.int .i64 0)), (.lit (.int .i64 0)), (.lit (.int .i64 0)), (.lit (.int .i64 0)), (.sl true 1 [])]) .unit,
  .p (.storeT (.t 3) 13 6) .unit])
 (.seq (.reg none [.p (.mvA 14 0) .unit,
  .p (.fadr 15 (.t 3) 2) .unit,
  .p (.load 16 (.t 15) 1 false) .unit,
  .p (.bin 17 false .add (.t 16) (.c (.int .i64 1))) .unit,
  .p (.callM 18 n_spec_l01Below [] (.ptrS (.t 14) 0) [((.t 17), 0)]) .unit,
  .p (.fadr 19 (.t 3) 3) .unit,
  .p (.store (.t 19) (.t 18) 1) .unit])
 (.seq (.join ⟨[(0, true), (2, false), (3, false)], [.box (.pair (.sl false (.int .u8)) (.pair (.int .i64) (.int .i64))), .box (.pair (.int .i64) (.pair (.int .i64) (.pair (.int .i64) (.pair (.int .i64) (.pair (.int .i64) (.sl true (.int .i64))))))), .box (.pair (.int .i64) (.pair (.int .i64) (.pair (.int .i64) (.pair (.int .i64) (.pair (.int .i64) (.sl true (.int .i64)))))))]⟩ (.seq (.join ⟨[(0, true), (2, false), (3, false), (28, false)], [.box (.pair (.sl false (.int .u8)) (.pair (.int .i64) (.int .i64))), .box (.pair (.int .i64) (.pair (.int .i64) (.pair (.int .i64) (.pair (.int .i64) (.pair (.int .i64) (.sl true (.int .i64))))))), .box (.pair (.int .i64) (.pair (.int .i64) (.pair (.int .i64) (.pair (.int .i64) (.pair (.int .i64) (.sl true (.int .i64))))))), .cell .bool]⟩ (.reg none [.p (.fadr 20 (.t 3) 3) .unit,
  .p (.load 21 (.t 20) 1 false) .unit,
  .p (.fadr 22 (.t 3) 2) .unit,
  .p (.load 23 (.t 22) 1 false) .unit,
  .p (.bin 24 false .lss (.t 21) (.t 23)) .unit,
  .p (.mv 25 (.t 24)) .unit,
  .g 25 false (some 26) (.mvA 26 0) .unit,
  .g 25 false (some 27) (.callM 27 n_spec_l01Once [] (.ptrS (.t 26) 0) [((.c (.int .i64 6)), 0)]) .unit,
  .p (.pick 28 (.t 25) (.c (.bool true)) (.t 27)) .unit]))
 (.cond (.t 28) (.reg none [.p (.mvA 29 0) .unit,
  .p (.callM 30 n_spec_l01Below [] (.ptrS (.t 29) 0) [((.c (.int .i64 3)), 0)]) .unit,
  .p (.bin 31 false .add (.c (.int .i64 1)) (.t 30)) .unit,
  .p (.fadr 32 (.t 3) 4) .unit,
  .p (.store (.t 32) (.t 31) 1) .unit]) .skip)))
 (.seq (.seq (.reg none [.p (.mv 4 (.c (.int .i64 1))) .unit])
 (.jl 0 ⟨[(0, true), (2, false), (3, false), (4, false)], [.box (.pair (.sl false (.int .u8)) (.pair (.int .i64) (.int .i64))), .box (.pair (.int .i64) (.pair (.int .i64) (.pair (.int .i64) (.pair (.int .i64) (.pair (.int .i64) (.sl true (.int .i64))))))), .box (.pair (.int .i64) (.pair (.int .i64) (.pair (.int .i64) (.pair (.int .i64) (.pair (.int .i64) (.sl true (.int .i64))))))), .cell (.int .i64)]⟩ ⟨[(0, true), (2, false), (3, false)], [.box (.pair (.sl false (.int .u8)) (.pair (.int .i64) (.int .i64))), .box (.pair (.int .i64) (.pair (.int .i64) (.pair (.int .i64) (.pair (.int .i64) (.pair (.int .i64) (.sl true (.int .i64))))))), .box (.pair (.int .i64) (.pair (.int .i64) (.pair (.int .i64) (.pair (.int .i64) (.pair (.int .i64) (.sl true (.int .i64)))))))]⟩ B_spec_l05Token_1))
 (.seq (.reg none [.p (.loadT 47 (.t 3) 6 true) .unit,
  .p (.storeT (.t 2) 47 6) .unit])
 .ret)))))),
 48, 1, [.c 2 6 true]⟩
theorem m_spec_l05Token : mH Try.prog 137 [(1, 0, .v), (1, 1, (.ps 0 0)), (1, 3, .v), (1, 4, (.ps 0 0)), (1, 6, .v), (1, 7, (.ps 0 0)), (1, 10, .t), (2, 0, .v), (2, 4, (.ps 0 0)), (3, 6, .v), (3, 7, (.ps 0 0)), (4, 0, .v), (4, 1, (.ps 0 0)), (8, 0, .v), (8, 1, (.ps 0 0)), (9, 4, .z), (9, 6, .t), (10, 0, .t), (10, 1, .t)] = some (F_spec_l05Token.code.x, F_spec_l05Token.N, F_spec_l05Token.np, F_spec_l05Token.res) := by kernel_rfl
noncomputable def T_spec_l05Token : List (Int) × Int × Int → Option ((Int × Int × Int × Int × Int × List (Int)) × List (Int) × Int × Int) := evF [fn_spec_l01Below, fn_spec_l01Once] F_spec_l05Token [.box (.pair (.sl false (.int .u8)) (.pair (.int .i64) (.int .i64)))] [0] [.agg (.pair (.int .i64) (.pair (.int .i64) (.pair (.int .i64) (.pair (.int .i64) (.pair (.int .i64) (.sl true (.int .i64)))))))] [.box (.pair (.sl false (.int .u8)) (.pair (.int .i64) (.int .i64)))]
noncomputable def fn_spec_l05Token : TFn := ⟨137, [.box (.pair (.sl false (.int .u8)) (.pair (.int .i64) (.int .i64)))], [0], [.agg (.pair (.int .i64) (.pair (.int .i64) (.pair (.int .i64) (.pair (.int .i64) (.pair (.int .i64) (.sl true (.int .i64)))))))], [.box (.pair (.sl false (.int .u8)) (.pair (.int .i64) (.int .i64)))], T_spec_l05Token⟩
theorem ok_spec_l05Token : FnOk Try.prog fn_spec_l05Token := evF_ok mixed (allOk_cons ok_spec_l01Below (allOk_cons ok_spec_l01Once allOk_nil)) m_spec_l05Token (by decide)
def F_spec_l01PickInt : TF := ⟨(.seq (.reg none [.p (.mv 4 (.c (.int .i64 0))) .unit])
 (.seq (.reg none [.p (.mv 5 (.t 1)) .unit,
  .p (.mvA 6 0) .unit,
  .p (.mv 7 (.t 1)) .unit,
  .p (.lenB 8 (.t 7)) .unit,
  .p (.callM 9 n_spec_l01Below [] (.ptrS (.t 6) 0) [((.t 8), 0)]) .unit,
  .p (.iadr 10 1 (.t 5) (.t 9)) .unit,
  .p (.load 11 (.t 10) 1 false) .unit,
  .p (.mv 4 (.t 11)) .unit])
 .ret)),
 12, 2, [.t 4]⟩
theorem m_spec_l01PickInt : mH Try.prog 125 [(1, 1, .v), (1, 4, (.ps 0 0))] = some (F_spec_l01PickInt.code.x, F_spec_l01PickInt.N, F_spec_l01PickInt.np, F_spec_l01PickInt.res) := by kernel_rfl
noncomputable def T_spec_l01PickInt : (List (Int) × Int × Int) × List (Int) → Option ((Int) × List (Int) × Int × Int) := evF [fn_spec_l01Below] F_spec_l01PickInt [.box (.pair (.sl false (.int .u8)) (.pair (.int .i64) (.int .i64))), .cell (.sl false (.int .i64))] [0] [.cell (.int .i64)] [.box (.pair (.sl false (.int .u8)) (.pair (.int .i64) (.int .i64)))]
noncomputable def fn_spec_l01PickInt : TFn := ⟨125, [.box (.pair (.sl false (.int .u8)) (.pair (.int .i64) (.int .i64))), .cell (.sl false (.int .i64))], [0], [.cell (.int .i64)], [.box (.pair (.sl false (.int .u8)) (.pair (.int .i64) (.int .i64)))], T_spec_l01PickInt⟩
theorem ok_spec_l01PickInt : FnOk Try.prog fn_spec_l01PickInt := evF_ok mixed (allOk_cons ok_spec_l01Below allOk_nil) m_spec_l01PickInt (by decide)
def F_spec_l05AnyToken : TF := ⟨(.seq (.reg none [.p (.alloc 2 [(.lit (.int .i64 0)), (.lit (.int .i64 0)), (.lit (.int .i64 0)), (.lit (.int .i64 0)), (.lit (.int .i64 0)), (.sl true 1 [])]) .unit])
 (.seq (.reg none [.p (.mvA 4 0) .unit,
  .p (.callM 5 n_spec_l05Token [] (.ptrS (.t 4) 0) []) .unit,
  .p (.alloc 3 [(.lit (.int .i64 0)), (.lit (.int .i64 0)), (.lit (.int .i64 0)), (.lit (.int .i64 0)), (.lit (.int .i64 0)), (.sl true 1 [])]) .unit,
  .p (.storeT (.t 3) 5 6) .unit])
 (.seq (.join ⟨[(0, true), (2, false), (3, false)], [.box (.pair (.sl false (.int .u8)) (.pair (.int .i64) (.int .i64))), .box (.pair (.int .i64) (.pair (.int .i64) (.pair (.int .i64) (.pair (.int .i64) (.pair (.int .i64) (.sl true (.int .i64))))))), .box (.pair (.int .i64) (.pair (.int .i64) (.pair (.int .i64) (.pair (.int .i64) (.pair (.int .i64) (.sl true (.int .i64)))))))]⟩ (.seq (.reg none [.p (.mvA 6 0) .unit,
  .p (.callM 7 n_spec_l01Below [] (.ptrS (.t 6) 0) [((.c (.int .i64 24)), 0)]) .unit])
 (.block 0 (.seq (.reg none [.p (.bin 9 false .eql (.t 7) (.c (.int .i64 0))) .unit,
  .p (.mv 8 (.t 9)) .unit])
 (.cond (.t 8) (.reg none [.p (.mvA 10 0) .unit,
  .p (.bldZ 11 3 [(.lit (.int .i64 0))] [⟨0, 1, (.c (.int .i64 0))⟩, ⟨1, 1, (.c (.int .i64 9))⟩, ⟨2, 1, (.c (.int .i64 10))⟩]) (.int .i64),
  .p (.callM 12 n_spec_l01PickInt [] (.ptrS (.t 10) 0) [((.t 11), 0)]) .unit,
  .p (.fadr 13 (.t 3) 0) .unit,
  .p (.store (.t 13) (.t 12) 1) .unit]) (.seq (.reg none [.p (.bin 15 false .eql (.t 7) (.c (.int .i64 1))) .unit,
  .p (.mv 14 (.t 15)) .unit])
 (.cond (.t 14) (.reg none [.p (.mvA 16 0) .unit,
  .p (.bldZ 17 4 [(.lit (.int .i64 0))] [⟨0, 1, (.c (.int .i64 0))⟩, ⟨1, 1, (.c (.int .i64 (-1)))⟩, ⟨2, 1, (.c (.int .i64 1000000000))⟩, ⟨3, 1, (.c (.int .i64 1000000001))⟩]) (.int .i64),
  .p (.callM 18 n_spec_l01PickInt [] (.ptrS (.t 16) 0) [((.t 17), 0)]) .unit,
  .p (.fadr 19 (.t 3) 1) .unit,
  .p (.store (.t 19) (.t 18) 1) .unit]) (.seq (.reg none [.p (.bin 21 false .eql (.t 7) (.c (.int .i64 2))) .unit,
  .p (.mv 20 (.t 21)) .unit])
 (.cond (.t 20) (.reg none [.p (.mvA 22 0) .unit,
  .p (.bldZ 23 3 [(.lit (.int .i64 0))] [⟨0, 1, (.c (.int .i64 (-1)))⟩, ⟨1, 1, (.c (.int .i64 60))⟩, ⟨2, 1, (.c (.int .i64 61))⟩]) (.int .i64),
  .p (.callM 24 n_spec_l01PickInt [] (.ptrS (.t 22) 0) [((.t 23), 0)]) .unit,
  .p (.fadr 25 (.t 3) 2) .unit,
  .p (.store (.t 25) (.t 24) 1) .unit]) (.seq (.reg none [.p (.bin 27 false .eql (.t 7) (.c (.int .i64 3))) .unit,
  .p (.mv 26 (.t 27)) .unit])
 (.cond (.t 26) (.reg none [.p (.mvA 28 0) .unit,
  .p (.fadr 29 (.t 3) 2) .unit,
  .p (.load 30 (.t 29) 1 false) .unit,
  .p (.fadr 31 (.t 3) 2) .unit,
  .p (.load 32 (.t 31) 1 false) .unit,
  .p (.bin 33 false .add (.t 32) (.c (.int .i64 1))) .unit,
  .p (.bldZ 34 3 [(.lit (.int .i64 0))] [⟨0, 1, (.c (.int .i64 (-1)))⟩, ⟨1, 1, (.t 30)⟩, ⟨2, 1, (.t 33)⟩]) (.int .i64),
  .p (.callM 35 n_spec_l01PickInt [] (.ptrS (.t 28) 0) [((.t 34), 0)]) .unit,
  .p (.fadr 36 (.t 3) 3) .unit,
  .p (.store (.t 36) (.t 35) 1) .unit]) (.seq (.reg none [.p (.bin 38 false .eql (.t 7) (.c (.int .i64 4))) .unit,
  .p (.mv 37 (.t 38)) .unit])
 (.cond (.t 37) (.reg none [.p (.mvA 39 0) .unit,
  .p (.bldZ 40 3 [(.lit (.int .i64 0))] [⟨0, 1, (.c (.int .i64 (-1)))⟩, ⟨1, 1, (.c (.int .i64 5))⟩, ⟨2, 1, (.c (.int .i64 6))⟩]) (.int .i64),
  .p (.callM 41 n_spec_l01PickInt [] (.ptrS (.t 39) 0) [((.t 40), 0)]) .unit,
  .p (.fadr 42 (.t 3) 4) .unit,
  .p (.store (.t 42) (.t 41) 1) .unit]) (.seq (.reg none [.p (.bin 44 false .eql (.t 7) (.c (.int .i64 5))) .unit,
  .p (.mv 43 (.t 44)) .unit])
 (.cond (.t 43) (.reg (some [[], [0], [], [], [3], [], [5], [6], [4, 7], [2, 8], [9], [1, 10, 9], [0, 1, 2, 3, 4, 5, 6, 7, 8, 9, 10, 11], [12, 11, 11, 0, 1, 2, 3, 4, 5, 6, 7, 8, 9, 10, 11]]) [.p (.fadr 45 (.t 3) 5) .unit,
  .p (.load 46 (.t 45) 1 false) .unit,
  .p (.mvA 47 0) .unit,
  .p (.fadr 48 (.t 3) 2) .unit,
  .p (.load 49 (.t 48) 1 false) .unit,
  .p (.fadr 50 (.t 3) 2) .unit,
  .p (.load 51 (.t 50) 1 false) .unit,
  .p (.bin 52 false .add (.t 51) (.c (.int .i64 1))) .unit,
  .p (.bldZ 53 4 [(.lit (.int .i64 0))] [⟨0, 1, (.c (.int .i64 0))⟩, ⟨1, 1, (.c (.int .i64 1))⟩, ⟨2, 1, (.t 49)⟩, ⟨3, 1, (.t 52)⟩]) (.int .i64),
  .p (.callM 54 n_spec_l01PickInt [] (.ptrS (.t 47) 0) [((.t 53), 0)]) .unit,
  .p (.bldS 55 1 [(.lit (.int .i64 0))] [⟨0, 1, (.t 54)⟩]) (.int .i64),
  .p (.appC 56 1 8 46 (.t 55) false) (.int .i64),
  .p (.fadr 57 (.t 3) 5) .unit,
  .p (.storeT (.t 57) 56 1) .unit]) .skip)))))))))))))))
 (.seq (.reg none [.p (.loadT 58 (.t 3) 6 true) .unit,
  .p (.storeT (.t 2) 58 6) .unit])
 .ret)))),
 59, 1, [.c 2 6 true]⟩
theorem m_spec_l05AnyToken : mH Try.prog 89 [(1, 0, .v), (1, 1, (.ps 0 0)), (1, 3, .t), (2, 0, .v), (2, 1, (.ps 0 0)), (4, 0, .v), (4, 1, .z), (4, 2, (.ps 0 0)), (6, 0, .v), (6, 1, .z), (6, 2, (.ps 0 0)), (8, 0, .v), (8, 1, .z), (8, 2, (.ps 0 0)), (10, 0, .v), (10, 6, .z), (10, 7, (.ps 0 0)), (12, 0, .v), (12, 1, .z), (12, 2, (.ps 0 0)), (14, 2, .v), (14, 8, .z), (14, 9, (.ps 0 0)), (14, 11, .z), (14, 13, .t), (15, 0, .t), (15, 1, .t)] = some (F_spec_l05AnyToken.code.x, F_spec_l05AnyToken.N, F_spec_l05AnyToken.np, F_spec_l05AnyToken.res) := by kernel_rfl
noncomputable def T_spec_l05AnyToken : List (Int) × Int × Int → Option ((Int × Int × Int × Int × Int × List (Int)) × List (Int) × Int × Int) := evF [fn_spec_l05Token, fn_spec_l01Below, fn_spec_l01PickInt] F_spec_l05AnyToken [.box (.pair (.sl false (.int .u8)) (.pair (.int .i64) (.int .i64)))] [0] [.agg (.pair (.int .i64) (.pair (.int .i64) (.pair (.int .i64) (.pair (.int .i64) (.pair (.int .i64) (.sl true (.int .i64)))))))] [.box (.pair (.sl false (.int .u8)) (.pair (.int .i64) (.int .i64)))]
noncomputable def fn_spec_l05AnyToken : TFn := ⟨89, [.box (.pair (.sl false (.int .u8)) (.pair (.int .i64) (.int .i64)))], [0], [.agg (.pair (.int .i64) (.pair (.int .i64) (.pair (.int .i64) (.pair (.int .i64) (.pair (.int .i64) (.sl true (.int .i64)))))))], [.box (.pair (.sl false (.int .u8)) (.pair (.int .i64) (.int .i64)))], T_spec_l05AnyToken⟩
theorem ok_spec_l05AnyToken : FnOk Try.prog fn_spec_l05AnyToken := evF_ok mixed (allOk_cons ok_spec_l05Token (allOk_cons ok_spec_l01Below (allOk_cons ok_spec_l01PickInt allOk_nil))) m_spec_l05AnyToken (by decide)
def F_spec_DrawTokenText : TF := ⟨(.seq (.reg none [.p (.alloc 2 [(.lit (.int .i64 0)), (.lit (.int .i64 0)), (.lit (.int .i64 0)), (.lit (.int .i64 0)), (.lit (.int .i64 0)), (.sl true 1 [])]) .unit])
 (.seq (.reg none [.p (.mv 3 (.t 0)) .unit,
  .p (.callS 4 n_spec_l01New [(.t 3)]) .unit,
  .p (.callM 5 n_spec_l05AnyToken [] (.tmpS 4) []) .unit,
  .p (.storeT (.t 2) 5 6) .unit])
 .ret)),
 6, 1, [.c 2 6 true]⟩
theorem m_spec_DrawTokenText : mH Try.prog 34 [(1, 1, .z), (1, 2, (.ms 0)), (1, 3, .t)] = some (F_spec_DrawTokenText.code.x, F_spec_DrawTokenText.N, F_spec_DrawTokenText.np, F_spec_DrawTokenText.res) := by kernel_rfl
noncomputable def T_spec_DrawTokenText : List (Int) → Option (Int × Int × Int × Int × Int × List (Int)) := evF [fn_spec_l01New, fn_spec_l05AnyToken] F_spec_DrawTokenText [.cell (.sl false (.int .u8))] [] [.agg (.pair (.int .i64) (.pair (.int .i64) (.pair (.int .i64) (.pair (.int .i64) (.pair (.int .i64) (.sl true (.int .i64)))))))] []
noncomputable def fn_spec_DrawTokenText : TFn := ⟨34, [.cell (.sl false (.int .u8))], [], [.agg (.pair (.int .i64) (.pair (.int .i64) (.pair (.int .i64) (.pair (.int .i64) (.pair (.int .i64) (.sl true (.int .i64)))))))], [], T_spec_DrawTokenText⟩
theorem ok_spec_DrawTokenText : FnOk Try.prog fn_spec_DrawTokenText := evF_ok mixed (allOk_cons ok_spec_l01New (allOk_cons ok_spec_l05AnyToken allOk_nil)) m_spec_DrawTokenText (by decide)
def F_impl_inRange : TF := ⟨(.seq (.reg none [.p (.mv 6 (.c (.bool false))) .unit])
 (.seq (.reg none [.p (.mv 7 (.t 0)) .unit,
  .p (.mv 8 (.t 1)) .unit,
  .p (.bin 9 false .geq (.t 7) (.t 8)) .unit,
  .p (.mv 10 (.t 9)) .unit,
  .g 10 true (some 11) (.mv 11 (.t 0)) .unit,
  .g 10 true (some 12) (.mv 12 (.t 2)) .unit,
  .g 10 true (some 13) (.bin 13 false .leq (.t 11) (.t 12)) .unit,
  .p (.pick 14 (.t 10) (.t 13) (.c (.bool false))) .unit,
  .p (.mv 6 (.t 14)) .unit])
 .ret)),
 15, 3, [.t 6]⟩
theorem m_impl_inRange : mH Try.prog 66 [] = some (F_impl_inRange.code.x, F_impl_inRange.N, F_impl_inRange.np, F_impl_inRange.res) := by kernel_rfl
noncomputable def T_impl_inRange : (Int) × (Int) × Int → Option (Bool) := evF [] F_impl_inRange [.cell (.int .i64), .cell (.int .i64), .cell (.int .i64)] [] [.cell .bool] []
noncomputable def fn_impl_inRange : TFn := ⟨66, [.cell (.int .i64), .cell (.int .i64), .cell (.int .i64)], [], [.cell .bool], [], T_impl_inRange⟩
theorem ok_impl_inRange : FnOk Try.prog fn_impl_inRange := evF_ok mixed allOk_nil m_impl_inRange (by decide)
def B_impl_TokenOk_1 : TC := (.seq (.reg none [.p (.bin 25 false .lss (.t 24) (.t 23)) .unit])
 (.seq (.cond (.t 25) .skip (.exit 0))
 (.seq (.block 1 (.seq (.reg none [.p (.mv 26 (.t 24)) .unit,
  .p (.iadr 27 1 (.t 22) (.t 24)) .unit,
  .p (.load 28 (.t 27) 1 false) .unit,
  .p (.mv 3 (.t 26)) .unit,
  .p (.mv 4 (.t 28)) .unit])
 (.seq (.join ⟨[(1, false), (22, false), (23, false), (24, false), (47, false)], [.box (.pair (.int .i64) (.pair (.int .i64) (.pair (.int .i64) (.pair (.int .i64) (.pair (.int .i64) (.sl false (.int .i64))))))), .cell (.sl false (.int .i64)), .cell (.int .i64), .cell (.int .i64), .cell .bool]⟩ (.reg none [.p (.mv 29 (.t 4)) .unit,
  .p (.fadr 30 (.t 1) 2) .unit,
  .p (.load 31 (.t 30) 1 false) .unit,
  .p (.callB 32 n_impl_inRange [((.t 29), 0), ((.c (.int .i64 1)), 0), ((.t 31), 0)]) .unit,
  .p (.un 33 .not (.t 32)) .unit,
  .p (.mv 34 (.t 33)) .unit,
  .g 34 false (some 35) (.mv 35 (.t 3)) .unit,
  .g 34 false (some 36) (.bin 36 false .gtr (.t 35) (.c (.int .i64 0))) .unit,
  .g 34 false (some 37) (.mv 37 (.t 36)) .unit,
  .g 37 true (some 38) (.mv 38 (.t 4)) .unit,
  .g 37 true (some 39) (.fadr 39 (.t 1) 5) .unit,
  .g 37 true (some 40) (.load 40 (.t 39) 1 false) .unit,
  .g 37 true (some 41) (.mv 41 (.t 3)) .unit,
  .g 37 true (some 42) (.bin 42 false .sub (.t 41) (.c (.int .i64 1))) .unit,
  .g 37 true (some 43) (.iadr 43 1 (.t 40) (.t 42)) .unit,
  .g 37 true (some 44) (.load 44 (.t 43) 1 false) .unit,
  .g 37 true (some 45) (.bin 45 false .leq (.t 38) (.t 44)) .unit,
  .g 34 false (some 46) (.pick 46 (.t 37) (.t 45) (.c (.bool false))) .unit,
  .p (.pick 47 (.t 34) (.c (.bool true)) (.t 46)) .unit]))
 (.cond (.t 47) (.seq (.reg none [.p (.mv 2 (.c (.bool false))) .unit])
 .ret) .skip))))
 (.reg none [.p (.bin 48 false .add (.t 24) (.c (.int .i64 1))) .unit,
  .p (.mv 24 (.t 48)) .unit]))))
noncomputable def L_impl_TokenOk_1 : Nat → (Int × Int × Int × Int × Int × List (Int)) × (List (Int)) × (Int) × Int → Option ((Int × Int × Int × Int × Int × List (Int)) ⊕ (Bool)) := evL [fn_impl_inRange] (finT [.t 2] [] [.cell .bool]) 0 ⟨[(1, false), (22, false), (23, false), (24, false)], [.box (.pair (.int .i64) (.pair (.int .i64) (.pair (.int .i64) (.pair (.int .i64) (.pair (.int .i64) (.sl false (.int .i64))))))), .cell (.sl false (.int .i64)), .cell (.int .i64), .cell (.int .i64)]⟩ ⟨[(1, false)], [.box (.pair (.int .i64) (.pair (.int .i64) (.pair (.int .i64) (.pair (.int .i64) (.pair (.int .i64) (.sl false (.int .i64)))))))]⟩ B_impl_TokenOk_1
def F_impl_TokenOk : TF := ⟨(.seq (.reg none [.p (.box 1 (.t 0)) .unit,
  .p (.mv 2 (.c (.bool false))) .unit])
 (.seq (.seq (.join ⟨[(1, false), (20, false)], [.box (.pair (.int .i64) (.pair (.int .i64) (.pair (.int .i64) (.pair (.int .i64) (.pair (.int .i64) (.sl false (.int .i64))))))), .cell .bool]⟩ (.reg none [.p (.fadr 5 (.t 1) 0) .unit,
  .p (.load 6 (.t 5) 1 false) .unit,
  .p (.callB 7 n_impl_inRange [((.t 6), 0), ((.c (.int .i64 1)), 0), ((.c (.int .i64 9)), 0)]) .unit,
  .p (.un 8 .not (.t 7)) .unit,
  .p (.mv 9 (.t 8)) .unit,
  .g 9 false (some 10) (.fadr 10 (.t 1) 1) .unit,
  .g 9 false (some 11) (.load 11 (.t 10) 1 false) .unit,
  .g 9 false (some 12) (.callB 12 n_impl_inRange [((.t 11), 0), ((.c (.int .i64 1)), 0), ((.c (.int .i64 1000000000)), 0)]) .unit,
  .g 9 false (some 13) (.un 13 .not (.t 12)) .unit,
  .p (.pick 14 (.t 9) (.c (.bool true)) (.t 13)) .unit,
  .p (.mv 15 (.t 14)) .unit,
  .g 15 false (some 16) (.fadr 16 (.t 1) 2) .unit,
  .g 15 false (some 17) (.load 17 (.t 16) 1 false) .unit,
  .g 15 false (some 18) (.callB 18 n_impl_inRange [((.t 17), 0), ((.c (.int .i64 0)), 0), ((.c (.int .i64 60)), 0)]) .unit,
  .g 15 false (some 19) (.un 19 .not (.t 18)) .unit,
  .p (.pick 20 (.t 15) (.c (.bool true)) (.t 19)) .unit]))
 (.cond (.t 20) (.seq (.reg none [.p (.mv 2 (.c (.bool false))) .unit])
 .ret) .skip))
 (.seq (.seq (.reg none [.p (.fadr 21 (.t 1) 5) .unit,
  .p (.load 22 (.t 21) 1 false) .unit,
  .p (.lenB 23 (.t 22)) .unit,
  .p (.mv 24 (.c (.int .i64 0))) .unit])
 (.jl 0 ⟨[(1, false), (22, false), (23, false), (24, false)], [.box (.pair (.int .i64) (.pair (.int .i64) (.pair (.int .i64) (.pair (.int .i64) (.pair (.int .i64) (.sl false (.int .i64))))))), .cell (.sl false (.int .i64)), .cell (.int .i64), .cell (.int .i64)]⟩ ⟨[(1, false)], [.box (.pair (.int .i64) (.pair (.int .i64) (.pair (.int .i64) (.pair (.int .i64) (.pair (.int .i64) (.sl false (.int .i64)))))))]⟩ B_impl_TokenOk_1))
 (.seq (.reg none [.p (.fadr 49 (.t 1) 3) .unit,
  .p (.load 50 (.t 49) 1 false) .unit,
  .p (.fadr 51 (.t 1) 2) .unit,
  .p (.load 52 (.t 51) 1 false) .unit,
  .p (.callB 53 n_impl_inRange [((.t 50), 0), ((.c (.int .i64 0)), 0), ((.t 52), 0)]) .unit,
  .p (.mv 54 (.t 53)) .unit,
  .g 54 true (some 55) (.fadr 55 (.t 1) 4) .unit,
  .g 54 true (some 56) (.load 56 (.t 55) 1 false) .unit,
  .g 54 true (some 57) (.callB 57 n_impl_inRange [((.t 56), 0), ((.c (.int .i64 0)), 0), ((.c (.int .i64 5)), 0)]) .unit,
  .p (.pick 58 (.t 54) (.t 57) (.c (.bool false))) .unit,
  .p (.mv 59 (.t 58)) .unit,
  .g 59 true (some 60) (.fadr 60 (.t 1) 5) .unit,
  .g 59 true (some 61) (.load 61 (.t 60) 1 false) .unit,
  .g 59 true (some 62) (.lenB 62 (.t 61)) .unit,
  .g 59 true (some 63) (.bin 63 false .leq (.t 62) (.c (.int .i64 20))) .unit,
  .p (.pick 64 (.t 59) (.t 63) (.c (.bool false))) .unit,
  .p (.mv 2 (.t 64)) .unit])
 .ret)))),
 65, 1, [.t 2]⟩
theorem m_impl_TokenOk : mH Try.prog 37 [] = some (F_impl_TokenOk.code.x, F_impl_TokenOk.N, F_impl_TokenOk.np, F_impl_TokenOk.res) := by kernel_rfl
noncomputable def T_impl_TokenOk : Int × Int × Int × Int × Int × List (Int) → Option (Bool) := evF [fn_impl_inRange] F_impl_TokenOk [.agg (.pair (.int .i64) (.pair (.int .i64) (.pair (.int .i64) (.pair (.int .i64) (.pair (.int .i64) (.sl false (.int .i64)))))))] [] [.cell .bool] []
noncomputable def fn_impl_TokenOk : TFn := ⟨37, [.agg (.pair (.int .i64) (.pair (.int .i64) (.pair (.int .i64) (.pair (.int .i64) (.pair (.int .i64) (.sl false (.int .i64)))))))], [], [.cell .bool], [], T_impl_TokenOk⟩
theorem ok_impl_TokenOk : FnOk Try.prog fn_impl_TokenOk := evF_ok mixed (allOk_cons ok_impl_inRange allOk_nil) m_impl_TokenOk (by decide)
def B_impl_octets_1 : TC := (.seq (.reg none [.p (.bin 9 false .lss (.t 8) (.t 7)) .unit])
 (.seq (.cond (.t 9) .skip (.exit 0))
 (.seq (.block 1 (.seq (.reg none [.p (.iadr 10 1 (.t 6) (.t 8)) .unit,
  .p (.load 11 (.t 10) 1 false) .unit,
  .p (.mv 5 (.t 11)) .unit])
 (.reg none [.p (.mvT 12 3) .unit,
  .p (.mv 13 (.t 5)) .unit,
  .p (.cvi 14 .u8 .i64 (.t 13)) .unit,
  .p (.bldS 15 1 [(.lit (.int .u8 0))] [⟨0, 1, (.t 14)⟩]) (.int .u8),
  .p (.app 16 1 1 (.t 12) (.t 15)) (.int .u8),
  .p (.mvT 3 16) .unit])))
 (.reg none [.p (.bin 17 false .add (.t 8) (.c (.int .i64 1))) .unit,
  .p (.mv 8 (.t 17)) .unit]))))
noncomputable def L_impl_octets_1 : Nat → (List (Int)) × (List (Int)) × (Int) × Int → Option ((List (Int)) ⊕ (List UInt8)) := evL [] (finT [.t 2] [] [.cell .str]) 0 ⟨[(3, false), (6, false), (7, false), (8, false)], [.cell (.sl true (.int .u8)), .cell (.sl false (.int .i64)), .cell (.int .i64), .cell (.int .i64)]⟩ ⟨[(3, false)], [.cell (.sl true (.int .u8))]⟩ B_impl_octets_1
def F_impl_octets : TF := ⟨(.seq (.reg none [.p (.mv 2 (.c (.string (ba [])))) .unit])
 (.seq (.reg none [.p (.mvN 3 1) .unit])
 (.seq (.seq (.reg none [.p (.mv 6 (.t 0)) .unit,
  .p (.lenB 7 (.t 6)) .unit,
  .p (.mv 8 (.c (.int .i64 0))) .unit])
 (.jl 0 ⟨[(3, false), (6, false), (7, false), (8, false)], [.cell (.sl true (.int .u8)), .cell (.sl false (.int .i64)), .cell (.int .i64), .cell (.int .i64)]⟩ ⟨[(3, false)], [.cell (.sl true (.int .u8))]⟩ B_impl_octets_1))
 (.seq (.reg none [.p (.mvT 18 3) .unit,
  .p (.b2s 19 (.t 18)) .unit,
  .p (.mv 2 (.t 19)) .unit])
 .ret)))),
 20, 1, [.t 2]⟩
theorem m_impl_octets : mH Try.prog 91 [(5, 0, .t), (5, 5, .t), (7, 0, .t)] = some (F_impl_octets.code.x, F_impl_octets.N, F_impl_octets.np, F_impl_octets.res) := by kernel_rfl
noncomputable def T_impl_octets : List (Int) → Option (List UInt8) := evF [] F_impl_octets [.cell (.sl false (.int .i64))] [] [.cell .str] []
noncomputable def fn_impl_octets : TFn := ⟨91, [.cell (.sl false (.int .i64))], [], [.cell .str], [], T_impl_octets⟩
theorem ok_impl_octets : FnOk Try.prog fn_impl_octets := evF_ok mixed allOk_nil m_impl_octets (by decide)
def B_impl_varText_1 : TC := (.seq (.seq (.reg none [.p (.mv 4 (.t 0)) .unit,
  .p (.bin 5 false .gtr (.t 4) (.c (.int .i64 127))) .unit])
 (.cond (.t 5) .skip (.exit 0)))
 (.block 1 (.seq (.reg none [.p (.mvT 6 3) .unit,
  .p (.mv 7 (.t 0)) .unit,
  .p (.bin 8 false .rem (.t 7) (.c (.int .i64 128))) .unit,
  .p (.bin 9 false .add (.c (.int .i64 128)) (.t 8)) .unit,
  .p (.cvi 10 .u8 .i64 (.t 9)) .unit,
  .p (.bldS 11 1 [(.lit (.int .u8 0))] [⟨0, 1, (.t 10)⟩]) (.int .u8),
  .p (.app 12 1 1 (.t 6) (.t 11)) (.int .u8),
  .p (.mvT 3 12) .unit])
 (.reg none [.p (.mv 13 (.t 0)) .unit,
  .p (.bin 14 false .quo (.t 13) (.c (.int .i64 128))) .unit,
  .p (.mv 0 (.t 14)) .unit]))))
noncomputable def L_impl_varText_1 : Nat → (Int) × List (Int) → Option (((Int) × List (Int)) ⊕ (List UInt8)) := evL [] (finT [.t 2] [] [.cell .str]) 0 ⟨[(0, false), (3, false)], [.cell (.int .i64), .cell (.sl true (.int .u8))]⟩ ⟨[(0, false), (3, false)], [.cell (.int .i64), .cell (.sl true (.int .u8))]⟩ B_impl_varText_1
def F_impl_varText : TF := ⟨(.seq (.reg none [.p (.mv 2 (.c (.string (ba [])))) .unit])
 (.seq (.reg none [.p (.mvN 3 1) .unit])
 (.seq (.jl 0 ⟨[(0, false), (3, false)], [.cell (.int .i64), .cell (.sl true (.int .u8))]⟩ ⟨[(0, false), (3, false)], [.cell (.int .i64), .cell (.sl true (.int .u8))]⟩ B_impl_varText_1)
 (.seq (.reg none [.p (.mvT 15 3) .unit,
  .p (.mv 16 (.t 0)) .unit,
  .p (.cvi 17 .u8 .i64 (.t 16)) .unit,
  .p (.bldS 18 1 [(.lit (.int .u8 0))] [⟨0, 1, (.t 17)⟩]) (.int .u8),
  .p (.app 19 1 1 (.t 15) (.t 18)) (.int .u8),
  .p (.b2s 20 (.t 19)) .unit,
  .p (.mv 2 (.t 20)) .unit])
 .ret)))),
 21, 1, [.t 2]⟩
theorem m_impl_varText : mH Try.prog 92 [(3, 0, .t), (3, 7, .t), (5, 0, .t)] = some (F_impl_varText.code.x, F_impl_varText.N, F_impl_varText.np, F_impl_varText.res) := by kernel_rfl
noncomputable def T_impl_varText : Int → Option (List UInt8) := evF [] F_impl_varText [.cell (.int .i64)] [] [.cell .str] []
noncomputable def fn_impl_varText : TFn := ⟨92, [.cell (.int .i64)], [], [.cell .str], [], T_impl_varText⟩
theorem ok_impl_varText : FnOk Try.prog fn_impl_varText := evF_ok mixed allOk_nil m_impl_varText (by decide)
def B_impl_SumMore_1 : TC := (.seq (.reg none [.p (.bin 20 false .lss (.t 19) (.c (.int .i64 8))) .unit])
 (.seq (.cond (.t 20) .skip (.exit 2))
 (.seq (.join ⟨[(0, false), (1, true), (5, false), (19, false)], [.cell (.int .u32), .cell .str, .cell (.int .i64), .cell (.int .i64)]⟩ (.block 3 (.seq (.reg none [.p (.mv 21 (.t 0)) .unit,
  .p (.bin 22 false .and (.t 21) (.c (.int .u32 1))) .unit,
  .p (.mv 6 (.t 22)) .unit])
 (.seq (.reg none [.p (.mv 23 (.t 0)) .unit,
  .p (.bin 24 false .shr (.t 23) (.c (.int .u64 1))) .unit,
  .p (.mv 0 (.t 24)) .unit])
 (.seq (.reg none [.p (.mv 25 (.t 6)) .unit,
  .p (.bin 26 false .eql (.t 25) (.c (.int .u32 1))) .unit])
 (.cond (.t 26) (.reg none [.p (.mv 27 (.t 0)) .unit,
  .p (.bin 28 false .xor (.t 27) (.c (.int .u32 3558460437))) .unit,
  .p (.mv 0 (.t 28)) .unit]) .skip))))))
 (.reg none [.p (.bin 29 false .add (.t 19) (.c (.int .i64 1))) .unit,
  .p (.mv 19 (.t 29)) .unit]))))
noncomputable def L_impl_SumMore_1 : Nat → (Int) × (List UInt8) × (Int) × Int → Option (((Int) × (List UInt8) × Int) ⊕ (Int)) := evL [] (finT [.t 4] [] [.cell (.int .u32)]) 2 ⟨[(0, false), (1, true), (5, false), (19, false)], [.cell (.int .u32), .cell .str, .cell (.int .i64), .cell (.int .i64)]⟩ ⟨[(0, false), (1, true), (5, false)], [.cell (.int .u32), .cell .str, .cell (.int .i64)]⟩ B_impl_SumMore_1
def B_impl_SumMore_2 : TC := (.seq (.seq (.reg none [.p (.mv 7 (.t 5)) .unit,
  .p (.mv 8 (.t 1)) .unit,
  .p (.lenS 9 (.t 8)) .unit,
  .p (.bin 10 false .lss (.t 7) (.t 9)) .unit])
 (.cond (.t 10) .skip (.exit 0)))
 (.seq (.block 1 (.seq (.reg none [.p (.mv 13 (.t 0)) .unit,
  .p (.mv 14 (.t 1)) .unit,
  .p (.mv 15 (.t 5)) .unit,
  .p (.idx 16 (.t 14) (.t 15)) .unit,
  .p (.cvi 17 .u32 .u8 (.t 16)) .unit,
  .p (.bin 18 false .xor (.t 13) (.t 17)) .unit,
  .p (.mv 0 (.t 18)) .unit])
 (.seq (.reg none [.p (.mv 19 (.c (.int .i64 0))) .unit])
 (.jl 2 ⟨[(0, false), (1, true), (5, false), (19, false)], [.cell (.int .u32), .cell .str, .cell (.int .i64), .cell (.int .i64)]⟩ ⟨[(0, false), (1, true), (5, false)], [.cell (.int .u32), .cell .str, .cell (.int .i64)]⟩ B_impl_SumMore_1))))
 (.reg none [.p (.mv 11 (.t 5)) .unit,
  .p (.bin 12 false .add (.t 11) (.c (.int .i64 1))) .unit,
  .p (.mv 5 (.t 12)) .unit])))
noncomputable def L_impl_SumMore_2 : Nat → (Int) × (List UInt8) × Int → Option ((Int) ⊕ (Int)) := evL [] (finT [.t 4] [] [.cell (.int .u32)]) 0 ⟨[(0, false), (1, true), (5, false)], [.cell (.int .u32), .cell .str, .cell (.int .i64)]⟩ ⟨[(0, false)], [.cell (.int .u32)]⟩ B_impl_SumMore_2
def F_impl_SumMore : TF := ⟨(.seq (.reg none [.p (.mv 4 (.c (.int .u32 0))) .unit])
 (.seq (.seq (.reg none [.p (.mv 5 (.c (.int .i64 0))) .unit])
 (.jl 0 ⟨[(0, false), (1, true), (5, false)], [.cell (.int .u32), .cell .str, .cell (.int .i64)]⟩ ⟨[(0, false)], [.cell (.int .u32)]⟩ B_impl_SumMore_2))
 (.seq (.reg none [.p (.mv 30 (.t 0)) .unit,
  .p (.mv 4 (.t 30)) .unit])
 .ret))),
 31, 2, [.t 4]⟩
theorem m_impl_SumMore : mH Try.prog 181 [] = some (F_impl_SumMore.code.x, F_impl_SumMore.N, F_impl_SumMore.np, F_impl_SumMore.res) := by kernel_rfl
noncomputable def T_impl_SumMore : (Int) × List UInt8 → Option (Int) := evF [] F_impl_SumMore [.cell (.int .u32), .cell .str] [] [.cell (.int .u32)] []
noncomputable def fn_impl_SumMore : TFn := ⟨181, [.cell (.int .u32), .cell .str], [], [.cell (.int .u32)], [], T_impl_SumMore⟩
theorem ok_impl_SumMore : FnOk Try.prog fn_impl_SumMore := evF_ok mixed allOk_nil m_impl_SumMore (by decide)
def F_impl_SumOf : TF := ⟨(.seq (.reg none [.p (.mv 2 (.c (.int .u32 0))) .unit])
 (.seq (.reg none [.p (.mv 3 (.t 0)) .unit,
  .p (.callB 4 n_impl_SumMore [((.c (.int .u32 4294967295)), 0), ((.t 3), 0)]) .unit,
  .p (.mv 2 (.t 4)) .unit])
 .ret)),
 5, 1, [.t 2]⟩
theorem m_impl_SumOf : mH Try.prog 160 [] = some (F_impl_SumOf.code.x, F_impl_SumOf.N, F_impl_SumOf.np, F_impl_SumOf.res) := by kernel_rfl
noncomputable def T_impl_SumOf : List UInt8 → Option (Int) := evF [fn_impl_SumMore] F_impl_SumOf [.cell .str] [] [.cell (.int .u32)] []
noncomputable def fn_impl_SumOf : TFn := ⟨160, [.cell .str], [], [.cell (.int .u32)], [], T_impl_SumOf⟩
theorem ok_impl_SumOf : FnOk Try.prog fn_impl_SumOf := evF_ok mixed (allOk_cons ok_impl_SumMore allOk_nil) m_impl_SumOf (by decide)
def F_impl_sumText : TF := ⟨(.seq (.reg none [.p (.mv 2 (.c (.string (ba [])))) .unit])
 (.seq (.reg none [.p (.mv 4 (.t 0)) .unit,
  .p (.callB 5 n_impl_SumOf [((.t 4), 0)]) .unit,
  .p (.mv 3 (.t 5)) .unit])
 (.seq (.reg none [.p (.mv 6 (.t 3)) .unit,
  .p (.bin 7 false .shr (.t 6) (.c (.int .u64 24))) .unit,
  .p (.cvi 8 .u8 .u32 (.t 7)) .unit,
  .p (.mv 9 (.t 3)) .unit,
  .p (.bin 10 false .shr (.t 9) (.c (.int .u64 16))) .unit,
  .p (.cvi 11 .u8 .u32 (.t 10)) .unit,
  .p (.mv 12 (.t 3)) .unit,
  .p (.bin 13 false .shr (.t 12) (.c (.int .u64 8))) .unit,
  .p (.cvi 14 .u8 .u32 (.t 13)) .unit,
  .p (.mv 15 (.t 3)) .unit,
  .p (.cvi 16 .u8 .u32 (.t 15)) .unit,
  .p (.bldS 17 4 [(.lit (.int .u8 0))] [⟨0, 1, (.t 8)⟩, ⟨1, 1, (.t 11)⟩, ⟨2, 1, (.t 14)⟩, ⟨3, 1, (.t 16)⟩]) (.int .u8),
  .p (.b2s 18 (.t 17)) .unit,
  .p (.mv 2 (.t 18)) .unit])
 .ret))),
 19, 1, [.t 2]⟩
theorem m_impl_sumText : mH Try.prog 134 [] = some (F_impl_sumText.code.x, F_impl_sumText.N, F_impl_sumText.np, F_impl_sumText.res) := by kernel_rfl
noncomputable def T_impl_sumText : List UInt8 → Option (List UInt8) := evF [fn_impl_SumOf] F_impl_sumText [.cell .str] [] [.cell .str] []
noncomputable def fn_impl_sumText : TFn := ⟨134, [.cell .str], [], [.cell .str], [], T_impl_sumText⟩
theorem ok_impl_sumText : FnOk Try.prog fn_impl_sumText := evF_ok mixed (allOk_cons ok_impl_SumOf allOk_nil) m_impl_sumText (by decide)
def F_impl_Sealed : TF := ⟨(.seq (.reg none [.p (.mv 2 (.c (.string (ba [])))) .unit,
  .p (.mv 3 (.c (.bool false))) .unit])
 (.seq (.seq (.reg none [.p (.mv 4 (.t 0)) .unit,
  .p (.lenS 5 (.t 4)) .unit,
  .p (.bin 6 false .gtr (.t 5) (.c (.int .i64 20000))) .unit])
 (.cond (.t 6) (.seq (.reg none [.p (.mv 2 (.c (.string (ba [])))) .unit,
  .p (.mv 3 (.c (.bool false))) .unit])
 .ret) .skip))
 (.seq (.reg none [.p (.mv 7 (.t 0)) .unit,
  .p (.mv 8 (.t 0)) .unit,
  .p (.callB 9 n_impl_sumText [((.t 8), 0)]) .unit,
  .p (.bin 10 false .add (.t 7) (.t 9)) .unit,
  .p (.mv 2 (.t 10)) .unit,
  .p (.mv 3 (.c (.bool true))) .unit])
 .ret))),
 11, 1, [.t 2, .t 3]⟩
theorem m_impl_Sealed : mH Try.prog 93 [] = some (F_impl_Sealed.code.x, F_impl_Sealed.N, F_impl_Sealed.np, F_impl_Sealed.res) := by kernel_rfl
noncomputable def T_impl_Sealed : List UInt8 → Option ((List UInt8) × Bool) := evF [fn_impl_sumText] F_impl_Sealed [.cell .str] [] [.cell .str, .cell .bool] []
noncomputable def fn_impl_Sealed : TFn := ⟨93, [.cell .str], [], [.cell .str, .cell .bool], [], T_impl_Sealed⟩
theorem ok_impl_Sealed : FnOk Try.prog fn_impl_Sealed := evF_ok mixed (allOk_cons ok_impl_sumText allOk_nil) m_impl_Sealed (by decide)
def B_impl_TokenText_1 : TC := (.seq (.reg none [.p (.bin 41 false .lss (.t 40) (.t 39)) .unit])
 (.seq (.cond (.t 41) .skip (.exit 0))
 (.seq (.block 1 (.seq (.reg none [.p (.iadr 42 1 (.t 38) (.t 40)) .unit,
  .p (.load 43 (.t 42) 1 false) .unit,
  .p (.mv 6 (.t 43)) .unit])
 (.reg none [.p (.mv 44 (.t 6)) .unit,
  .p (.callB 45 n_impl_varText [((.t 44), 0)]) .unit,
  .p (.callM 46 n___strings_Builder__WriteString [] (.tmp 4) [((.t 45), 0)]) .unit])))
 (.reg none [.p (.bin 47 false .add (.t 40) (.c (.int .i64 1))) .unit,
  .p (.mv 40 (.t 47)) .unit]))))
noncomputable def L_impl_TokenText_1 : Nat → (List UInt8) × (List (Int)) × (Int) × Int → Option ((List UInt8) ⊕ ((List UInt8) × Bool)) := evL [fn_impl_TokenOk, fn_impl_octets, fn_impl_varText, fn___strings_Builder__WriteString, fn___strings_Builder__String, fn_impl_Sealed] (finT [.t 2, .t 3] [] [.cell .str, .cell .bool]) 0 ⟨[(4, false), (38, false), (39, false), (40, false)], [.bld 110 5, .cell (.sl false (.int .i64)), .cell (.int .i64), .cell (.int .i64)]⟩ ⟨[(4, false)], [.bld 110 5]⟩ B_impl_TokenText_1
def F_impl_TokenText : TF := ⟨(.seq (.reg none [.p (.box 1 (.t 0)) .unit,
  .p (.mv 2 (.c (.string (ba [])))) .unit,
  .p (.mv 3 (.c (.bool false))) .unit])
 (.seq (.seq (.reg none [.p (.load 7 (.t 1) 6 true) .unit,
  .p (.callB 8 n_impl_TokenOk [((.t 7), 0)]) .unit,
  .p (.un 9 .not (.t 8)) .unit])
 (.cond (.t 9) (.seq (.reg none [.p (.mv 2 (.c (.string (ba [])))) .unit,
  .p (.mv 3 (.c (.bool false))) .unit])
 .ret) .skip))
 (.seq (.reg none [.p (.allocB 4 110 5) .unit])
 (.seq (.reg (some [[], [0], [1], [2], [], [4], [5, 3], [3, 6], [], [8], [9, 6], [7, 10], [], [12], [13, 10], [11, 14], [], [16], [17], [18, 14], [15, 19], [20, 19]]) [.p (.fadr 10 (.t 1) 0) .unit,
  .p (.load 11 (.t 10) 1 false) .unit,
  .p (.bldS 12 1 [(.lit (.int .i64 0))] [⟨0, 1, (.t 11)⟩]) (.int .i64),
  .p (.callB 13 n_impl_octets [((.t 12), 0)]) .unit,
  .p (.fadr 14 (.t 1) 1) .unit,
  .p (.load 15 (.t 14) 1 false) .unit,
  .p (.callB 16 n_impl_varText [((.t 15), 0)]) .unit,
  .p (.bin 17 false .add (.t 13) (.t 16)) .unit,
  .p (.fadr 18 (.t 1) 2) .unit,
  .p (.load 19 (.t 18) 1 false) .unit,
  .p (.callB 20 n_impl_varText [((.t 19), 0)]) .unit,
  .p (.bin 21 false .add (.t 17) (.t 20)) .unit,
  .p (.fadr 22 (.t 1) 3) .unit,
  .p (.load 23 (.t 22) 1 false) .unit,
  .p (.callB 24 n_impl_varText [((.t 23), 0)]) .unit,
  .p (.bin 25 false .add (.t 21) (.t 24)) .unit,
  .p (.fadr 26 (.t 1) 4) .unit,
  .p (.load 27 (.t 26) 1 false) .unit,
  .p (.bldS 28 1 [(.lit (.int .i64 0))] [⟨0, 1, (.t 27)⟩]) (.int .i64),
  .p (.callB 29 n_impl_octets [((.t 28), 0)]) .unit,
  .p (.bin 30 false .add (.t 25) (.t 29)) .unit,
  .p (.callM 31 n___strings_Builder__WriteString [] (.tmp 4) [((.t 30), 0)]) .unit])
 (.seq (.reg none [.p (.fadr 32 (.t 1) 5) .unit,
  .p (.load 33 (.t 32) 1 false) .unit,
  .p (.lenB 34 (.t 33)) .unit,
  .p (.callB 35 n_impl_varText [((.t 34), 0)]) .unit,
  .p (.callM 36 n___strings_Builder__WriteString [] (.tmp 4) [((.t 35), 0)]) .unit])
 (.seq (.seq (.reg none [.p (.fadr 37 (.t 1) 5) .unit,
  .p (.load 38 (.t 37) 1 false) .unit,
  .p (.lenB 39 (.t 38)) .unit,
  .p (.mv 40 (.c (.int .i64 0))) .unit])
 (.jl 0 ⟨[(4, false), (38, false), (39, false), (40, false)], [.bld 110 5, .cell (.sl false (.int .i64)), .cell (.int .i64), .cell (.int .i64)]⟩ ⟨[(4, false)], [.bld 110 5]⟩ B_impl_TokenText_1))
 (.seq (.reg none [.p (.callM 48 n___strings_Builder__String [] (.tmp 4) []) .unit,
  .p (.callB 49 n_impl_Sealed [((.t 48), 0)]) .unit,
  .p (.ext 50 (.t 49) 0) .unit,
  .p (.ext 51 (.t 49) 1) .unit,
  .p (.mv 2 (.t 50)) .unit,
  .p (.mv 3 (.t 51)) .unit])
 .ret))))))),
 52, 1, [.t 2, .t 3]⟩
theorem m_impl_TokenText : mH Try.prog 35 [(4, 21, (.m 0)), (5, 4, (.m 0)), (9, 2, (.m 0)), (11, 0, (.m 0))] = some (F_impl_TokenText.code.x, F_impl_TokenText.N, F_impl_TokenText.np, F_impl_TokenText.res) := by kernel_rfl
noncomputable def T_impl_TokenText : Int × Int × Int × Int × Int × List (Int) → Option ((List UInt8) × Bool) := evF [fn_impl_TokenOk, fn_impl_octets, fn_impl_varText, fn___strings_Builder__WriteString, fn___strings_Builder__String, fn_impl_Sealed] F_impl_TokenText [.agg (.pair (.int .i64) (.pair (.int .i64) (.pair (.int .i64) (.pair (.int .i64) (.pair (.int .i64) (.sl false (.int .i64)))))))] [] [.cell .str, .cell .bool] []
noncomputable def fn_impl_TokenText : TFn := ⟨35, [.agg (.pair (.int .i64) (.pair (.int .i64) (.pair (.int .i64) (.pair (.int .i64) (.pair (.int .i64) (.sl false (.int .i64)))))))], [], [.cell .str, .cell .bool], [], T_impl_TokenText⟩
theorem ok_impl_TokenText : FnOk Try.prog fn_impl_TokenText := evF_ok mixed (allOk_cons ok_impl_TokenOk (allOk_cons ok_impl_octets (allOk_cons ok_impl_varText (allOk_cons ok___strings_Builder__WriteString (allOk_cons ok___strings_Builder__String (allOk_cons ok_impl_Sealed allOk_nil)))))) m_impl_TokenText (by decide)
def F_impl_Unsealed : TF := ⟨(.seq (.reg none [.p (.mv 2 (.c (.string (ba [])))) .unit,
  .p (.mv 3 (.c (.bool false))) .unit])
 (.seq (.reg none [.p (.mv 5 (.t 0)) .unit,
  .p (.lenS 6 (.t 5)) .unit,
  .p (.bin 7 false .sub (.t 6) (.c (.int .i64 4))) .unit,
  .p (.mv 4 (.t 7)) .unit])
 (.seq (.seq (.join ⟨[(0, true), (4, false), (23, false)], [.cell .str, .cell (.int .i64), .cell .bool]⟩ (.reg (some [[], [0], [1], [2], [3, 2], [2, 4], [5, 2], [6], [6], [7, 8, 6], [9, 6, 6], [6], [6], [11, 12, 6], [10, 13, 6], [6, 14]]) [.p (.mv 8 (.t 4)) .unit,
  .p (.bin 9 false .lss (.t 8) (.c (.int .i64 0))) .unit,
  .p (.mv 10 (.t 9)) .unit,
  .g 10 false (some 11) (.mv 11 (.t 4)) .unit,
  .g 10 false (some 12) (.bin 12 false .gtr (.t 11) (.c (.int .i64 20000))) .unit,
  .p (.pick 13 (.t 10) (.c (.bool true)) (.t 12)) .unit,
  .p (.mv 14 (.t 13)) .unit,
  .g 14 false (some 15) (.mv 15 (.t 0)) .unit,
  .g 14 false (some 16) (.mv 16 (.t 4)) .unit,
  .g 14 false (some 17) (.slcS 17 (.t 15) none (some (.t 16))) .unit,
  .g 14 false (some 18) (.callB 18 n_impl_sumText [((.t 17), 0)]) .unit,
  .g 14 false (some 19) (.mv 19 (.t 0)) .unit,
  .g 14 false (some 20) (.mv 20 (.t 4)) .unit,
  .g 14 false (some 21) (.slcS 21 (.t 19) (some (.t 20)) none) .unit,
  .g 14 false (some 22) (.bin 22 false .neq (.t 18) (.t 21)) .unit,
  .p (.pick 23 (.t 14) (.c (.bool true)) (.t 22)) .unit]))
 (.cond (.t 23) (.seq (.reg none [.p (.mv 2 (.c (.string (ba [])))) .unit,
  .p (.mv 3 (.c (.bool false))) .unit])
 .ret) .skip))
 (.seq (.reg none [.p (.mv 24 (.t 0)) .unit,
  .p (.mv 25 (.t 4)) .unit,
  .p (.slcS 26 (.t 24) none (some (.t 25))) .unit,
  .p (.mv 2 (.t 26)) .unit,
  .p (.mv 3 (.c (.bool true))) .unit])
 .ret)))),
 27, 1, [.t 2, .t 3]⟩
theorem m_impl_Unsealed : mH Try.prog 76 [] = some (F_impl_Unsealed.code.x, F_impl_Unsealed.N, F_impl_Unsealed.np, F_impl_Unsealed.res) := by kernel_rfl
noncomputable def T_impl_Unsealed : List UInt8 → Option ((List UInt8) × Bool) := evF [fn_impl_sumText] F_impl_Unsealed [.cell .str] [] [.cell .str, .cell .bool] []
noncomputable def fn_impl_Unsealed : TFn := ⟨76, [.cell .str], [], [.cell .str, .cell .bool], [], T_impl_Unsealed⟩
theorem ok_impl_Unsealed : FnOk Try.prog fn_impl_Unsealed := evF_ok mixed (allOk_cons ok_impl_sumText allOk_nil) m_impl_Unsealed (by decide)
def F___impl_scanner__take : TF := ⟨(.seq (.reg none [.p (.mv 4 (.c (.string (ba [])))) .unit])
 (.seq (.seq (.join ⟨[(0, true), (1, true), (22, false)], [.box (.pair .str (.pair (.int .i64) .bool)), .cell (.int .i64), .cell .bool]⟩ (.reg (some [[], [0], [1], [2], [3], [4], [4], [6, 4], [7, 4], [8, 4], [9, 4], [4], [11, 4], [12, 4], [13, 4], [10, 14, 4], [5, 15, 4], [4, 16]]) [.p (.mvA 5 0) .unit,
  .p (.nilck 6 (.t 5)) .unit,
  .p (.fadr 7 (.t 6) 2) .unit,
  .p (.load 8 (.t 7) 1 false) .unit,
  .p (.mv 9 (.t 8)) .unit,
  .g 9 false (some 10) (.mv 10 (.t 1)) .unit,
  .g 9 false (some 11) (.mvA 11 0) .unit,
  .g 9 false (some 12) (.nilck 12 (.t 11)) .unit,
  .g 9 false (some 13) (.fadr 13 (.t 12) 0) .unit,
  .g 9 false (some 14) (.load 14 (.t 13) 1 false) .unit,
  .g 9 false (some 15) (.lenS 15 (.t 14)) .unit,
  .g 9 false (some 16) (.mvA 16 0) .unit,
  .g 9 false (some 17) (.nilck 17 (.t 16)) .unit,
  .g 9 false (some 18) (.fadr 18 (.t 17) 1) .unit,
  .g 9 false (some 19) (.load 19 (.t 18) 1 false) .unit,
  .g 9 false (some 20) (.bin 20 false .sub (.t 15) (.t 19)) .unit,
  .g 9 false (some 21) (.bin 21 false .gtr (.t 10) (.t 20)) .unit,
  .p (.pick 22 (.t 9) (.c (.bool true)) (.t 21)) .unit]))
 (.cond (.t 22) (.seq (.reg none [.p (.mvA 23 0) .unit,
  .p (.nilck 24 (.t 23)) .unit,
  .p (.fadr 25 (.t 24) 2) .unit,
  .p (.store (.t 25) (.c (.bool true)) 1) .unit])
 (.seq (.reg none [.p (.mv 4 (.c (.string (ba [])))) .unit])
 .ret)) .skip))
 (.seq (.reg none [.p (.mvA 26 0) .unit,
  .p (.nilck 27 (.t 26)) .unit,
  .p (.fadr 28 (.t 27) 1) .unit,
  .p (.load 29 (.t 28) 1 false) .unit,
  .p (.mv 30 (.t 1)) .unit,
  .p (.bin 31 false .add (.t 29) (.t 30)) .unit,
  .p (.nilck 32 (.t 26)) .unit,
  .p (.fadr 33 (.t 32) 1) .unit,
  .p (.store (.t 33) (.t 31) 1) .unit])
 (.seq (.reg (some [[], [0], [1], [2], [], [4], [5], [6], [], [7, 8], [], [10], [11], [12], [3, 9, 13], [14, 0, 1, 2, 3, 4, 5, 6, 7, 8, 9, 10, 11, 12, 13, 14]]) [.p (.mvA 34 0) .unit,
  .p (.nilck 35 (.t 34)) .unit,
  .p (.fadr 36 (.t 35) 0) .unit,
  .p (.load 37 (.t 36) 1 false) .unit,
  .p (.mvA 38 0) .unit,
  .p (.nilck 39 (.t 38)) .unit,
  .p (.fadr 40 (.t 39) 1) .unit,
  .p (.load 41 (.t 40) 1 false) .unit,
  .p (.mv 42 (.t 1)) .unit,
  .p (.bin 43 false .sub (.t 41) (.t 42)) .unit,
  .p (.mvA 44 0) .unit,
  .p (.nilck 45 (.t 44)) .unit,
  .p (.fadr 46 (.t 45) 1) .unit,
  .p (.load 47 (.t 46) 1 false) .unit,
  .p (.slcS 48 (.t 37) (some (.t 43)) (some (.t 47))) .unit,
  .p (.mv 4 (.t 48)) .unit])
 .ret)))),
 49, 2, [.t 4]⟩
theorem m___impl_scanner__take : mH Try.prog 128 [(1, 0, .v), (1, 6, .v), (1, 11, .v), (2, 0, .v), (4, 0, .v), (5, 0, .v), (5, 4, .v), (5, 10, .v)] = some (F___impl_scanner__take.code.x, F___impl_scanner__take.N, F___impl_scanner__take.np, F___impl_scanner__take.res) := by kernel_rfl
noncomputable def T___impl_scanner__take : (List UInt8 × Int × Bool) × Int → Option ((List UInt8) × List UInt8 × Int × Bool) := evF [] F___impl_scanner__take [.box (.pair .str (.pair (.int .i64) .bool)), .cell (.int .i64)] [0] [.cell .str] [.box (.pair .str (.pair (.int .i64) .bool))]
noncomputable def fn___impl_scanner__take : TFn := ⟨128, [.box (.pair .str (.pair (.int .i64) .bool)), .cell (.int .i64)], [0], [.cell .str], [.box (.pair .str (.pair (.int .i64) .bool))], T___impl_scanner__take⟩
theorem ok___impl_scanner__take : FnOk Try.prog fn___impl_scanner__take := evF_ok mixed allOk_nil m___impl_scanner__take (by decide)
def F___impl_scanner__octet : TF := ⟨(.seq (.reg none [.p (.mv 2 (.c (.int .i64 0))) .unit])
 (.seq (.reg none [.p (.mvA 4 0) .unit,
  .p (.callM 5 n___impl_scanner__take [] (.ptr (.t 4) 0) [((.c (.int .i64 1)), 0)]) .unit,
  .p (.mv 3 (.t 5)) .unit])
 (.seq (.seq (.reg none [.p (.mv 6 (.t 3)) .unit,
  .p (.bin 7 false .eql (.t 6) (.c (.string (ba [])))) .unit])
 (.cond (.t 7) (.seq (.reg none [.p (.mv 2 (.c (.int .i64 0))) .unit])
 .ret) .skip))
 (.seq (.reg none [.p (.mv 8 (.t 3)) .unit,
  .p (.idx 9 (.t 8) (.c (.int .i64 0))) .unit,
  .p (.cvi 10 .i64 .u8 (.t 9)) .unit,
  .p (.mv 2 (.t 10)) .unit])
 .ret)))),
 11, 1, [.t 2]⟩
theorem m___impl_scanner__octet : mH Try.prog 62 [(1, 0, .v), (1, 1, (.p 0 0))] = some (F___impl_scanner__octet.code.x, F___impl_scanner__octet.N, F___impl_scanner__octet.np, F___impl_scanner__octet.res) := by kernel_rfl
noncomputable def T___impl_scanner__octet : List UInt8 × Int × Bool → Option ((Int) × List UInt8 × Int × Bool) := evF [fn___impl_scanner__take] F___impl_scanner__octet [.box (.pair .str (.pair (.int .i64) .bool))] [0] [.cell (.int .i64)] [.box (.pair .str (.pair (.int .i64) .bool))]
noncomputable def fn___impl_scanner__octet : TFn := ⟨62, [.box (.pair .str (.pair (.int .i64) .bool))], [0], [.cell (.int .i64)], [.box (.pair .str (.pair (.int .i64) .bool))], T___impl_scanner__octet⟩
theorem ok___impl_scanner__octet : FnOk Try.prog fn___impl_scanner__octet := evF_ok mixed (allOk_cons ok___impl_scanner__take allOk_nil) m___impl_scanner__octet (by decide)
def B_impl_ReadVar_1 : TC := (.seq (.seq (.join ⟨[(0, true), (1, true), (7, false), (8, false), (9, false), (28, false)], [.cell .str, .cell (.int .i64), .cell (.int .i64), .cell (.int .i64), .cell (.int .i64), .cell .bool]⟩ (.reg none [.p (.mv 19 (.t 9)) .unit,
  .p (.bin 20 false .lss (.t 19) (.c (.int .i64 5))) .unit,
  .p (.mv 21 (.t 20)) .unit,
  .g 21 true (some 22) (.mv 22 (.t 1)) .unit,
  .g 21 true (some 23) (.mv 23 (.t 9)) .unit,
  .g 21 true (some 24) (.bin 24 false .add (.t 22) (.t 23)) .unit,
  .g 21 true (some 25) (.mv 25 (.t 0)) .unit,
  .g 21 true (some 26) (.lenS 26 (.t 25)) .unit,
  .g 21 true (some 27) (.bin 27 false .lss (.t 24) (.t 26)) .unit,
  .p (.pick 28 (.t 21) (.t 27) (.c (.bool false))) .unit]))
 (.cond (.t 28) .skip (.exit 0)))
 (.seq (.block 1 (.seq (.reg none [.p (.mv 31 (.t 0)) .unit,
  .p (.mv 32 (.t 1)) .unit,
  .p (.mv 33 (.t 9)) .unit,
  .p (.bin 34 false .add (.t 32) (.t 33)) .unit,
  .p (.idx 35 (.t 31) (.t 34)) .unit,
  .p (.cvi 36 .i64 .u8 (.t 35)) .unit,
  .p (.mv 10 (.t 36)) .unit])
 (.seq (.reg none [.p (.mv 37 (.t 7)) .unit,
  .p (.mv 38 (.t 10)) .unit,
  .p (.bin 39 false .rem (.t 38) (.c (.int .i64 128))) .unit,
  .p (.mv 40 (.t 8)) .unit,
  .p (.bin 41 false .mul (.t 39) (.t 40)) .unit,
  .p (.bin 42 false .add (.t 37) (.t 41)) .unit,
  .p (.mv 7 (.t 42)) .unit])
 (.seq (.reg none [.p (.mv 43 (.t 8)) .unit,
  .p (.bin 44 false .mul (.t 43) (.c (.int .i64 128))) .unit,
  .p (.mv 8 (.t 44)) .unit])
 (.seq (.seq (.reg none [.p (.mv 45 (.t 10)) .unit,
  .p (.bin 46 false .geq (.t 45) (.c (.int .i64 128))) .unit])
 (.cond (.t 46) (.exit 1) .skip))
 (.seq (.seq (.join ⟨[(1, true), (7, false), (9, false), (56, false)], [.cell (.int .i64), .cell (.int .i64), .cell (.int .i64), .cell .bool]⟩ (.reg none [.p (.mv 47 (.t 10)) .unit,
  .p (.bin 48 false .eql (.t 47) (.c (.int .i64 0))) .unit,
  .p (.mv 49 (.t 48)) .unit,
  .g 49 true (some 50) (.mv 50 (.t 9)) .unit,
  .g 49 true (some 51) (.bin 51 false .gtr (.t 50) (.c (.int .i64 0))) .unit,
  .p (.pick 52 (.t 49) (.t 51) (.c (.bool false))) .unit,
  .p (.mv 53 (.t 52)) .unit,
  .g 53 false (some 54) (.mv 54 (.t 7)) .unit,
  .g 53 false (some 55) (.bin 55 false .gtr (.t 54) (.c (.int .i64 1000000000))) .unit,
  .p (.pick 56 (.t 53) (.c (.bool true)) (.t 55)) .unit]))
 (.cond (.t 56) (.seq (.reg none [.p (.mv 4 (.c (.int .i64 0))) .unit,
  .p (.mv 5 (.c (.int .i64 0))) .unit,
  .p (.mv 6 (.c (.bool false))) .unit])
 .ret) .skip))
 (.seq (.reg none [.p (.mv 57 (.t 7)) .unit,
  .p (.mv 58 (.t 1)) .unit,
  .p (.mv 59 (.t 9)) .unit,
  .p (.bin 60 false .add (.t 58) (.t 59)) .unit,
  .p (.bin 61 false .add (.t 60) (.c (.int .i64 1))) .unit,
  .p (.mv 4 (.t 57)) .unit,
  .p (.mv 5 (.t 61)) .unit,
  .p (.mv 6 (.c (.bool true))) .unit])
 .ret)))))))
 (.reg none [.p (.mv 29 (.t 9)) .unit,
  .p (.bin 30 false .add (.t 29) (.c (.int .i64 1))) .unit,
  .p (.mv 9 (.t 30)) .unit])))
noncomputable def L_impl_ReadVar_1 : Nat → (List UInt8) × (Int) × (Int) × (Int) × Int → Option ((Unit) ⊕ ((Int) × (Int) × Bool)) := evL [] (finT [.t 4, .t 5, .t 6] [] [.cell (.int .i64), .cell (.int .i64), .cell .bool]) 0 ⟨[(0, true), (1, true), (7, false), (8, false), (9, false)], [.cell .str, .cell (.int .i64), .cell (.int .i64), .cell (.int .i64), .cell (.int .i64)]⟩ ⟨[], []⟩ B_impl_ReadVar_1
def F_impl_ReadVar : TF := ⟨(.seq (.reg none [.p (.mv 4 (.c (.int .i64 0))) .unit,
  .p (.mv 5 (.c (.int .i64 0))) .unit,
  .p (.mv 6 (.c (.bool false))) .unit])
 (.seq (.seq (.join ⟨[(0, true), (1, true), (18, false)], [.cell .str, .cell (.int .i64), .cell .bool]⟩ (.reg none [.p (.mv 11 (.t 1)) .unit,
  .p (.bin 12 false .lss (.t 11) (.c (.int .i64 0))) .unit,
  .p (.mv 13 (.t 12)) .unit,
  .g 13 false (some 14) (.mv 14 (.t 1)) .unit,
  .g 13 false (some 15) (.mv 15 (.t 0)) .unit,
  .g 13 false (some 16) (.lenS 16 (.t 15)) .unit,
  .g 13 false (some 17) (.bin 17 false .gtr (.t 14) (.t 16)) .unit,
  .p (.pick 18 (.t 13) (.c (.bool true)) (.t 17)) .unit]))
 (.cond (.t 18) (.seq (.reg none [.p (.mv 4 (.c (.int .i64 0))) .unit,
  .p (.mv 5 (.c (.int .i64 0))) .unit,
  .p (.mv 6 (.c (.bool false))) .unit])
 .ret) .skip))
 (.seq (.reg none [.p (.mv 7 (.c (.int .i64 0))) .unit,
  .p (.mv 8 (.c (.int .i64 1))) .unit])
 (.seq (.seq (.reg none [.p (.mv 9 (.c (.int .i64 0))) .unit])
 (.jl 0 ⟨[(0, true), (1, true), (7, false), (8, false), (9, false)], [.cell .str, .cell (.int .i64), .cell (.int .i64), .cell (.int .i64), .cell (.int .i64)]⟩ ⟨[], []⟩ B_impl_ReadVar_1))
 (.seq (.reg none [.p (.mv 4 (.c (.int .i64 0))) .unit,
  .p (.mv 5 (.c (.int .i64 0))) .unit,
  .p (.mv 6 (.c (.bool false))) .unit])
 .ret))))),
 62, 2, [.t 4, .t 5, .t 6]⟩
theorem m_impl_ReadVar : mH Try.prog 127 [] = some (F_impl_ReadVar.code.x, F_impl_ReadVar.N, F_impl_ReadVar.np, F_impl_ReadVar.res) := by kernel_rfl
noncomputable def T_impl_ReadVar : (List UInt8) × Int → Option ((Int) × (Int) × Bool) := evF [] F_impl_ReadVar [.cell .str, .cell (.int .i64)] [] [.cell (.int .i64), .cell (.int .i64), .cell .bool] []
noncomputable def fn_impl_ReadVar : TFn := ⟨127, [.cell .str, .cell (.int .i64)], [], [.cell (.int .i64), .cell (.int .i64), .cell .bool], [], T_impl_ReadVar⟩
theorem ok_impl_ReadVar : FnOk Try.prog fn_impl_ReadVar := evF_ok mixed allOk_nil m_impl_ReadVar (by decide)
def F___impl_scanner__number : TF := ⟨(.seq (.reg none [.p (.mv 2 (.c (.int .i64 0))) .unit])
 (.seq (.reg (some [[], [0], [1], [2], [], [4], [5], [6], [3, 7], [8], [9], [9], [9], [10, 8, 0, 1, 2, 3, 4, 5, 6, 7, 8, 9, 10], [11, 13, 0, 1, 2, 3, 4, 5, 6, 7, 8, 9, 10, 11, 13], [12, 14, 0, 1, 2, 3, 4, 5, 6, 7, 8, 9, 10, 11, 12, 13, 14]]) [.p (.mvA 7 0) .unit,
  .p (.nilck 8 (.t 7)) .unit,
  .p (.fadr 9 (.t 8) 0) .unit,
  .p (.load 10 (.t 9) 1 false) .unit,
  .p (.mvA 11 0) .unit,
  .p (.nilck 12 (.t 11)) .unit,
  .p (.fadr 13 (.t 12) 1) .unit,
  .p (.load 14 (.t 13) 1 false) .unit,
  .p (.callB 15 n_impl_ReadVar [((.t 10), 0), ((.t 14), 0)]) .unit,
  .p (.mv 6 (.t 15)) .unit,
  .p (.ext 16 (.t 6) 0) .unit,
  .p (.ext 17 (.t 6) 1) .unit,
  .p (.ext 18 (.t 6) 2) .unit,
  .p (.mv 3 (.t 16)) .unit,
  .p (.mv 4 (.t 17)) .unit,
  .p (.mv 5 (.t 18)) .unit])
 (.seq (.seq (.join ⟨[(0, true), (3, false), (4, false), (26, false)], [.box (.pair .str (.pair (.int .i64) .bool)), .cell (.int .i64), .cell (.int .i64), .cell .bool]⟩ (.reg none [.p (.mvA 19 0) .unit,
  .p (.nilck 20 (.t 19)) .unit,
  .p (.fadr 21 (.t 20) 2) .unit,
  .p (.load 22 (.t 21) 1 false) .unit,
  .p (.mv 23 (.t 22)) .unit,
  .g 23 false (some 24) (.mv 24 (.t 5)) .unit,
  .g 23 false (some 25) (.un 25 .not (.t 24)) .unit,
  .p (.pick 26 (.t 23) (.c (.bool true)) (.t 25)) .unit]))
 (.cond (.t 26) (.seq (.reg none [.p (.mvA 27 0) .unit,
  .p (.nilck 28 (.t 27)) .unit,
  .p (.fadr 29 (.t 28) 2) .unit,
  .p (.store (.t 29) (.c (.bool true)) 1) .unit])
 (.seq (.reg none [.p (.mv 2 (.c (.int .i64 0))) .unit])
 .ret)) .skip))
 (.seq (.reg none [.p (.mvA 30 0) .unit,
  .p (.mv 31 (.t 4)) .unit,
  .p (.nilck 32 (.t 30)) .unit,
  .p (.fadr 33 (.t 32) 1) .unit,
  .p (.store (.t 33) (.t 31) 1) .unit])
 (.seq (.reg none [.p (.mv 34 (.t 3)) .unit,
  .p (.mv 2 (.t 34)) .unit])
 .ret))))),
 35, 1, [.t 2]⟩
theorem m___impl_scanner__number : mH Try.prog 61 [(1, 0, .v), (1, 4, .v), (2, 0, .v), (3, 0, .v), (5, 0, .v)] = some (F___impl_scanner__number.code.x, F___impl_scanner__number.N, F___impl_scanner__number.np, F___impl_scanner__number.res) := by kernel_rfl
noncomputable def T___impl_scanner__number : List UInt8 × Int × Bool → Option ((Int) × List UInt8 × Int × Bool) := evF [fn_impl_ReadVar] F___impl_scanner__number [.box (.pair .str (.pair (.int .i64) .bool))] [0] [.cell (.int .i64)] [.box (.pair .str (.pair (.int .i64) .bool))]
noncomputable def fn___impl_scanner__number : TFn := ⟨61, [.box (.pair .str (.pair (.int .i64) .bool))], [0], [.cell (.int .i64)], [.box (.pair .str (.pair (.int .i64) .bool))], T___impl_scanner__number⟩
theorem ok___impl_scanner__number : FnOk Try.prog fn___impl_scanner__number := evF_ok mixed (allOk_cons ok_impl_ReadVar allOk_nil) m___impl_scanner__number (by decide)
def F___impl_scanner__count : TF := ⟨(.seq (.reg none [.p (.mv 4 (.c (.int .i64 0))) .unit])
 (.seq (.reg none [.p (.mvA 6 0) .unit,
  .p (.callM 7 n___impl_scanner__number [] (.ptr (.t 6) 0) []) .unit,
  .p (.mv 5 (.t 7)) .unit])
 (.seq (.seq (.reg none [.p (.mv 8 (.t 5)) .unit,
  .p (.mv 9 (.t 1)) .unit,
  .p (.bin 10 false .gtr (.t 8) (.t 9)) .unit])
 (.cond (.t 10) (.seq (.reg none [.p (.mvA 11 0) .unit,
  .p (.nilck 12 (.t 11)) .unit,
  .p (.fadr 13 (.t 12) 2) .unit,
  .p (.store (.t 13) (.c (.bool true)) 1) .unit])
 (.seq (.reg none [.p (.mv 4 (.c (.int .i64 0))) .unit])
 .ret)) .skip))
 (.seq (.reg none [.p (.mv 14 (.t 5)) .unit,
  .p (.mv 4 (.t 14)) .unit])
 .ret)))),
 15, 2, [.t 4]⟩
theorem m___impl_scanner__count : mH Try.prog 77 [(1, 0, .v), (1, 1, (.p 0 0)), (3, 0, .v)] = some (F___impl_scanner__count.code.x, F___impl_scanner__count.N, F___impl_scanner__count.np, F___impl_scanner__count.res) := by kernel_rfl
noncomputable def T___impl_scanner__count : (List UInt8 × Int × Bool) × Int → Option ((Int) × List UInt8 × Int × Bool) := evF [fn___impl_scanner__number] F___impl_scanner__count [.box (.pair .str (.pair (.int .i64) .bool)), .cell (.int .i64)] [0] [.cell (.int .i64)] [.box (.pair .str (.pair (.int .i64) .bool))]
noncomputable def fn___impl_scanner__count : TFn := ⟨77, [.box (.pair .str (.pair (.int .i64) .bool)), .cell (.int .i64)], [0], [.cell (.int .i64)], [.box (.pair .str (.pair (.int .i64) .bool))], T___impl_scanner__count⟩
theorem ok___impl_scanner__count : FnOk Try.prog fn___impl_scanner__count := evF_ok mixed (allOk_cons ok___impl_scanner__number allOk_nil) m___impl_scanner__count (by decide)
def F___impl_scanner__done : TF := ⟨(.seq (.reg none [.p (.mv 2 (.c (.bool false))) .unit])
 (.seq (.reg (some [[], [0], [1], [2], [3], [4], [5], [6, 5], [7, 5], [8, 5], [5], [10, 5], [11, 5], [12, 5], [13, 5], [9, 14, 5], [5, 15], [16, 5, 0, 1, 2, 3, 4, 5, 6, 7, 8, 9, 10, 11, 12, 13, 14, 15, 16]]) [.p (.mv 3 (.t 0)) .unit,
  .p (.nilck 4 (.t 3)) .unit,
  .p (.fadr 5 (.t 4) 2) .unit,
  .p (.load 6 (.t 5) 1 false) .unit,
  .p (.un 7 .not (.t 6)) .unit,
  .p (.mv 8 (.t 7)) .unit,
  .g 8 true (some 9) (.mv 9 (.t 0)) .unit,
  .g 8 true (some 10) (.nilck 10 (.t 9)) .unit,
  .g 8 true (some 11) (.fadr 11 (.t 10) 1) .unit,
  .g 8 true (some 12) (.load 12 (.t 11) 1 false) .unit,
  .g 8 true (some 13) (.mv 13 (.t 0)) .unit,
  .g 8 true (some 14) (.nilck 14 (.t 13)) .unit,
  .g 8 true (some 15) (.fadr 15 (.t 14) 0) .unit,
  .g 8 true (some 16) (.load 16 (.t 15) 1 false) .unit,
  .g 8 true (some 17) (.lenS 17 (.t 16)) .unit,
  .g 8 true (some 18) (.bin 18 false .eql (.t 12) (.t 17)) .unit,
  .p (.pick 19 (.t 8) (.t 18) (.c (.bool false))) .unit,
  .p (.mv 2 (.t 19)) .unit])
 .ret)),
 20, 1, [.t 2]⟩
theorem m___impl_scanner__done : mH Try.prog 64 [] = some (F___impl_scanner__done.code.x, F___impl_scanner__done.N, F___impl_scanner__done.np, F___impl_scanner__done.res) := by kernel_rfl
noncomputable def T___impl_scanner__done : List UInt8 × Int × Bool → Option (Bool) := evF [] F___impl_scanner__done [.rp (.pair .str (.pair (.int .i64) .bool))] [] [.cell .bool] []
noncomputable def fn___impl_scanner__done : TFn := ⟨64, [.rp (.pair .str (.pair (.int .i64) .bool))], [], [.cell .bool], [], T___impl_scanner__done⟩
theorem ok___impl_scanner__done : FnOk Try.prog fn___impl_scanner__done := evF_ok mixed allOk_nil m___impl_scanner__done (by decide)
def B_impl_ReadToken_1 : TC := (.seq (.reg none [.p (.bin 30 false .lss (.t 29) (.t 28)) .unit])
 (.seq (.cond (.t 30) .skip (.exit 0))
 (.seq (.block 1 (.seq (.reg none [.p (.callM 31 n___impl_scanner__number [] (.tmp 6) []) .unit,
  .p (.mv 8 (.t 31)) .unit])
 (.reg none [.p (.fadr 32 (.t 7) 5) .unit,
  .p (.load 33 (.t 32) 1 false) .unit,
  .p (.mv 34 (.t 8)) .unit,
  .p (.bldS 35 1 [(.lit (.int .i64 0))] [⟨0, 1, (.t 34)⟩]) (.int .i64),
  .p (.appC 36 1 8 33 (.t 35) false) (.int .i64),
  .p (.fadr 37 (.t 7) 5) .unit,
  .p (.storeT (.t 37) 36 1) .unit])))
 (.reg none [.p (.bin 38 false .add (.t 29) (.c (.int .i64 1))) .unit,
  .p (.mv 29 (.t 38)) .unit]))))
noncomputable def L_impl_ReadToken_1 : Nat → (Int × Int × Int × Int × Int × List (Int)) × (List UInt8 × Int × Bool) × (Int × Int × Int × Int × Int × List (Int)) × (Int) × Int → Option (((Int × Int × Int × Int × Int × List (Int)) × (List UInt8 × Int × Bool) × Int × Int × Int × Int × Int × List (Int)) ⊕ ((Int × Int × Int × Int × Int × List (Int)) × Bool)) := evL [fn_impl_Unsealed, fn___impl_scanner__octet, fn___impl_scanner__number, fn___impl_scanner__count, fn___impl_scanner__done, fn_impl_TokenOk] (finT [.c 2 6 true, .t 3] [] [.agg (.pair (.int .i64) (.pair (.int .i64) (.pair (.int .i64) (.pair (.int .i64) (.pair (.int .i64) (.sl true (.int .i64))))))), .cell .bool]) 0 ⟨[(2, false), (6, false), (7, false), (28, false), (29, false)], [.box (.pair (.int .i64) (.pair (.int .i64) (.pair (.int .i64) (.pair (.int .i64) (.pair (.int .i64) (.sl true (.int .i64))))))), .box (.pair .str (.pair (.int .i64) .bool)), .box (.pair (.int .i64) (.pair (.int .i64) (.pair (.int .i64) (.pair (.int .i64) (.pair (.int .i64) (.sl true (.int .i64))))))), .cell (.int .i64), .cell (.int .i64)]⟩ ⟨[(2, false), (6, false), (7, false)], [.box (.pair (.int .i64) (.pair (.int .i64) (.pair (.int .i64) (.pair (.int .i64) (.pair (.int .i64) (.sl true (.int .i64))))))), .box (.pair .str (.pair (.int .i64) .bool)), .box (.pair (.int .i64) (.pair (.int .i64) (.pair (.int .i64) (.pair (.int .i64) (.pair (.int .i64) (.sl true (.int .i64)))))))]⟩ B_impl_ReadToken_1
def F_impl_ReadToken : TF := ⟨(.seq (.reg none [.p (.alloc 2 [(.lit (.int .i64 0)), (.lit (.int .i64 0)), (.lit (.int .i64 0)), (.lit (.int .i64 0)), (.lit (.int .i64 0)), (.sl true 1 [])]) .unit,
  .p (.mv 3 (.c (.bool false))) .unit])
 (.seq (.reg none [.p (.mv 10 (.t 0)) .unit,
  .p (.callB 11 n_impl_Unsealed [((.t 10), 0)]) .unit,
  .p (.mv 9 (.t 11)) .unit,
  .p (.ext 12 (.t 9) 0) .unit,
  .p (.ext 13 (.t 9) 1) .unit,
  .p (.mv 4 (.t 12)) .unit,
  .p (.mv 5 (.t 13)) .unit])
 (.seq (.reg none [.p (.mv 14 (.t 4)) .unit,
  .p (.mv 15 (.t 5)) .unit,
  .p (.un 16 .not (.t 15)) .unit,
  .p (.bld 17 [(.lit (.string (ba []))), (.lit (.int .i64 0)), (.lit (.bool false))] [⟨0, 1, (.t 14)⟩, ⟨2, 1, (.t 16)⟩]) .unit,
  .p (.alloc 6 [(.lit (.string (ba []))), (.lit (.int .i64 0)), (.lit (.bool false))]) .unit,
  .p (.store (.t 6) (.t 17) 3) .unit])
 (.seq (.reg none [.p (.callM 18 n___impl_scanner__octet [] (.tmp 6) []) .unit,
  .p (.bld 19 [(.lit (.int .i64 0)), (.lit (.int .i64 0)), (.lit (.int .i64 0)), (.lit (.int .i64 0)), (.lit (.int .i64 0)), (.sl true 1 [])] [⟨0, 1, (.t 18)⟩]) .unit,
  .p (.alloc 7 [(.lit (.int .i64 0)), (.lit (.int .i64 0)), (.lit (.int .i64 0)), (.lit (.int .i64 0)), (.lit (.int .i64 0)), (.sl true 1 [])]) .unit,
  .p (.storeT (.t 7) 19 6) .unit])
 (.seq (.reg none [.p (.callM 20 n___impl_scanner__number [] (.tmp 6) []) .unit,
  .p (.fadr 21 (.t 7) 1) .unit,
  .p (.store (.t 21) (.t 20) 1) .unit])
 (.seq (.reg none [.p (.callM 22 n___impl_scanner__number [] (.tmp 6) []) .unit,
  .p (.fadr 23 (.t 7) 2) .unit,
  .p (.store (.t 23) (.t 22) 1) .unit])
 (.seq (.reg none [.p (.callM 24 n___impl_scanner__number [] (.tmp 6) []) .unit,
  .p (.fadr 25 (.t 7) 3) .unit,
  .p (.store (.t 25) (.t 24) 1) .unit])
 (.seq (.reg none [.p (.callM 26 n___impl_scanner__octet [] (.tmp 6) []) .unit,
  .p (.fadr 27 (.t 7) 4) .unit,
  .p (.store (.t 27) (.t 26) 1) .unit])
 (.seq (.seq (.reg none [.p (.callM 28 n___impl_scanner__count [] (.tmp 6) [((.c (.int .i64 20)), 0)]) .unit,
  .p (.mv 29 (.c (.int .i64 0))) .unit])
 (.jl 0 ⟨[(2, false), (6, false), (7, false), (28, false), (29, false)], [.box (.pair (.int .i64) (.pair (.int .i64) (.pair (.int .i64) (.pair (.int .i64) (.pair (.int .i64) (.sl true (.int .i64))))))), .box (.pair .str (.pair (.int .i64) .bool)), .box (.pair (.int .i64) (.pair (.int .i64) (.pair (.int .i64) (.pair (.int .i64) (.pair (.int .i64) (.sl true (.int .i64))))))), .cell (.int .i64), .cell (.int .i64)]⟩ ⟨[(2, false), (6, false), (7, false)], [.box (.pair (.int .i64) (.pair (.int .i64) (.pair (.int .i64) (.pair (.int .i64) (.pair (.int .i64) (.sl true (.int .i64))))))), .box (.pair .str (.pair (.int .i64) .bool)), .box (.pair (.int .i64) (.pair (.int .i64) (.pair (.int .i64) (.pair (.int .i64) (.pair (.int .i64) (.sl true (.int .i64)))))))]⟩ B_impl_ReadToken_1))
 (.seq (.seq (.join ⟨[(2, false), (7, false), (45, false)], [.box (.pair (.int .i64) (.pair (.int .i64) (.pair (.int .i64) (.pair (.int .i64) (.pair (.int .i64) (.sl true (.int .i64))))))), .box (.pair (.int .i64) (.pair (.int .i64) (.pair (.int .i64) (.pair (.int .i64) (.pair (.int .i64) (.sl true (.int .i64))))))), .cell .bool]⟩ (.reg none [.p (.callB 39 n___impl_scanner__done [((.t 6), 0)]) .unit,
  .p (.un 40 .not (.t 39)) .unit,
  .p (.mv 41 (.t 40)) .unit,
  .g 41 false (some 42) (.load 42 (.t 7) 6 true) .unit,
  .g 41 false (some 43) (.callB 43 n_impl_TokenOk [((.t 42), 0)]) .unit,
  .g 41 false (some 44) (.un 44 .not (.t 43)) .unit,
  .p (.pick 45 (.t 41) (.c (.bool true)) (.t 44)) .unit]))
 (.cond (.t 45) (.seq (.reg none [.p (.bld 46 [(.lit (.int .i64 0)), (.lit (.int .i64 0)), (.lit (.int .i64 0)), (.lit (.int .i64 0)), (.lit (.int .i64 0)), (.sl true 1 [])] []) .unit,
  .p (.storeT (.t 2) 46 6) .unit,
  .p (.mv 3 (.c (.bool false))) .unit])
 .ret) .skip))
 (.seq (.reg none [.p (.loadT 47 (.t 7) 6 true) .unit,
  .p (.storeT (.t 2) 47 6) .unit,
  .p (.mv 3 (.c (.bool true))) .unit])
 .ret))))))))))),
 48, 1, [.c 2 6 true, .t 3]⟩
theorem m_impl_ReadToken : mH Try.prog 20 [(3, 0, (.m 0)), (3, 3, .t), (4, 0, (.m 0)), (5, 0, (.m 0)), (6, 0, (.m 0)), (7, 0, (.m 0)), (8, 0, (.m 0)), (10, 0, (.m 0)), (11, 4, .z), (11, 6, .t), (14, 1, .t), (15, 0, .t), (15, 1, .t)] = some (F_impl_ReadToken.code.x, F_impl_ReadToken.N, F_impl_ReadToken.np, F_impl_ReadToken.res) := by kernel_rfl
noncomputable def T_impl_ReadToken : List UInt8 → Option ((Int × Int × Int × Int × Int × List (Int)) × Bool) := evF [fn_impl_Unsealed, fn___impl_scanner__octet, fn___impl_scanner__number, fn___impl_scanner__count, fn___impl_scanner__done, fn_impl_TokenOk] F_impl_ReadToken [.cell .str] [] [.agg (.pair (.int .i64) (.pair (.int .i64) (.pair (.int .i64) (.pair (.int .i64) (.pair (.int .i64) (.sl true (.int .i64))))))), .cell .bool] []
noncomputable def fn_impl_ReadToken : TFn := ⟨20, [.cell .str], [], [.agg (.pair (.int .i64) (.pair (.int .i64) (.pair (.int .i64) (.pair (.int .i64) (.pair (.int .i64) (.sl true (.int .i64))))))), .cell .bool], [], T_impl_ReadToken⟩
theorem ok_impl_ReadToken : FnOk Try.prog fn_impl_ReadToken := evF_ok mixed (allOk_cons ok_impl_Unsealed (allOk_cons ok___impl_scanner__octet (allOk_cons ok___impl_scanner__number (allOk_cons ok___impl_scanner__count (allOk_cons ok___impl_scanner__done (allOk_cons ok_impl_TokenOk allOk_nil)))))) m_impl_ReadToken (by decide)
def F_spec_l01In : TF := ⟨(.seq (.reg none [.p (.mv 6 (.c (.bool false))) .unit])
 (.seq (.reg none [.p (.mv 7 (.t 0)) .unit,
  .p (.mv 8 (.t 1)) .unit,
  .p (.bin 9 false .geq (.t 7) (.t 8)) .unit,
  .p (.mv 10 (.t 9)) .unit,
  .g 10 true (some 11) (.mv 11 (.t 0)) .unit,
  .g 10 true (some 12) (.mv 12 (.t 2)) .unit,
  .g 10 true (some 13) (.bin 13 false .leq (.t 11) (.t 12)) .unit,
  .p (.pick 14 (.t 10) (.t 13) (.c (.bool false))) .unit,
  .p (.mv 6 (.t 14)) .unit])
 .ret)),
 15, 3, [.t 6]⟩
theorem m_spec_l01In : mH Try.prog 65 [] = some (F_spec_l01In.code.x, F_spec_l01In.N, F_spec_l01In.np, F_spec_l01In.res) := by kernel_rfl
noncomputable def T_spec_l01In : (Int) × (Int) × Int → Option (Bool) := evF [] F_spec_l01In [.cell (.int .i64), .cell (.int .i64), .cell (.int .i64)] [] [.cell .bool] []
noncomputable def fn_spec_l01In : TFn := ⟨65, [.cell (.int .i64), .cell (.int .i64), .cell (.int .i64)], [], [.cell .bool], [], T_spec_l01In⟩
theorem ok_spec_l01In : FnOk Try.prog fn_spec_l01In := evF_ok mixed allOk_nil m_spec_l01In (by decide)
def B_spec_TokenOk_1 : TC := (.seq (.seq (.reg none [.p (.mv 40 (.t 3)) .unit,
  .p (.fadr 41 (.t 1) 5) .unit,
  .p (.load 42 (.t 41) 1 false) .unit,
  .p (.lenB 43 (.t 42)) .unit,
  .p (.bin 44 false .lss (.t 40) (.t 43)) .unit])
 (.cond (.t 44) .skip (.exit 0)))
 (.seq (.block 1 (.seq (.join ⟨[(1, false), (3, false), (73, false)], [.box (.pair (.int .i64) (.pair (.int .i64) (.pair (.int .i64) (.pair (.int .i64) (.pair (.int .i64) (.sl false (.int .i64))))))), .cell (.int .i64), .cell .bool]⟩ (.reg (some [[], [0], [], [1, 2], [3], [], [5], [4, 6], [7], [8, 7], [9], [10, 9], [11, 9, 9], [12], [13, 12], [12], [15, 12], [14, 16, 12], [17, 12], [12], [19, 12], [12], [20, 21, 12], [22, 12], [18, 23, 12], [12, 24, 9], [9, 25]]) [.p (.fadr 47 (.t 1) 5) .unit,
  .p (.load 48 (.t 47) 1 false) .unit,
  .p (.mv 49 (.t 3)) .unit,
  .p (.iadr 50 1 (.t 48) (.t 49)) .unit,
  .p (.load 51 (.t 50) 1 false) .unit,
  .p (.fadr 52 (.t 1) 2) .unit,
  .p (.load 53 (.t 52) 1 false) .unit,
  .p (.callB 54 n_spec_l01In [((.t 51), 0), ((.c (.int .i64 1)), 0), ((.t 53), 0)]) .unit,
  .p (.un 55 .not (.t 54)) .unit,
  .p (.mv 56 (.t 55)) .unit,
  .g 56 false (some 57) (.mv 57 (.t 3)) .unit,
  .g 56 false (some 58) (.bin 58 false .gtr (.t 57) (.c (.int .i64 0))) .unit,
  .g 56 false (some 59) (.mv 59 (.t 58)) .unit,
  .g 59 true (some 60) (.fadr 60 (.t 1) 5) .unit,
  .g 59 true (some 61) (.load 61 (.t 60) 1 false) .unit,
  .g 59 true (some 62) (.mv 62 (.t 3)) .unit,
  .g 59 true (some 63) (.bin 63 false .sub (.t 62) (.c (.int .i64 1))) .unit,
  .g 59 true (some 64) (.iadr 64 1 (.t 61) (.t 63)) .unit,
  .g 59 true (some 65) (.load 65 (.t 64) 1 false) .unit,
  .g 59 true (some 66) (.fadr 66 (.t 1) 5) .unit,
  .g 59 true (some 67) (.load 67 (.t 66) 1 false) .unit,
  .g 59 true (some 68) (.mv 68 (.t 3)) .unit,
  .g 59 true (some 69) (.iadr 69 1 (.t 67) (.t 68)) .unit,
  .g 59 true (some 70) (.load 70 (.t 69) 1 false) .unit,
  .g 59 true (some 71) (.bin 71 false .geq (.t 65) (.t 70)) .unit,
  .g 56 false (some 72) (.pick 72 (.t 59) (.t 71) (.c (.bool false))) .unit,
  .p (.pick 73 (.t 56) (.c (.bool true)) (.t 72)) .unit]))
 (.cond (.t 73) (.seq (.reg none [.p (.mv 2 (.c (.bool false))) .unit])
 .ret) .skip)))
 (.reg none [.p (.mv 45 (.t 3)) .unit,
  .p (.bin 46 false .add (.t 45) (.c (.int .i64 1))) .unit,
  .p (.mv 3 (.t 46)) .unit])))
noncomputable def L_spec_TokenOk_1 : Nat → (Int × Int × Int × Int × Int × List (Int)) × Int → Option ((Unit) ⊕ (Bool)) := evL [fn_spec_l01In] (finT [.t 2] [] [.cell .bool]) 0 ⟨[(1, false), (3, false)], [.box (.pair (.int .i64) (.pair (.int .i64) (.pair (.int .i64) (.pair (.int .i64) (.pair (.int .i64) (.sl false (.int .i64))))))), .cell (.int .i64)]⟩ ⟨[], []⟩ B_spec_TokenOk_1
def F_spec_TokenOk : TF := ⟨(.seq (.reg none [.p (.box 1 (.t 0)) .unit,
  .p (.mv 2 (.c (.bool false))) .unit])
 (.seq (.seq (.join ⟨[(1, false), (39, false)], [.box (.pair (.int .i64) (.pair (.int .i64) (.pair (.int .i64) (.pair (.int .i64) (.pair (.int .i64) (.sl false (.int .i64))))))), .cell .bool]⟩ (.reg none [.p (.fadr 4 (.t 1) 0) .unit,
  .p (.load 5 (.t 4) 1 false) .unit,
  .p (.callB 6 n_spec_l01In [((.t 5), 0), ((.c (.int .i64 1)), 0), ((.c (.int .i64 9)), 0)]) .unit,
  .p (.un 7 .not (.t 6)) .unit,
  .p (.mv 8 (.t 7)) .unit,
  .g 8 false (some 9) (.fadr 9 (.t 1) 1) .unit,
  .g 8 false (some 10) (.load 10 (.t 9) 1 false) .unit,
  .g 8 false (some 11) (.callB 11 n_spec_l01In [((.t 10), 0), ((.c (.int .i64 1)), 0), ((.c (.int .i64 1000000000)), 0)]) .unit,
  .g 8 false (some 12) (.un 12 .not (.t 11)) .unit,
  .p (.pick 13 (.t 8) (.c (.bool true)) (.t 12)) .unit,
  .p (.mv 14 (.t 13)) .unit,
  .g 14 false (some 15) (.fadr 15 (.t 1) 2) .unit,
  .g 14 false (some 16) (.load 16 (.t 15) 1 false) .unit,
  .g 14 false (some 17) (.callB 17 n_spec_l01In [((.t 16), 0), ((.c (.int .i64 0)), 0), ((.c (.int .i64 60)), 0)]) .unit,
  .g 14 false (some 18) (.un 18 .not (.t 17)) .unit,
  .p (.pick 19 (.t 14) (.c (.bool true)) (.t 18)) .unit,
  .p (.mv 20 (.t 19)) .unit,
  .g 20 false (some 21) (.fadr 21 (.t 1) 3) .unit,
  .g 20 false (some 22) (.load 22 (.t 21) 1 false) .unit,
  .g 20 false (some 23) (.fadr 23 (.t 1) 2) .unit,
  .g 20 false (some 24) (.load 24 (.t 23) 1 false) .unit,
  .g 20 false (some 25) (.callB 25 n_spec_l01In [((.t 22), 0), ((.c (.int .i64 0)), 0), ((.t 24), 0)]) .unit,
  .g 20 false (some 26) (.un 26 .not (.t 25)) .unit,
  .p (.pick 27 (.t 20) (.c (.bool true)) (.t 26)) .unit,
  .p (.mv 28 (.t 27)) .unit,
  .g 28 false (some 29) (.fadr 29 (.t 1) 4) .unit,
  .g 28 false (some 30) (.load 30 (.t 29) 1 false) .unit,
  .g 28 false (some 31) (.callB 31 n_spec_l01In [((.t 30), 0), ((.c (.int .i64 0)), 0), ((.c (.int .i64 5)), 0)]) .unit,
  .g 28 false (some 32) (.un 32 .not (.t 31)) .unit,
  .p (.pick 33 (.t 28) (.c (.bool true)) (.t 32)) .unit,
  .p (.mv 34 (.t 33)) .unit,
  .g 34 false (some 35) (.fadr 35 (.t 1) 5) .unit,
  .g 34 false (some 36) (.load 36 (.t 35) 1 false) .unit,
  .g 34 false (some 37) (.lenB 37 (.t 36)) .unit,
  .g 34 false (some 38) (.bin 38 false .gtr (.t 37) (.c (.int .i64 20))) .unit,
  .p (.pick 39 (.t 34) (.c (.bool true)) (.t 38)) .unit]))
 (.cond (.t 39) (.seq (.reg none [.p (.mv 2 (.c (.bool false))) .unit])
 .ret) .skip))
 (.seq (.seq (.reg none [.p (.mv 3 (.c (.int .i64 0))) .unit])
 (.jl 0 ⟨[(1, false), (3, false)], [.box (.pair (.int .i64) (.pair (.int .i64) (.pair (.int .i64) (.pair (.int .i64) (.pair (.int .i64) (.sl false (.int .i64))))))), .cell (.int .i64)]⟩ ⟨[], []⟩ B_spec_TokenOk_1))
 (.seq (.reg none [.p (.mv 2 (.c (.bool true))) .unit])
 .ret)))),
 74, 1, [.t 2]⟩
theorem m_spec_TokenOk : mH Try.prog 36 [] = some (F_spec_TokenOk.code.x, F_spec_TokenOk.N, F_spec_TokenOk.np, F_spec_TokenOk.res) := by kernel_rfl
noncomputable def T_spec_TokenOk : Int × Int × Int × Int × Int × List (Int) → Option (Bool) := evF [fn_spec_l01In] F_spec_TokenOk [.agg (.pair (.int .i64) (.pair (.int .i64) (.pair (.int .i64) (.pair (.int .i64) (.pair (.int .i64) (.sl false (.int .i64)))))))] [] [.cell .bool] []
noncomputable def fn_spec_TokenOk : TFn := ⟨36, [.agg (.pair (.int .i64) (.pair (.int .i64) (.pair (.int .i64) (.pair (.int .i64) (.pair (.int .i64) (.sl false (.int .i64)))))))], [], [.cell .bool], [], T_spec_TokenOk⟩
theorem ok_spec_TokenOk : FnOk Try.prog fn_spec_TokenOk := evF_ok mixed (allOk_cons ok_spec_l01In allOk_nil) m_spec_TokenOk (by decide)
def B_laws_sameInts_1 : TC := (.seq (.seq (.reg none [.p (.mv 11 (.t 5)) .unit,
  .p (.mv 12 (.t 0)) .unit,
  .p (.lenB 13 (.t 12)) .unit,
  .p (.bin 14 false .lss (.t 11) (.t 13)) .unit])
 (.cond (.t 14) .skip (.exit 0)))
 (.seq (.block 1 (.seq (.reg (some [[], [], [0, 1], [2], [], [], [4, 5], [6], [3, 7]]) [.p (.mv 17 (.t 0)) .unit,
  .p (.mv 18 (.t 5)) .unit,
  .p (.iadr 19 1 (.t 17) (.t 18)) .unit,
  .p (.load 20 (.t 19) 1 false) .unit,
  .p (.mv 21 (.t 1)) .unit,
  .p (.mv 22 (.t 5)) .unit,
  .p (.iadr 23 1 (.t 21) (.t 22)) .unit,
  .p (.load 24 (.t 23) 1 false) .unit,
  .p (.bin 25 false .neq (.t 20) (.t 24)) .unit])
 (.cond (.t 25) (.seq (.reg none [.p (.mv 4 (.c (.bool false))) .unit])
 .ret) .skip)))
 (.reg none [.p (.mv 15 (.t 5)) .unit,
  .p (.bin 16 false .add (.t 15) (.c (.int .i64 1))) .unit,
  .p (.mv 5 (.t 16)) .unit])))
noncomputable def L_laws_sameInts_1 : Nat → (List (Int)) × (List (Int)) × Int → Option ((Unit) ⊕ (Bool)) := evL [] (finT [.t 4] [] [.cell .bool]) 0 ⟨[(0, true), (1, true), (5, false)], [.cell (.sl false (.int .i64)), .cell (.sl false (.int .i64)), .cell (.int .i64)]⟩ ⟨[], []⟩ B_laws_sameInts_1
def F_laws_sameInts : TF := ⟨(.seq (.reg none [.p (.mv 4 (.c (.bool false))) .unit])
 (.seq (.seq (.reg none [.p (.mv 6 (.t 0)) .unit,
  .p (.lenB 7 (.t 6)) .unit,
  .p (.mv 8 (.t 1)) .unit,
  .p (.lenB 9 (.t 8)) .unit,
  .p (.bin 10 false .neq (.t 7) (.t 9)) .unit])
 (.cond (.t 10) (.seq (.reg none [.p (.mv 4 (.c (.bool false))) .unit])
 .ret) .skip))
 (.seq (.seq (.reg none [.p (.mv 5 (.c (.int .i64 0))) .unit])
 (.jl 0 ⟨[(0, true), (1, true), (5, false)], [.cell (.sl false (.int .i64)), .cell (.sl false (.int .i64)), .cell (.int .i64)]⟩ ⟨[], []⟩ B_laws_sameInts_1))
 (.seq (.reg none [.p (.mv 4 (.c (.bool true))) .unit])
 .ret)))),
 26, 2, [.t 4]⟩
theorem m_laws_sameInts : mH Try.prog 38 [] = some (F_laws_sameInts.code.x, F_laws_sameInts.N, F_laws_sameInts.np, F_laws_sameInts.res) := by kernel_rfl
noncomputable def T_laws_sameInts : (List (Int)) × List (Int) → Option (Bool) := evF [] F_laws_sameInts [.cell (.sl false (.int .i64)), .cell (.sl false (.int .i64))] [] [.cell .bool] []
noncomputable def fn_laws_sameInts : TFn := ⟨38, [.cell (.sl false (.int .i64)), .cell (.sl false (.int .i64))], [], [.cell .bool], [], T_laws_sameInts⟩
theorem ok_laws_sameInts : FnOk Try.prog fn_laws_sameInts := evF_ok mixed allOk_nil m_laws_sameInts (by decide)
def F_spec_l05Byte : TF := ⟨(.seq (.reg none [.p (.mv 2 (.c (.string (ba [])))) .unit])
 (.seq (.reg none [.p (.mv 3 (.t 0)) .unit,
  .p (.cvi 4 .u8 .i64 (.t 3)) .unit,
  .p (.bldS 5 1 [(.lit (.int .u8 0))] [⟨0, 1, (.t 4)⟩]) (.int .u8),
  .p (.b2s 6 (.t 5)) .unit,
  .p (.mv 2 (.t 6)) .unit])
 .ret)),
 7, 1, [.t 2]⟩
theorem m_spec_l05Byte : mH Try.prog 105 [] = some (F_spec_l05Byte.code.x, F_spec_l05Byte.N, F_spec_l05Byte.np, F_spec_l05Byte.res) := by kernel_rfl
noncomputable def T_spec_l05Byte : Int → Option (List UInt8) := evF [] F_spec_l05Byte [.cell (.int .i64)] [] [.cell .str] []
noncomputable def fn_spec_l05Byte : TFn := ⟨105, [.cell (.int .i64)], [], [.cell .str], [], T_spec_l05Byte⟩
theorem ok_spec_l05Byte : FnOk Try.prog fn_spec_l05Byte := evF_ok mixed allOk_nil m_spec_l05Byte (by decide)
def B_spec_l01Var_1 : TC := (.seq (.seq (.reg none [.p (.mv 5 (.t 0)) .unit,
  .p (.bin 6 false .gtr (.t 5) (.c (.int .i64 127))) .unit])
 (.cond (.t 6) .skip (.exit 0)))
 (.block 1 (.seq (.reg none [.p (.mvT 7 3) .unit,
  .p (.mv 8 (.t 0)) .unit,
  .p (.bin 9 false .rem (.t 8) (.c (.int .i64 128))) .unit,
  .p (.bin 10 false .add (.t 9) (.c (.int .i64 128))) .unit,
  .p (.cvi 11 .u8 .i64 (.t 10)) .unit,
  .p (.bldS 12 1 [(.lit (.int .u8 0))] [⟨0, 1, (.t 11)⟩]) (.int .u8),
  .p (.app 13 1 1 (.t 7) (.t 12)) (.int .u8),
  .p (.mvT 3 13) .unit])
 (.reg none [.p (.mv 14 (.t 0)) .unit,
  .p (.bin 15 false .quo (.t 14) (.c (.int .i64 128))) .unit,
  .p (.mv 0 (.t 15)) .unit]))))
noncomputable def L_spec_l01Var_1 : Nat → (Int) × List (Int) → Option (((Int) × List (Int)) ⊕ (List UInt8)) := evL [] (finT [.t 2] [] [.cell .str]) 0 ⟨[(0, false), (3, false)], [.cell (.int .i64), .cell (.sl true (.int .u8))]⟩ ⟨[(0, false), (3, false)], [.cell (.int .i64), .cell (.sl true (.int .u8))]⟩ B_spec_l01Var_1
def F_spec_l01Var : TF := ⟨(.seq (.reg none [.p (.mv 2 (.c (.string (ba [])))) .unit])
 (.seq (.reg none [.p (.bldS 4 0 [(.lit (.int .u8 0))] []) (.int .u8),
  .p (.mvT 3 4) .unit])
 (.seq (.jl 0 ⟨[(0, false), (3, false)], [.cell (.int .i64), .cell (.sl true (.int .u8))]⟩ ⟨[(0, false), (3, false)], [.cell (.int .i64), .cell (.sl true (.int .u8))]⟩ B_spec_l01Var_1)
 (.seq (.reg none [.p (.mvT 16 3) .unit,
  .p (.mv 17 (.t 0)) .unit,
  .p (.cvi 18 .u8 .i64 (.t 17)) .unit,
  .p (.bldS 19 1 [(.lit (.int .u8 0))] [⟨0, 1, (.t 18)⟩]) (.int .u8),
  .p (.app 20 1 1 (.t 16) (.t 19)) (.int .u8),
  .p (.b2s 21 (.t 20)) .unit,
  .p (.mv 2 (.t 21)) .unit])
 .ret)))),
 22, 1, [.t 2]⟩
theorem m_spec_l01Var : mH Try.prog 106 [(1, 1, .t), (3, 0, .t), (3, 7, .t), (5, 0, .t)] = some (F_spec_l01Var.code.x, F_spec_l01Var.N, F_spec_l01Var.np, F_spec_l01Var.res) := by kernel_rfl
noncomputable def T_spec_l01Var : Int → Option (List UInt8) := evF [] F_spec_l01Var [.cell (.int .i64)] [] [.cell .str] []
noncomputable def fn_spec_l01Var : TFn := ⟨106, [.cell (.int .i64)], [], [.cell .str], [], T_spec_l01Var⟩
theorem ok_spec_l01Var : FnOk Try.prog fn_spec_l01Var := evF_ok mixed allOk_nil m_spec_l01Var (by decide)
def B_spec_SumMore_1 : TC := (.seq (.seq (.reg none [.p (.mv 20 (.t 6)) .unit,
  .p (.bin 21 false .lss (.t 20) (.c (.int .i64 8))) .unit])
 (.cond (.t 21) .skip (.exit 2)))
 (.seq (.join ⟨[(0, false), (1, true), (5, false), (6, false)], [.cell (.int .u32), .cell .str, .cell (.int .i64), .cell (.int .i64)]⟩ (.block 3 (.seq (.reg none [.p (.mv 24 (.t 0)) .unit,
  .p (.bin 25 false .rem (.t 24) (.c (.int .u32 2))) .unit,
  .p (.bin 26 false .eql (.t 25) (.c (.int .u32 1))) .unit,
  .p (.mv 7 (.t 26)) .unit])
 (.seq (.reg none [.p (.mv 27 (.t 0)) .unit,
  .p (.bin 28 false .quo (.t 27) (.c (.int .u32 2))) .unit,
  .p (.mv 0 (.t 28)) .unit])
 (.seq (.reg none [.p (.mv 29 (.t 7)) .unit])
 (.cond (.t 29) (.reg none [.p (.mv 30 (.t 0)) .unit,
  .p (.bin 31 false .xor (.t 30) (.c (.int .u32 3558460437))) .unit,
  .p (.mv 0 (.t 31)) .unit]) .skip))))))
 (.reg none [.p (.mv 22 (.t 6)) .unit,
  .p (.bin 23 false .add (.t 22) (.c (.int .i64 1))) .unit,
  .p (.mv 6 (.t 23)) .unit])))
noncomputable def L_spec_SumMore_1 : Nat → (Int) × (List UInt8) × (Int) × Int → Option (((Int) × (List UInt8) × Int) ⊕ (Int)) := evL [] (finT [.t 4] [] [.cell (.int .u32)]) 2 ⟨[(0, false), (1, true), (5, false), (6, false)], [.cell (.int .u32), .cell .str, .cell (.int .i64), .cell (.int .i64)]⟩ ⟨[(0, false), (1, true), (5, false)], [.cell (.int .u32), .cell .str, .cell (.int .i64)]⟩ B_spec_SumMore_1
def B_spec_SumMore_2 : TC := (.seq (.seq (.reg none [.p (.mv 8 (.t 5)) .unit,
  .p (.mv 9 (.t 1)) .unit,
  .p (.lenS 10 (.t 9)) .unit,
  .p (.bin 11 false .lss (.t 8) (.t 10)) .unit])
 (.cond (.t 11) .skip (.exit 0)))
 (.seq (.block 1 (.seq (.reg none [.p (.mv 14 (.t 0)) .unit,
  .p (.mv 15 (.t 1)) .unit,
  .p (.mv 16 (.t 5)) .unit,
  .p (.idx 17 (.t 15) (.t 16)) .unit,
  .p (.cvi 18 .u32 .u8 (.t 17)) .unit,
  .p (.bin 19 false .xor (.t 14) (.t 18)) .unit,
  .p (.mv 0 (.t 19)) .unit])
 (.seq (.reg none [.p (.mv 6 (.c (.int .i64 0))) .unit])
 (.jl 2 ⟨[(0, false), (1, true), (5, false), (6, false)], [.cell (.int .u32), .cell .str, .cell (.int .i64), .cell (.int .i64)]⟩ ⟨[(0, false), (1, true), (5, false)], [.cell (.int .u32), .cell .str, .cell (.int .i64)]⟩ B_spec_SumMore_1))))
 (.reg none [.p (.mv 12 (.t 5)) .unit,
  .p (.bin 13 false .add (.t 12) (.c (.int .i64 1))) .unit,
  .p (.mv 5 (.t 13)) .unit])))
noncomputable def L_spec_SumMore_2 : Nat → (Int) × (List UInt8) × Int → Option ((Int) ⊕ (Int)) := evL [] (finT [.t 4] [] [.cell (.int .u32)]) 0 ⟨[(0, false), (1, true), (5, false)], [.cell (.int .u32), .cell .str, .cell (.int .i64)]⟩ ⟨[(0, false)], [.cell (.int .u32)]⟩ B_spec_SumMore_2
def F_spec_SumMore : TF := ⟨(.seq (.reg none [.p (.mv 4 (.c (.int .u32 0))) .unit])
 (.seq (.seq (.reg none [.p (.mv 5 (.c (.int .i64 0))) .unit])
 (.jl 0 ⟨[(0, false), (1, true), (5, false)], [.cell (.int .u32), .cell .str, .cell (.int .i64)]⟩ ⟨[(0, false)], [.cell (.int .u32)]⟩ B_spec_SumMore_2))
 (.seq (.reg none [.p (.mv 32 (.t 0)) .unit,
  .p (.mv 4 (.t 32)) .unit])
 .ret))),
 33, 2, [.t 4]⟩
theorem m_spec_SumMore : mH Try.prog 159 [] = some (F_spec_SumMore.code.x, F_spec_SumMore.N, F_spec_SumMore.np, F_spec_SumMore.res) := by kernel_rfl
noncomputable def T_spec_SumMore : (Int) × List UInt8 → Option (Int) := evF [] F_spec_SumMore [.cell (.int .u32), .cell .str] [] [.cell (.int .u32)] []
noncomputable def fn_spec_SumMore : TFn := ⟨159, [.cell (.int .u32), .cell .str], [], [.cell (.int .u32)], [], T_spec_SumMore⟩
theorem ok_spec_SumMore : FnOk Try.prog fn_spec_SumMore := evF_ok mixed allOk_nil m_spec_SumMore (by decide)
def F_spec_SumOf : TF := ⟨(.seq (.reg none [.p (.mv 2 (.c (.int .u32 0))) .unit])
 (.seq (.reg none [.p (.mv 3 (.t 0)) .unit,
  .p (.callB 4 n_spec_SumMore [((.c (.int .u32 4294967295)), 0), ((.t 3), 0)]) .unit,
  .p (.mv 2 (.t 4)) .unit])
 .ret)),
 5, 1, [.t 2]⟩
theorem m_spec_SumOf : mH Try.prog 133 [] = some (F_spec_SumOf.code.x, F_spec_SumOf.N, F_spec_SumOf.np, F_spec_SumOf.res) := by kernel_rfl
noncomputable def T_spec_SumOf : List UInt8 → Option (Int) := evF [fn_spec_SumMore] F_spec_SumOf [.cell .str] [] [.cell (.int .u32)] []
noncomputable def fn_spec_SumOf : TFn := ⟨133, [.cell .str], [], [.cell (.int .u32)], [], T_spec_SumOf⟩
theorem ok_spec_SumOf : FnOk Try.prog fn_spec_SumOf := evF_ok mixed (allOk_cons ok_spec_SumMore allOk_nil) m_spec_SumOf (by decide)
def F_spec_l02Four : TF := ⟨(.seq (.reg none [.p (.mv 2 (.c (.string (ba [])))) .unit])
 (.seq (.reg none [.p (.mv 3 (.t 0)) .unit,
  .p (.bin 4 false .shr (.t 3) (.c (.int .u64 24))) .unit,
  .p (.cvi 5 .u8 .u32 (.t 4)) .unit,
  .p (.mv 6 (.t 0)) .unit,
  .p (.bin 7 false .shr (.t 6) (.c (.int .u64 16))) .unit,
  .p (.cvi 8 .u8 .u32 (.t 7)) .unit,
  .p (.mv 9 (.t 0)) .unit,
  .p (.bin 10 false .shr (.t 9) (.c (.int .u64 8))) .unit,
  .p (.cvi 11 .u8 .u32 (.t 10)) .unit,
  .p (.mv 12 (.t 0)) .unit,
  .p (.cvi 13 .u8 .u32 (.t 12)) .unit,
  .p (.bldS 14 4 [(.lit (.int .u8 0))] [⟨0, 1, (.t 5)⟩, ⟨1, 1, (.t 8)⟩, ⟨2, 1, (.t 11)⟩, ⟨3, 1, (.t 13)⟩]) (.int .u8),
  .p (.b2s 15 (.t 14)) .unit,
  .p (.mv 2 (.t 15)) .unit])
 .ret)),
 16, 1, [.t 2]⟩
theorem m_spec_l02Four : mH Try.prog 132 [] = some (F_spec_l02Four.code.x, F_spec_l02Four.N, F_spec_l02Four.np, F_spec_l02Four.res) := by kernel_rfl
noncomputable def T_spec_l02Four : Int → Option (List UInt8) := evF [] F_spec_l02Four [.cell (.int .u32)] [] [.cell .str] []
noncomputable def fn_spec_l02Four : TFn := ⟨132, [.cell (.int .u32)], [], [.cell .str], [], T_spec_l02Four⟩
theorem ok_spec_l02Four : FnOk Try.prog fn_spec_l02Four := evF_ok mixed allOk_nil m_spec_l02Four (by decide)
def F_spec_Sealed : TF := ⟨(.seq (.reg none [.p (.mv 2 (.c (.string (ba [])))) .unit,
  .p (.mv 3 (.c (.bool false))) .unit])
 (.seq (.seq (.reg none [.p (.mv 4 (.t 0)) .unit,
  .p (.lenS 5 (.t 4)) .unit,
  .p (.bin 6 false .gtr (.t 5) (.c (.int .i64 20000))) .unit])
 (.cond (.t 6) (.seq (.reg none [.p (.mv 2 (.c (.string (ba [])))) .unit,
  .p (.mv 3 (.c (.bool false))) .unit])
 .ret) .skip))
 (.seq (.reg none [.p (.mv 7 (.t 0)) .unit,
  .p (.mv 8 (.t 0)) .unit,
  .p (.callB 9 n_spec_SumOf [((.t 8), 0)]) .unit,
  .p (.callB 10 n_spec_l02Four [((.t 9), 0)]) .unit,
  .p (.bin 11 false .add (.t 7) (.t 10)) .unit,
  .p (.mv 2 (.t 11)) .unit,
  .p (.mv 3 (.c (.bool true))) .unit])
 .ret))),
 12, 1, [.t 2, .t 3]⟩
theorem m_spec_Sealed : mH Try.prog 96 [] = some (F_spec_Sealed.code.x, F_spec_Sealed.N, F_spec_Sealed.np, F_spec_Sealed.res) := by kernel_rfl
noncomputable def T_spec_Sealed : List UInt8 → Option ((List UInt8) × Bool) := evF [fn_spec_SumOf, fn_spec_l02Four] F_spec_Sealed [.cell .str] [] [.cell .str, .cell .bool] []
noncomputable def fn_spec_Sealed : TFn := ⟨96, [.cell .str], [], [.cell .str, .cell .bool], [], T_spec_Sealed⟩
theorem ok_spec_Sealed : FnOk Try.prog fn_spec_Sealed := evF_ok mixed (allOk_cons ok_spec_SumOf (allOk_cons ok_spec_l02Four allOk_nil)) m_spec_Sealed (by decide)
def B_spec_TokenText_1 : TC := (.seq (.seq (.reg none [.p (.mv 33 (.t 5)) .unit,
  .p (.fadr 34 (.t 1) 5) .unit,
  .p (.load 35 (.t 34) 1 false) .unit,
  .p (.lenB 36 (.t 35)) .unit,
  .p (.bin 37 false .lss (.t 33) (.t 36)) .unit])
 (.cond (.t 37) .skip (.exit 0)))
 (.seq (.block 1 (.reg none [.p (.mv 40 (.t 4)) .unit,
  .p (.fadr 41 (.t 1) 5) .unit,
  .p (.load 42 (.t 41) 1 false) .unit,
  .p (.mv 43 (.t 5)) .unit,
  .p (.iadr 44 1 (.t 42) (.t 43)) .unit,
  .p (.load 45 (.t 44) 1 false) .unit,
  .p (.callB 46 n_spec_l01Var [((.t 45), 0)]) .unit,
  .p (.bin 47 false .add (.t 40) (.t 46)) .unit,
  .p (.mv 4 (.t 47)) .unit]))
 (.reg none [.p (.mv 38 (.t 5)) .unit,
  .p (.bin 39 false .add (.t 38) (.c (.int .i64 1))) .unit,
  .p (.mv 5 (.t 39)) .unit])))
noncomputable def L_spec_TokenText_1 : Nat → (Int × Int × Int × Int × Int × List (Int)) × (List UInt8) × Int → Option ((List UInt8) ⊕ ((List UInt8) × Bool)) := evL [fn_spec_TokenOk, fn_spec_l05Byte, fn_spec_l01Var, fn_spec_Sealed] (finT [.t 2, .t 3] [] [.cell .str, .cell .bool]) 0 ⟨[(1, false), (4, false), (5, false)], [.box (.pair (.int .i64) (.pair (.int .i64) (.pair (.int .i64) (.pair (.int .i64) (.pair (.int .i64) (.sl false (.int .i64))))))), .cell .str, .cell (.int .i64)]⟩ ⟨[(4, false)], [.cell .str]⟩ B_spec_TokenText_1
def F_spec_TokenText : TF := ⟨(.seq (.reg none [.p (.box 1 (.t 0)) .unit,
  .p (.mv 2 (.c (.string (ba [])))) .unit,
  .p (.mv 3 (.c (.bool false))) .unit])
 (.seq (.seq (.reg none [.p (.load 6 (.t 1) 6 true) .unit,
  .p (.callB 7 n_spec_TokenOk [((.t 6), 0)]) .unit,
  .p (.un 8 .not (.t 7)) .unit])
 (.cond (.t 8) (.seq (.reg none [.p (.mv 2 (.c (.string (ba [])))) .unit,
  .p (.mv 3 (.c (.bool false))) .unit])
 .ret) .skip))
 (.seq (.reg (some [[], [0], [1], [], [3], [4, 2], [2, 5], [], [7], [8, 5], [6, 9], [], [11], [12, 9], [10, 13], [], [15], [16, 13], [14, 17], [], [19], [20], [21, 17], [18, 22], [23, 22, 0, 1, 2, 3, 4, 5, 6, 7, 8, 9, 10, 11, 12, 13, 14, 15, 16, 17, 18, 19, 20, 21, 22, 23]]) [.p (.fadr 9 (.t 1) 0) .unit,
  .p (.load 10 (.t 9) 1 false) .unit,
  .p (.callB 11 n_spec_l05Byte [((.t 10), 0)]) .unit,
  .p (.fadr 12 (.t 1) 1) .unit,
  .p (.load 13 (.t 12) 1 false) .unit,
  .p (.callB 14 n_spec_l01Var [((.t 13), 0)]) .unit,
  .p (.bin 15 false .add (.t 11) (.t 14)) .unit,
  .p (.fadr 16 (.t 1) 2) .unit,
  .p (.load 17 (.t 16) 1 false) .unit,
  .p (.callB 18 n_spec_l01Var [((.t 17), 0)]) .unit,
  .p (.bin 19 false .add (.t 15) (.t 18)) .unit,
  .p (.fadr 20 (.t 1) 3) .unit,
  .p (.load 21 (.t 20) 1 false) .unit,
  .p (.callB 22 n_spec_l01Var [((.t 21), 0)]) .unit,
  .p (.bin 23 false .add (.t 19) (.t 22)) .unit,
  .p (.fadr 24 (.t 1) 4) .unit,
  .p (.load 25 (.t 24) 1 false) .unit,
  .p (.callB 26 n_spec_l05Byte [((.t 25), 0)]) .unit,
  .p (.bin 27 false .add (.t 23) (.t 26)) .unit,
  .p (.fadr 28 (.t 1) 5) .unit,
  .p (.load 29 (.t 28) 1 false) .unit,
  .p (.lenB 30 (.t 29)) .unit,
  .p (.callB 31 n_spec_l01Var [((.t 30), 0)]) .unit,
  .p (.bin 32 false .add (.t 27) (.t 31)) .unit,
  .p (.mv 4 (.t 32)) .unit])
 (.seq (.seq (.reg none [.p (.mv 5 (.c (.int .i64 0))) .unit])
 (.jl 0 ⟨[(1, false), (4, false), (5, false)], [.box (.pair (.int .i64) (.pair (.int .i64) (.pair (.int .i64) (.pair (.int .i64) (.pair (.int .i64) (.sl false (.int .i64))))))), .cell .str, .cell (.int .i64)]⟩ ⟨[(4, false)], [.cell .str]⟩ B_spec_TokenText_1))
 (.seq (.reg none [.p (.mv 48 (.t 4)) .unit,
  .p (.callB 49 n_spec_Sealed [((.t 48), 0)]) .unit,
  .p (.ext 50 (.t 49) 0) .unit,
  .p (.ext 51 (.t 49) 1) .unit,
  .p (.mv 2 (.t 50)) .unit,
  .p (.mv 3 (.t 51)) .unit])
 .ret))))),
 52, 1, [.t 2, .t 3]⟩
theorem m_spec_TokenText : mH Try.prog 75 [] = some (F_spec_TokenText.code.x, F_spec_TokenText.N, F_spec_TokenText.np, F_spec_TokenText.res) := by kernel_rfl
noncomputable def T_spec_TokenText : Int × Int × Int × Int × Int × List (Int) → Option ((List UInt8) × Bool) := evF [fn_spec_TokenOk, fn_spec_l05Byte, fn_spec_l01Var, fn_spec_Sealed] F_spec_TokenText [.agg (.pair (.int .i64) (.pair (.int .i64) (.pair (.int .i64) (.pair (.int .i64) (.pair (.int .i64) (.sl false (.int .i64)))))))] [] [.cell .str, .cell .bool] []
noncomputable def fn_spec_TokenText : TFn := ⟨75, [.agg (.pair (.int .i64) (.pair (.int .i64) (.pair (.int .i64) (.pair (.int .i64) (.pair (.int .i64) (.sl false (.int .i64)))))))], [], [.cell .str, .cell .bool], [], T_spec_TokenText⟩
theorem ok_spec_TokenText : FnOk Try.prog fn_spec_TokenText := evF_ok mixed (allOk_cons ok_spec_TokenOk (allOk_cons ok_spec_l05Byte (allOk_cons ok_spec_l01Var (allOk_cons ok_spec_Sealed allOk_nil)))) m_spec_TokenText (by decide)
def F_spec_Unsealed : TF := ⟨(.seq (.reg none [.p (.mv 2 (.c (.string (ba [])))) .unit,
  .p (.mv 3 (.c (.bool false))) .unit])
 (.seq (.reg none [.p (.mv 5 (.t 0)) .unit,
  .p (.lenS 6 (.t 5)) .unit,
  .p (.bin 7 false .sub (.t 6) (.c (.int .i64 4))) .unit,
  .p (.mv 4 (.t 7)) .unit])
 (.seq (.seq (.join ⟨[(0, true), (4, false), (24, false)], [.cell .str, .cell (.int .i64), .cell .bool]⟩ (.reg (some [[], [0], [1], [2], [3, 2], [2, 4], [5, 2], [6], [6], [7, 8, 6], [6], [6], [10, 11, 6], [12, 6, 6], [13, 13, 6], [9, 14, 6], [6, 15]]) [.p (.mv 8 (.t 4)) .unit,
  .p (.bin 9 false .lss (.t 8) (.c (.int .i64 0))) .unit,
  .p (.mv 10 (.t 9)) .unit,
  .g 10 false (some 11) (.mv 11 (.t 4)) .unit,
  .g 10 false (some 12) (.bin 12 false .gtr (.t 11) (.c (.int .i64 20000))) .unit,
  .p (.pick 13 (.t 10) (.c (.bool true)) (.t 12)) .unit,
  .p (.mv 14 (.t 13)) .unit,
  .g 14 false (some 15) (.mv 15 (.t 0)) .unit,
  .g 14 false (some 16) (.mv 16 (.t 4)) .unit,
  .g 14 false (some 17) (.slcS 17 (.t 15) (some (.t 16)) none) .unit,
  .g 14 false (some 18) (.mv 18 (.t 0)) .unit,
  .g 14 false (some 19) (.mv 19 (.t 4)) .unit,
  .g 14 false (some 20) (.slcS 20 (.t 18) none (some (.t 19))) .unit,
  .g 14 false (some 21) (.callB 21 n_spec_SumOf [((.t 20), 0)]) .unit,
  .g 14 false (some 22) (.callB 22 n_spec_l02Four [((.t 21), 0)]) .unit,
  .g 14 false (some 23) (.bin 23 false .neq (.t 17) (.t 22)) .unit,
  .p (.pick 24 (.t 14) (.c (.bool true)) (.t 23)) .unit]))
 (.cond (.t 24) (.seq (.reg none [.p (.mv 2 (.c (.string (ba [])))) .unit,
  .p (.mv 3 (.c (.bool false))) .unit])
 .ret) .skip))
 (.seq (.reg none [.p (.mv 25 (.t 0)) .unit,
  .p (.mv 26 (.t 4)) .unit,
  .p (.slcS 27 (.t 25) none (some (.t 26))) .unit,
  .p (.mv 2 (.t 27)) .unit,
  .p (.mv 3 (.c (.bool true))) .unit])
 .ret)))),
 28, 1, [.t 2, .t 3]⟩
theorem m_spec_Unsealed : mH Try.prog 74 [] = some (F_spec_Unsealed.code.x, F_spec_Unsealed.N, F_spec_Unsealed.np, F_spec_Unsealed.res) := by kernel_rfl
noncomputable def T_spec_Unsealed : List UInt8 → Option ((List UInt8) × Bool) := evF [fn_spec_SumOf, fn_spec_l02Four] F_spec_Unsealed [.cell .str] [] [.cell .str, .cell .bool] []
noncomputable def fn_spec_Unsealed : TFn := ⟨74, [.cell .str], [], [.cell .str, .cell .bool], [], T_spec_Unsealed⟩
theorem ok_spec_Unsealed : FnOk Try.prog fn_spec_Unsealed := evF_ok mixed (allOk_cons ok_spec_SumOf (allOk_cons ok_spec_l02Four allOk_nil)) m_spec_Unsealed (by decide)
def B_spec_l01Text_1 : TC := (.seq (.seq (.reg none [.p (.mv 10 (.t 6)) .unit,
  .p (.mv 11 (.t 1)) .unit,
  .p (.bin 12 false .lss (.t 10) (.t 11)) .unit])
 (.cond (.t 12) .skip (.exit 0)))
 (.seq (.block 1 (.reg none [.p (.mvT 15 5) .unit,
  .p (.mvA 16 0) .unit,
  .p (.callM 17 n_spec_l01Byte [] (.ptrS (.t 16) 0) []) .unit,
  .p (.cvi 18 .u8 .i64 (.t 17)) .unit,
  .p (.bldS 19 1 [(.lit (.int .u8 0))] [⟨0, 1, (.t 18)⟩]) (.int .u8),
  .p (.app 20 1 1 (.t 15) (.t 19)) (.int .u8),
  .p (.mvT 5 20) .unit]))
 (.reg none [.p (.mv 13 (.t 6)) .unit,
  .p (.bin 14 false .add (.t 13) (.c (.int .i64 1))) .unit,
  .p (.mv 6 (.t 14)) .unit])))
noncomputable def L_spec_l01Text_1 : Nat → (List (Int) × Int × Int) × (Int) × (List (Int)) × Int → Option (((List (Int) × Int × Int) × List (Int)) ⊕ ((List UInt8) × List (Int) × Int × Int)) := evL [fn_spec_l01Byte] (finT [.t 4] [0] [.cell .str, .box (.pair (.sl false (.int .u8)) (.pair (.int .i64) (.int .i64)))]) 0 ⟨[(0, true), (1, false), (5, false), (6, false)], [.box (.pair (.sl false (.int .u8)) (.pair (.int .i64) (.int .i64))), .cell (.int .i64), .cell (.sl true (.int .u8)), .cell (.int .i64)]⟩ ⟨[(0, true), (5, false)], [.box (.pair (.sl false (.int .u8)) (.pair (.int .i64) (.int .i64))), .cell (.sl true (.int .u8))]⟩ B_spec_l01Text_1
def F_spec_l01Text : TF := ⟨(.seq (.reg none [.p (.mv 4 (.c (.string (ba [])))) .unit])
 (.seq (.join ⟨[(0, true), (1, false)], [.box (.pair (.sl false (.int .u8)) (.pair (.int .i64) (.int .i64))), .cell (.int .i64)]⟩ (.seq (.reg none [.p (.mv 7 (.t 1)) .unit,
  .p (.bin 8 false .gtr (.t 7) (.c (.int .i64 5000))) .unit])
 (.cond (.t 8) (.reg none [.p (.mv 1 (.c (.int .i64 5000))) .unit]) .skip)))
 (.seq (.reg none [.p (.bldS 9 0 [(.lit (.int .u8 0))] []) (.int .u8),
  .p (.mvT 5 9) .unit])
 (.seq (.seq (.reg none [.p (.mv 6 (.c (.int .i64 0))) .unit])
 (.jl 0 ⟨[(0, true), (1, false), (5, false), (6, false)], [.box (.pair (.sl false (.int .u8)) (.pair (.int .i64) (.int .i64))), .cell (.int .i64), .cell (.sl true (.int .u8)), .cell (.int .i64)]⟩ ⟨[(0, true), (5, false)], [.box (.pair (.sl false (.int .u8)) (.pair (.int .i64) (.int .i64))), .cell (.sl true (.int .u8))]⟩ B_spec_l01Text_1))
 (.seq (.reg none [.p (.mvT 21 5) .unit,
  .p (.b2s 22 (.t 21)) .unit,
  .p (.mv 4 (.t 22)) .unit])
 .ret))))),
 23, 2, [.t 4]⟩
theorem m_spec_l01Text : mH Try.prog 129 [(3, 1, .t), (7, 0, .t), (7, 1, .v), (7, 2, (.ps 0 0)), (7, 6, .t), (8, 0, .t)] = some (F_spec_l01Text.code.x, F_spec_l01Text.N, F_spec_l01Text.np, F_spec_l01Text.res) := by kernel_rfl
noncomputable def T_spec_l01Text : (List (Int) × Int × Int) × Int → Option ((List UInt8) × List (Int) × Int × Int) := evF [fn_spec_l01Byte] F_spec_l01Text [.box (.pair (.sl false (.int .u8)) (.pair (.int .i64) (.int .i64))), .cell (.int .i64)] [0] [.cell .str] [.box (.pair (.sl false (.int .u8)) (.pair (.int .i64) (.int .i64)))]
noncomputable def fn_spec_l01Text : TFn := ⟨129, [.box (.pair (.sl false (.int .u8)) (.pair (.int .i64) (.int .i64))), .cell (.int .i64)], [0], [.cell .str], [.box (.pair (.sl false (.int .u8)) (.pair (.int .i64) (.int .i64)))], T_spec_l01Text⟩
theorem ok_spec_l01Text : FnOk Try.prog fn_spec_l01Text := evF_ok mixed (allOk_cons ok_spec_l01Byte allOk_nil) m_spec_l01Text (by decide)
def F_spec_l02Spoilt : TF := ⟨(.seq (.reg none [.p (.mv 4 (.c (.string (ba [])))) .unit])
 (.seq (.join ⟨[(0, true), (1, true)], [.box (.pair (.sl false (.int .u8)) (.pair (.int .i64) (.int .i64))), .cell .str]⟩ (.seq (.reg none [.p (.mvA 6 0) .unit,
  .p (.callM 7 n_spec_l01Below [] (.ptrS (.t 6) 0) [((.c (.int .i64 12)), 0)]) .unit])
 (.block 0 (.seq (.reg none [.p (.bin 9 false .eql (.t 7) (.c (.int .i64 0))) .unit,
  .p (.mv 8 (.t 9)) .unit])
 (.cond (.t 8) (.seq (.reg none [.p (.mv 10 (.t 1)) .unit,
  .p (.mvA 11 0) .unit,
  .p (.callM 12 n_spec_l01Text [] (.ptrS (.t 11) 0) [((.c (.int .i64 1)), 0)]) .unit,
  .p (.bin 13 false .add (.t 10) (.t 12)) .unit,
  .p (.mv 4 (.t 13)) .unit])
 .ret) (.seq (.reg none [.p (.bin 15 false .eql (.t 7) (.c (.int .i64 1))) .unit,
  .p (.mv 14 (.t 15)) .unit])
 (.cond (.t 14) (.seq (.reg none [.p (.mv 16 (.t 1)) .unit,
  .p (.mvA 17 0) .unit,
  .p (.mv 18 (.t 1)) .unit,
  .p (.lenS 19 (.t 18)) .unit,
  .p (.bin 20 false .add (.t 19) (.c (.int .i64 1))) .unit,
  .p (.callM 21 n_spec_l01Below [] (.ptrS (.t 17) 0) [((.t 20), 0)]) .unit,
  .p (.slcS 22 (.t 16) none (some (.t 21))) .unit,
  .p (.mv 4 (.t 22)) .unit])
 .ret) (.seq (.join ⟨[(0, true), (1, true), (23, false)], [.box (.pair (.sl false (.int .u8)) (.pair (.int .i64) (.int .i64))), .cell .str, .cell .bool]⟩ (.seq (.reg none [.p (.bin 24 false .eql (.t 7) (.c (.int .i64 2))) .unit,
  .p (.mv 23 (.t 24)) .unit])
 (.cond (.t 23) .skip (.reg none [.p (.bin 25 false .eql (.t 7) (.c (.int .i64 3))) .unit,
  .p (.mv 23 (.t 25)) .unit]))))
 (.cond (.t 23) (.seq (.reg none [.p (.mv 26 (.t 1)) .unit,
  .p (.lenS 27 (.t 26)) .unit,
  .p (.bin 28 false .gtr (.t 27) (.c (.int .i64 0))) .unit])
 (.cond (.t 28) (.seq (.reg none [.p (.mvA 29 0) .unit,
  .p (.mv 30 (.t 1)) .unit,
  .p (.lenS 31 (.t 30)) .unit,
  .p (.callM 32 n_spec_l01Below [] (.ptrS (.t 29) 0) [((.t 31), 0)]) .unit,
  .p (.mv 5 (.t 32)) .unit])
 (.seq (.reg (some [[], [], [0, 1], [], [3], [2, 4], [], [], [7], [6, 8], [5, 9], [10, 4, 0, 1, 2, 3, 4, 5, 6, 7, 8, 9, 10]]) [.p (.mv 33 (.t 1)) .unit,
  .p (.mv 34 (.t 5)) .unit,
  .p (.slcS 35 (.t 33) none (some (.t 34))) .unit,
  .p (.mvA 36 0) .unit,
  .p (.callM 37 n_spec_l01Text [] (.ptrS (.t 36) 0) [((.c (.int .i64 1)), 0)]) .unit,
  .p (.bin 38 false .add (.t 35) (.t 37)) .unit,
  .p (.mv 39 (.t 1)) .unit,
  .p (.mv 40 (.t 5)) .unit,
  .p (.bin 41 false .add (.t 40) (.c (.int .i64 1))) .unit,
  .p (.slcS 42 (.t 39) (some (.t 41)) none) .unit,
  .p (.bin 43 false .add (.t 38) (.t 42)) .unit,
  .p (.mv 4 (.t 43)) .unit])
 .ret)) .skip)) .skip)))))))))
 (.seq (.reg none [.p (.mv 44 (.t 1)) .unit,
  .p (.mv 4 (.t 44)) .unit])
 .ret))),
 45, 2, [.t 4]⟩
theorem m_spec_l02Spoilt : mH Try.prog 70 [(1, 0, .v), (1, 1, (.ps 0 0)), (3, 1, .v), (3, 2, (.ps 0 0)), (5, 1, .v), (5, 5, (.ps 0 0)), (9, 0, .v), (9, 3, (.ps 0 0)), (10, 3, .v), (10, 4, (.ps 0 0))] = some (F_spec_l02Spoilt.code.x, F_spec_l02Spoilt.N, F_spec_l02Spoilt.np, F_spec_l02Spoilt.res) := by kernel_rfl
noncomputable def T_spec_l02Spoilt : (List (Int) × Int × Int) × List UInt8 → Option ((List UInt8) × List (Int) × Int × Int) := evF [fn_spec_l01Below, fn_spec_l01Text] F_spec_l02Spoilt [.box (.pair (.sl false (.int .u8)) (.pair (.int .i64) (.int .i64))), .cell .str] [0] [.cell .str] [.box (.pair (.sl false (.int .u8)) (.pair (.int .i64) (.int .i64)))]
noncomputable def fn_spec_l02Spoilt : TFn := ⟨70, [.box (.pair (.sl false (.int .u8)) (.pair (.int .i64) (.int .i64))), .cell .str], [0], [.cell .str], [.box (.pair (.sl false (.int .u8)) (.pair (.int .i64) (.int .i64)))], T_spec_l02Spoilt⟩
theorem ok_spec_l02Spoilt : FnOk Try.prog fn_spec_l02Spoilt := evF_ok mixed (allOk_cons ok_spec_l01Below (allOk_cons ok_spec_l01Text allOk_nil)) m_spec_l02Spoilt (by decide)
def F_spec_DrawReadToken : TF := ⟨(.seq (.reg none [.p (.mv 2 (.c (.string (ba [])))) .unit])
 (.seq (.reg none [.p (.mv 8 (.t 0)) .unit,
  .p (.callS 9 n_spec_l01New [(.t 8)]) .unit,
  .p (.mvT 3 9) .unit])
 (.seq (.reg none [.p (.mvA 11 3) .unit,
  .p (.callM 12 n_spec_l05AnyToken [] (.ptrS (.t 11) 3) []) .unit,
  .p (.callB 13 n_spec_TokenText [((.t 12), 0)]) .unit,
  .p (.mv 10 (.t 13)) .unit,
  .p (.ext 14 (.t 10) 0) .unit,
  .p (.ext 15 (.t 10) 1) .unit,
  .p (.mv 4 (.t 14)) .unit,
  .p (.mv 5 (.t 15)) .unit])
 (.seq (.seq (.reg none [.p (.mvA 16 3) .unit,
  .p (.callM 17 n_spec_l01Once [] (.ptrS (.t 16) 3) [((.c (.int .i64 3)), 0)]) .unit])
 (.cond (.t 17) (.seq (.reg none [.p (.mv 19 (.t 4)) .unit,
  .p (.callB 20 n_spec_Unsealed [((.t 19), 0)]) .unit,
  .p (.mv 18 (.t 20)) .unit,
  .p (.ext 21 (.t 18) 0) .unit,
  .p (.ext 22 (.t 18) 1) .unit,
  .p (.mv 6 (.t 21)) .unit,
  .p (.mv 7 (.t 22)) .unit])
 (.seq (.join ⟨[(4, false)], [.cell .str]⟩ (.seq (.reg none [.p (.mv 23 (.t 7)) .unit])
 (.cond (.t 23) (.reg none [.p (.mvT 25 3) .unit,
  .p (.mv 26 (.t 6)) .unit,
  .p (.callM 27 n_spec_l02Spoilt [] (.tmpS 25) [((.t 26), 0)]) .unit,
  .p (.callB 28 n_spec_Sealed [((.t 27), 0)]) .unit,
  .p (.mv 24 (.t 28)) .unit,
  .p (.ext 29 (.t 24) 0) .unit,
  .p (.ext 30 (.t 24) 1) .unit,
  .p (.mv 4 (.t 29)) .unit]) .skip)))
 (.seq (.reg none [.p (.mv 31 (.t 4)) .unit,
  .p (.mv 2 (.t 31)) .unit])
 .ret))) .skip))
 (.seq (.reg none [.p (.mvT 32 3) .unit,
  .p (.mv 33 (.t 4)) .unit,
  .p (.callM 34 n_spec_l02Spoilt [] (.tmpS 32) [((.t 33), 0)]) .unit,
  .p (.mv 2 (.t 34)) .unit])
 .ret))))),
 35, 1, [.t 2]⟩
theorem m_spec_DrawReadToken : mH Try.prog 39 [(1, 1, .z), (1, 2, .t), (2, 0, .v), (2, 1, (.ps 0 3)), (3, 0, .v), (3, 1, (.ps 0 3)), (6, 0, .t), (6, 2, (.ms 0)), (8, 0, .t), (8, 2, (.ms 0))] = some (F_spec_DrawReadToken.code.x, F_spec_DrawReadToken.N, F_spec_DrawReadToken.np, F_spec_DrawReadToken.res) := by kernel_rfl
noncomputable def T_spec_DrawReadToken : List (Int) → Option (List UInt8) := evF [fn_spec_l01New, fn_spec_l05AnyToken, fn_spec_TokenText, fn_spec_l01Once, fn_spec_Unsealed, fn_spec_l02Spoilt, fn_spec_Sealed] F_spec_DrawReadToken [.cell (.sl false (.int .u8))] [] [.cell .str] []
noncomputable def fn_spec_DrawReadToken : TFn := ⟨39, [.cell (.sl false (.int .u8))], [], [.cell .str], [], T_spec_DrawReadToken⟩
theorem ok_spec_DrawReadToken : FnOk Try.prog fn_spec_DrawReadToken := evF_ok mixed (allOk_cons ok_spec_l01New (allOk_cons ok_spec_l05AnyToken (allOk_cons ok_spec_TokenText (allOk_cons ok_spec_l01Once (allOk_cons ok_spec_Unsealed (allOk_cons ok_spec_l02Spoilt (allOk_cons ok_spec_Sealed allOk_nil))))))) m_spec_DrawReadToken (by decide)
def F_spec_l05Take : TF := ⟨(.seq (.reg none [.p (.mv 4 (.c (.string (ba [])))) .unit])
 (.seq (.seq (.join ⟨[(0, true), (1, true), (22, false)], [.box (.pair .str (.pair (.int .i64) .bool)), .cell (.int .i64), .cell .bool]⟩ (.reg (some [[], [0], [1], [2], [3], [4], [4], [6, 4], [7, 4], [8, 4], [9, 4], [4], [11, 4], [12, 4], [13, 4], [10, 14, 4], [5, 15, 4], [4, 16]]) [.p (.mvA 5 0) .unit,
  .p (.nilck 6 (.t 5)) .unit,
  .p (.fadr 7 (.t 6) 2) .unit,
  .p (.load 8 (.t 7) 1 false) .unit,
  .p (.mv 9 (.t 8)) .unit,
  .g 9 false (some 10) (.mv 10 (.t 1)) .unit,
  .g 9 false (some 11) (.mvA 11 0) .unit,
  .g 9 false (some 12) (.nilck 12 (.t 11)) .unit,
  .g 9 false (some 13) (.fadr 13 (.t 12) 0) .unit,
  .g 9 false (some 14) (.load 14 (.t 13) 1 false) .unit,
  .g 9 false (some 15) (.lenS 15 (.t 14)) .unit,
  .g 9 false (some 16) (.mvA 16 0) .unit,
  .g 9 false (some 17) (.nilck 17 (.t 16)) .unit,
  .g 9 false (some 18) (.fadr 18 (.t 17) 1) .unit,
  .g 9 false (some 19) (.load 19 (.t 18) 1 false) .unit,
  .g 9 false (some 20) (.bin 20 false .sub (.t 15) (.t 19)) .unit,
  .g 9 false (some 21) (.bin 21 false .gtr (.t 10) (.t 20)) .unit,
  .p (.pick 22 (.t 9) (.c (.bool true)) (.t 21)) .unit]))
 (.cond (.t 22) (.seq (.reg none [.p (.mvA 23 0) .unit,
  .p (.nilck 24 (.t 23)) .unit,
  .p (.fadr 25 (.t 24) 2) .unit,
  .p (.store (.t 25) (.c (.bool true)) 1) .unit])
 (.seq (.reg none [.p (.mv 4 (.c (.string (ba [])))) .unit])
 .ret)) .skip))
 (.seq (.reg none [.p (.mvA 26 0) .unit,
  .p (.mvA 27 0) .unit,
  .p (.nilck 28 (.t 27)) .unit,
  .p (.fadr 29 (.t 28) 1) .unit,
  .p (.load 30 (.t 29) 1 false) .unit,
  .p (.mv 31 (.t 1)) .unit,
  .p (.bin 32 false .add (.t 30) (.t 31)) .unit,
  .p (.nilck 33 (.t 26)) .unit,
  .p (.fadr 34 (.t 33) 1) .unit,
  .p (.store (.t 34) (.t 32) 1) .unit])
 (.seq (.reg (some [[], [0], [1], [2], [], [4], [5], [6], [], [7, 8], [], [10], [11], [12], [3, 9, 13], [14, 0, 1, 2, 3, 4, 5, 6, 7, 8, 9, 10, 11, 12, 13, 14]]) [.p (.mvA 35 0) .unit,
  .p (.nilck 36 (.t 35)) .unit,
  .p (.fadr 37 (.t 36) 0) .unit,
  .p (.load 38 (.t 37) 1 false) .unit,
  .p (.mvA 39 0) .unit,
  .p (.nilck 40 (.t 39)) .unit,
  .p (.fadr 41 (.t 40) 1) .unit,
  .p (.load 42 (.t 41) 1 false) .unit,
  .p (.mv 43 (.t 1)) .unit,
  .p (.bin 44 false .sub (.t 42) (.t 43)) .unit,
  .p (.mvA 45 0) .unit,
  .p (.nilck 46 (.t 45)) .unit,
  .p (.fadr 47 (.t 46) 1) .unit,
  .p (.load 48 (.t 47) 1 false) .unit,
  .p (.slcS 49 (.t 38) (some (.t 44)) (some (.t 48))) .unit,
  .p (.mv 4 (.t 49)) .unit])
 .ret)))),
 50, 2, [.t 4]⟩
theorem m_spec_l05Take : mH Try.prog 131 [(1, 0, .v), (1, 6, .v), (1, 11, .v), (2, 0, .v), (4, 0, .v), (4, 1, .v), (5, 0, .v), (5, 4, .v), (5, 10, .v)] = some (F_spec_l05Take.code.x, F_spec_l05Take.N, F_spec_l05Take.np, F_spec_l05Take.res) := by kernel_rfl
noncomputable def T_spec_l05Take : (List UInt8 × Int × Bool) × Int → Option ((List UInt8) × List UInt8 × Int × Bool) := evF [] F_spec_l05Take [.box (.pair .str (.pair (.int .i64) .bool)), .cell (.int .i64)] [0] [.cell .str] [.box (.pair .str (.pair (.int .i64) .bool))]
noncomputable def fn_spec_l05Take : TFn := ⟨131, [.box (.pair .str (.pair (.int .i64) .bool)), .cell (.int .i64)], [0], [.cell .str], [.box (.pair .str (.pair (.int .i64) .bool))], T_spec_l05Take⟩
theorem ok_spec_l05Take : FnOk Try.prog fn_spec_l05Take := evF_ok mixed allOk_nil m_spec_l05Take (by decide)
def F_spec_l05One : TF := ⟨(.seq (.reg none [.p (.mv 2 (.c (.int .i64 0))) .unit])
 (.seq (.reg none [.p (.mvA 4 0) .unit,
  .p (.callM 5 n_spec_l05Take [] (.ptr (.t 4) 0) [((.c (.int .i64 1)), 0)]) .unit,
  .p (.mv 3 (.t 5)) .unit])
 (.seq (.seq (.reg none [.p (.mvA 6 0) .unit,
  .p (.nilck 7 (.t 6)) .unit,
  .p (.fadr 8 (.t 7) 2) .unit,
  .p (.load 9 (.t 8) 1 false) .unit])
 (.cond (.t 9) (.seq (.reg none [.p (.mv 2 (.c (.int .i64 0))) .unit])
 .ret) .skip))
 (.seq (.reg none [.p (.mv 10 (.t 3)) .unit,
  .p (.idx 11 (.t 10) (.c (.int .i64 0))) .unit,
  .p (.cvi 12 .i64 .u8 (.t 11)) .unit,
  .p (.mv 2 (.t 12)) .unit])
 .ret)))),
 13, 1, [.t 2]⟩
theorem m_spec_l05One : mH Try.prog 72 [(1, 0, .v), (1, 1, (.p 0 0)), (2, 0, .v)] = some (F_spec_l05One.code.x, F_spec_l05One.N, F_spec_l05One.np, F_spec_l05One.res) := by kernel_rfl
noncomputable def T_spec_l05One : List UInt8 × Int × Bool → Option ((Int) × List UInt8 × Int × Bool) := evF [fn_spec_l05Take] F_spec_l05One [.box (.pair .str (.pair (.int .i64) .bool))] [0] [.cell (.int .i64)] [.box (.pair .str (.pair (.int .i64) .bool))]
noncomputable def fn_spec_l05One : TFn := ⟨72, [.box (.pair .str (.pair (.int .i64) .bool))], [0], [.cell (.int .i64)], [.box (.pair .str (.pair (.int .i64) .bool))], T_spec_l05One⟩
theorem ok_spec_l05One : FnOk Try.prog fn_spec_l05One := evF_ok mixed (allOk_cons ok_spec_l05Take allOk_nil) m_spec_l05One (by decide)
def B_spec_ReadVar_1 : TC := (.seq (.seq (.join ⟨[(0, true), (1, true), (7, false), (8, false), (9, false), (25, false)], [.cell .str, .cell (.int .i64), .cell (.int .i64), .cell (.int .i64), .cell (.int .i64), .cell .bool]⟩ (.reg none [.p (.mv 16 (.t 9)) .unit,
  .p (.mv 17 (.t 0)) .unit,
  .p (.lenS 18 (.t 17)) .unit,
  .p (.bin 19 false .lss (.t 16) (.t 18)) .unit,
  .p (.mv 20 (.t 19)) .unit,
  .g 20 true (some 21) (.mv 21 (.t 9)) .unit,
  .g 20 true (some 22) (.mv 22 (.t 1)) .unit,
  .g 20 true (some 23) (.bin 23 false .add (.t 22) (.c (.int .i64 5))) .unit,
  .g 20 true (some 24) (.bin 24 false .lss (.t 21) (.t 23)) .unit,
  .p (.pick 25 (.t 20) (.t 24) (.c (.bool false))) .unit]))
 (.cond (.t 25) .skip (.exit 0)))
 (.seq (.block 1 (.seq (.reg none [.p (.mv 28 (.t 7)) .unit,
  .p (.mv 29 (.t 0)) .unit,
  .p (.mv 30 (.t 9)) .unit,
  .p (.idx 31 (.t 29) (.t 30)) .unit,
  .p (.cvi 32 .i64 .u8 (.t 31)) .unit,
  .p (.bin 33 false .rem (.t 32) (.c (.int .i64 128))) .unit,
  .p (.mv 34 (.t 8)) .unit,
  .p (.bin 35 false .mul (.t 33) (.t 34)) .unit,
  .p (.bin 36 false .add (.t 28) (.t 35)) .unit,
  .p (.mv 7 (.t 36)) .unit])
 (.seq (.reg none [.p (.mv 37 (.t 8)) .unit,
  .p (.bin 38 false .mul (.t 37) (.c (.int .i64 128))) .unit,
  .p (.mv 8 (.t 38)) .unit])
 (.seq (.reg none [.p (.mv 39 (.t 0)) .unit,
  .p (.mv 40 (.t 9)) .unit,
  .p (.idx 41 (.t 39) (.t 40)) .unit,
  .p (.bin 42 false .lss (.t 41) (.c (.int .u8 128))) .unit])
 (.cond (.t 42) (.seq (.seq (.join ⟨[(7, false), (9, false), (54, false)], [.cell (.int .i64), .cell (.int .i64), .cell .bool]⟩ (.reg (some [[], [0], [1], [2], [3, 2, 2], [2], [2], [2], [7, 2], [5, 6, 8, 2], [4, 9, 2], [2, 10]]) [.p (.mv 43 (.t 7)) .unit,
  .p (.bin 44 false .gtr (.t 43) (.c (.int .i64 1000000000))) .unit,
  .p (.mv 45 (.t 44)) .unit,
  .g 45 false (some 46) (.mv 46 (.t 7)) .unit,
  .g 45 false (some 47) (.callB 47 n_spec_l01Var [((.t 46), 0)]) .unit,
  .g 45 false (some 48) (.mv 48 (.t 0)) .unit,
  .g 45 false (some 49) (.mv 49 (.t 1)) .unit,
  .g 45 false (some 50) (.mv 50 (.t 9)) .unit,
  .g 45 false (some 51) (.bin 51 false .add (.t 50) (.c (.int .i64 1))) .unit,
  .g 45 false (some 52) (.slcS 52 (.t 48) (some (.t 49)) (some (.t 51))) .unit,
  .g 45 false (some 53) (.bin 53 false .neq (.t 47) (.t 52)) .unit,
  .p (.pick 54 (.t 45) (.c (.bool true)) (.t 53)) .unit]))
 (.cond (.t 54) (.seq (.reg none [.p (.mv 4 (.c (.int .i64 0))) .unit,
  .p (.mv 5 (.c (.int .i64 0))) .unit,
  .p (.mv 6 (.c (.bool false))) .unit])
 .ret) .skip))
 (.seq (.reg none [.p (.mv 55 (.t 7)) .unit,
  .p (.mv 56 (.t 9)) .unit,
  .p (.bin 57 false .add (.t 56) (.c (.int .i64 1))) .unit,
  .p (.mv 4 (.t 55)) .unit,
  .p (.mv 5 (.t 57)) .unit,
  .p (.mv 6 (.c (.bool true))) .unit])
 .ret)) .skip)))))
 (.reg none [.p (.mv 26 (.t 9)) .unit,
  .p (.bin 27 false .add (.t 26) (.c (.int .i64 1))) .unit,
  .p (.mv 9 (.t 27)) .unit])))
noncomputable def L_spec_ReadVar_1 : Nat → (List UInt8) × (Int) × (Int) × (Int) × Int → Option ((Unit) ⊕ ((Int) × (Int) × Bool)) := evL [fn_spec_l01In, fn_spec_l01Var] (finT [.t 4, .t 5, .t 6] [] [.cell (.int .i64), .cell (.int .i64), .cell .bool]) 0 ⟨[(0, true), (1, true), (7, false), (8, false), (9, false)], [.cell .str, .cell (.int .i64), .cell (.int .i64), .cell (.int .i64), .cell (.int .i64)]⟩ ⟨[], []⟩ B_spec_ReadVar_1
def F_spec_ReadVar : TF := ⟨(.seq (.reg none [.p (.mv 4 (.c (.int .i64 0))) .unit,
  .p (.mv 5 (.c (.int .i64 0))) .unit,
  .p (.mv 6 (.c (.bool false))) .unit])
 (.seq (.seq (.reg none [.p (.mv 10 (.t 1)) .unit,
  .p (.mv 11 (.t 0)) .unit,
  .p (.lenS 12 (.t 11)) .unit,
  .p (.callB 13 n_spec_l01In [((.t 10), 0), ((.c (.int .i64 0)), 0), ((.t 12), 0)]) .unit,
  .p (.un 14 .not (.t 13)) .unit])
 (.cond (.t 14) (.seq (.reg none [.p (.mv 4 (.c (.int .i64 0))) .unit,
  .p (.mv 5 (.c (.int .i64 0))) .unit,
  .p (.mv 6 (.c (.bool false))) .unit])
 .ret) .skip))
 (.seq (.reg none [.p (.mv 7 (.c (.int .i64 0))) .unit])
 (.seq (.reg none [.p (.mv 8 (.c (.int .i64 1))) .unit])
 (.seq (.seq (.reg none [.p (.mv 15 (.t 1)) .unit,
  .p (.mv 9 (.t 15)) .unit])
 (.jl 0 ⟨[(0, true), (1, true), (7, false), (8, false), (9, false)], [.cell .str, .cell (.int .i64), .cell (.int .i64), .cell (.int .i64), .cell (.int .i64)]⟩ ⟨[], []⟩ B_spec_ReadVar_1))
 (.seq (.reg none [.p (.mv 4 (.c (.int .i64 0))) .unit,
  .p (.mv 5 (.c (.int .i64 0))) .unit,
  .p (.mv 6 (.c (.bool false))) .unit])
 .ret)))))),
 58, 2, [.t 4, .t 5, .t 6]⟩
theorem m_spec_ReadVar : mH Try.prog 130 [] = some (F_spec_ReadVar.code.x, F_spec_ReadVar.N, F_spec_ReadVar.np, F_spec_ReadVar.res) := by kernel_rfl
noncomputable def T_spec_ReadVar : (List UInt8) × Int → Option ((Int) × (Int) × Bool) := evF [fn_spec_l01In, fn_spec_l01Var] F_spec_ReadVar [.cell .str, .cell (.int .i64)] [] [.cell (.int .i64), .cell (.int .i64), .cell .bool] []
noncomputable def fn_spec_ReadVar : TFn := ⟨130, [.cell .str, .cell (.int .i64)], [], [.cell (.int .i64), .cell (.int .i64), .cell .bool], [], T_spec_ReadVar⟩
theorem ok_spec_ReadVar : FnOk Try.prog fn_spec_ReadVar := evF_ok mixed (allOk_cons ok_spec_l01In (allOk_cons ok_spec_l01Var allOk_nil)) m_spec_ReadVar (by decide)
def F_spec_l05Var : TF := ⟨(.seq (.reg none [.p (.mv 2 (.c (.int .i64 0))) .unit])
 (.seq (.reg (some [[], [0], [1], [2], [], [4], [5], [6], [3, 7], [8], [9], [9], [9], [10, 8, 0, 1, 2, 3, 4, 5, 6, 7, 8, 9, 10], [11, 13, 0, 1, 2, 3, 4, 5, 6, 7, 8, 9, 10, 11, 13], [12, 14, 0, 1, 2, 3, 4, 5, 6, 7, 8, 9, 10, 11, 12, 13, 14]]) [.p (.mvA 7 0) .unit,
  .p (.nilck 8 (.t 7)) .unit,
  .p (.fadr 9 (.t 8) 0) .unit,
  .p (.load 10 (.t 9) 1 false) .unit,
  .p (.mvA 11 0) .unit,
  .p (.nilck 12 (.t 11)) .unit,
  .p (.fadr 13 (.t 12) 1) .unit,
  .p (.load 14 (.t 13) 1 false) .unit,
  .p (.callB 15 n_spec_ReadVar [((.t 10), 0), ((.t 14), 0)]) .unit,
  .p (.mv 6 (.t 15)) .unit,
  .p (.ext 16 (.t 6) 0) .unit,
  .p (.ext 17 (.t 6) 1) .unit,
  .p (.ext 18 (.t 6) 2) .unit,
  .p (.mv 3 (.t 16)) .unit,
  .p (.mv 4 (.t 17)) .unit,
  .p (.mv 5 (.t 18)) .unit])
 (.seq (.seq (.join ⟨[(0, true), (3, false), (4, false), (26, false)], [.box (.pair .str (.pair (.int .i64) .bool)), .cell (.int .i64), .cell (.int .i64), .cell .bool]⟩ (.reg none [.p (.mvA 19 0) .unit,
  .p (.nilck 20 (.t 19)) .unit,
  .p (.fadr 21 (.t 20) 2) .unit,
  .p (.load 22 (.t 21) 1 false) .unit,
  .p (.mv 23 (.t 22)) .unit,
  .g 23 false (some 24) (.mv 24 (.t 5)) .unit,
  .g 23 false (some 25) (.un 25 .not (.t 24)) .unit,
  .p (.pick 26 (.t 23) (.c (.bool true)) (.t 25)) .unit]))
 (.cond (.t 26) (.seq (.reg none [.p (.mvA 27 0) .unit,
  .p (.nilck 28 (.t 27)) .unit,
  .p (.fadr 29 (.t 28) 2) .unit,
  .p (.store (.t 29) (.c (.bool true)) 1) .unit])
 (.seq (.reg none [.p (.mv 2 (.c (.int .i64 0))) .unit])
 .ret)) .skip))
 (.seq (.reg none [.p (.mvA 30 0) .unit,
  .p (.mv 31 (.t 4)) .unit,
  .p (.nilck 32 (.t 30)) .unit,
  .p (.fadr 33 (.t 32) 1) .unit,
  .p (.store (.t 33) (.t 31) 1) .unit])
 (.seq (.reg none [.p (.mv 34 (.t 3)) .unit,
  .p (.mv 2 (.t 34)) .unit])
 .ret))))),
 35, 1, [.t 2]⟩
theorem m_spec_l05Var : mH Try.prog 71 [(1, 0, .v), (1, 4, .v), (2, 0, .v), (3, 0, .v), (5, 0, .v)] = some (F_spec_l05Var.code.x, F_spec_l05Var.N, F_spec_l05Var.np, F_spec_l05Var.res) := by kernel_rfl
noncomputable def T_spec_l05Var : List UInt8 × Int × Bool → Option ((Int) × List UInt8 × Int × Bool) := evF [fn_spec_ReadVar] F_spec_l05Var [.box (.pair .str (.pair (.int .i64) .bool))] [0] [.cell (.int .i64)] [.box (.pair .str (.pair (.int .i64) .bool))]
noncomputable def fn_spec_l05Var : TFn := ⟨71, [.box (.pair .str (.pair (.int .i64) .bool))], [0], [.cell (.int .i64)], [.box (.pair .str (.pair (.int .i64) .bool))], T_spec_l05Var⟩
theorem ok_spec_l05Var : FnOk Try.prog fn_spec_l05Var := evF_ok mixed (allOk_cons ok_spec_ReadVar allOk_nil) m_spec_l05Var (by decide)
def B_spec_ReadToken_1 : TC := (.seq (.seq (.join ⟨[(0, true), (2, false), (6, false), (7, false), (8, false), (9, false), (52, false)], [.cell .str, .box (.pair (.int .i64) (.pair (.int .i64) (.pair (.int .i64) (.pair (.int .i64) (.pair (.int .i64) (.sl true (.int .i64))))))), .box (.pair .str (.pair (.int .i64) .bool)), .box (.pair (.int .i64) (.pair (.int .i64) (.pair (.int .i64) (.pair (.int .i64) (.pair (.int .i64) (.sl true (.int .i64))))))), .cell (.int .i64), .cell (.int .i64), .cell .bool]⟩ (.reg none [.p (.mv 39 (.t 9)) .unit,
  .p (.mv 40 (.t 8)) .unit,
  .p (.bin 41 false .lss (.t 39) (.t 40)) .unit,
  .p (.mv 42 (.t 41)) .unit,
  .g 42 true (some 43) (.mv 43 (.t 9)) .unit,
  .g 42 true (some 44) (.bin 44 false .lss (.t 43) (.c (.int .i64 50))) .unit,
  .p (.pick 45 (.t 42) (.t 44) (.c (.bool false))) .unit,
  .p (.mv 46 (.t 45)) .unit,
  .g 46 true (some 47) (.mvA 47 6) .unit,
  .g 46 true (some 48) (.nilck 48 (.t 47)) .unit,
  .g 46 true (some 49) (.fadr 49 (.t 48) 2) .unit,
  .g 46 true (some 50) (.load 50 (.t 49) 1 false) .unit,
  .g 46 true (some 51) (.un 51 .not (.t 50)) .unit,
  .p (.pick 52 (.t 46) (.t 51) (.c (.bool false))) .unit]))
 (.cond (.t 52) .skip (.exit 0)))
 (.seq (.block 1 (.reg (some [[], [0], [], [2], [3], [1, 4, 3], [0, 1, 2, 3, 4, 5], [6, 5, 5, 0, 1, 2, 3, 4, 5]]) [.p (.fadr 55 (.t 7) 5) .unit,
  .p (.load 56 (.t 55) 1 false) .unit,
  .p (.mvA 57 6) .unit,
  .p (.callM 58 n_spec_l05Var [] (.ptr (.t 57) 6) []) .unit,
  .p (.bldS 59 1 [(.lit (.int .i64 0))] [⟨0, 1, (.t 58)⟩]) (.int .i64),
  .p (.appC 60 1 8 56 (.t 59) false) (.int .i64),
  .p (.fadr 61 (.t 7) 5) .unit,
  .p (.storeT (.t 61) 60 1) .unit]))
 (.reg none [.p (.mv 53 (.t 9)) .unit,
  .p (.bin 54 false .add (.t 53) (.c (.int .i64 1))) .unit,
  .p (.mv 9 (.t 54)) .unit])))
noncomputable def L_spec_ReadToken_1 : Nat → (List UInt8) × (Int × Int × Int × Int × Int × List (Int)) × (List UInt8 × Int × Bool) × (Int × Int × Int × Int × Int × List (Int)) × (Int) × Int → Option (((List UInt8) × (Int × Int × Int × Int × Int × List (Int)) × (List UInt8 × Int × Bool) × Int × Int × Int × Int × Int × List (Int)) ⊕ ((Int × Int × Int × Int × Int × List (Int)) × Bool)) := evL [fn_spec_Unsealed, fn_spec_l05One, fn_spec_l05Var, fn_spec_TokenText] (finT [.c 2 6 true, .t 3] [] [.agg (.pair (.int .i64) (.pair (.int .i64) (.pair (.int .i64) (.pair (.int .i64) (.pair (.int .i64) (.sl true (.int .i64))))))), .cell .bool]) 0 ⟨[(0, true), (2, false), (6, false), (7, false), (8, false), (9, false)], [.cell .str, .box (.pair (.int .i64) (.pair (.int .i64) (.pair (.int .i64) (.pair (.int .i64) (.pair (.int .i64) (.sl true (.int .i64))))))), .box (.pair .str (.pair (.int .i64) .bool)), .box (.pair (.int .i64) (.pair (.int .i64) (.pair (.int .i64) (.pair (.int .i64) (.pair (.int .i64) (.sl true (.int .i64))))))), .cell (.int .i64), .cell (.int .i64)]⟩ ⟨[(0, true), (2, false), (6, false), (7, false)], [.cell .str, .box (.pair (.int .i64) (.pair (.int .i64) (.pair (.int .i64) (.pair (.int .i64) (.pair (.int .i64) (.sl true (.int .i64))))))), .box (.pair .str (.pair (.int .i64) .bool)), .box (.pair (.int .i64) (.pair (.int .i64) (.pair (.int .i64) (.pair (.int .i64) (.pair (.int .i64) (.sl true (.int .i64)))))))]⟩ B_spec_ReadToken_1
def F_spec_ReadToken : TF := ⟨(.seq (.reg none [.p (.alloc 2 [(.lit (.int .i64 0)), (.lit (.int .i64 0)), (.lit (.int .i64 0)), (.lit (.int .i64 0)), (.lit (.int .i64 0)), (.sl true 1 [])]) .unit,
  .p (.mv 3 (.c (.bool false))) .unit])
 (.seq (.reg none [.p (.mv 13 (.t 0)) .unit,
  .p (.callB 14 n_spec_Unsealed [((.t 13), 0)]) .unit,
  .p (.mv 12 (.t 14)) .unit,
  .p (.ext 15 (.t 12) 0) .unit,
  .p (.ext 16 (.t 12) 1) .unit,
  .p (.mv 4 (.t 15)) .unit,
  .p (.mv 5 (.t 16)) .unit])
 (.seq (.reg none [.p (.mv 17 (.t 4)) .unit,
  .p (.mv 18 (.t 5)) .unit,
  .p (.un 19 .not (.t 18)) .unit,
  .p (.bld 20 [(.lit (.string (ba []))), (.lit (.int .i64 0)), (.lit (.bool false))] [⟨0, 1, (.t 17)⟩, ⟨2, 1, (.t 19)⟩]) .unit,
  .p (.box 21 (.t 20)) .unit,
  .p (.mvT 6 21) .unit])
 (.seq (.reg none [.p (.mvA 22 6) .unit,
  .p (.callM 23 n_spec_l05One [] (.ptr (.t 22) 6) []) .unit,
  .p (.bld 24 [(.lit (.int .i64 0)), (.lit (.int .i64 0)), (.lit (.int .i64 0)), (.lit (.int .i64 0)), (.lit (.int .i64 0)), (.sl true 1 [])] [⟨0, 1, (.t 23)⟩]) .unit,
  .p (.alloc 7 [(.lit (.int .i64 0)), (.lit (.int .i64 0)), (.lit (.int .i64 0)), (.lit (.int .i64 0)), (.lit (.int .i64 0)), (.sl true 1 [])]) .unit,
  .p (.storeT (.t 7) 24 6) .unit])
 (.seq (.reg none [.p (.mvA 25 6) .unit,
  .p (.callM 26 n_spec_l05Var [] (.ptr (.t 25) 6) []) .unit,
  .p (.fadr 27 (.t 7) 1) .unit,
  .p (.store (.t 27) (.t 26) 1) .unit])
 (.seq (.reg none [.p (.mvA 28 6) .unit,
  .p (.callM 29 n_spec_l05Var [] (.ptr (.t 28) 6) []) .unit,
  .p (.fadr 30 (.t 7) 2) .unit,
  .p (.store (.t 30) (.t 29) 1) .unit])
 (.seq (.reg none [.p (.mvA 31 6) .unit,
  .p (.callM 32 n_spec_l05Var [] (.ptr (.t 31) 6) []) .unit,
  .p (.fadr 33 (.t 7) 3) .unit,
  .p (.store (.t 33) (.t 32) 1) .unit])
 (.seq (.reg none [.p (.mvA 34 6) .unit,
  .p (.callM 35 n_spec_l05One [] (.ptr (.t 34) 6) []) .unit,
  .p (.fadr 36 (.t 7) 4) .unit,
  .p (.store (.t 36) (.t 35) 1) .unit])
 (.seq (.reg none [.p (.mvA 37 6) .unit,
  .p (.callM 38 n_spec_l05Var [] (.ptr (.t 37) 6) []) .unit,
  .p (.mv 8 (.t 38)) .unit])
 (.seq (.seq (.reg none [.p (.mv 9 (.c (.int .i64 0))) .unit])
 (.jl 0 ⟨[(0, true), (2, false), (6, false), (7, false), (8, false), (9, false)], [.cell .str, .box (.pair (.int .i64) (.pair (.int .i64) (.pair (.int .i64) (.pair (.int .i64) (.pair (.int .i64) (.sl true (.int .i64))))))), .box (.pair .str (.pair (.int .i64) .bool)), .box (.pair (.int .i64) (.pair (.int .i64) (.pair (.int .i64) (.pair (.int .i64) (.pair (.int .i64) (.sl true (.int .i64))))))), .cell (.int .i64), .cell (.int .i64)]⟩ ⟨[(0, true), (2, false), (6, false), (7, false)], [.cell .str, .box (.pair (.int .i64) (.pair (.int .i64) (.pair (.int .i64) (.pair (.int .i64) (.pair (.int .i64) (.sl true (.int .i64))))))), .box (.pair .str (.pair (.int .i64) .bool)), .box (.pair (.int .i64) (.pair (.int .i64) (.pair (.int .i64) (.pair (.int .i64) (.pair (.int .i64) (.sl true (.int .i64)))))))]⟩ B_spec_ReadToken_1))
 (.seq (.reg none [.p (.load 63 (.t 7) 6 true) .unit,
  .p (.callB 64 n_spec_TokenText [((.t 63), 0)]) .unit,
  .p (.mv 62 (.t 64)) .unit,
  .p (.ext 65 (.t 62) 0) .unit,
  .p (.ext 66 (.t 62) 1) .unit,
  .p (.mv 10 (.t 65)) .unit,
  .p (.mv 11 (.t 66)) .unit])
 (.seq (.seq (.join ⟨[(2, false), (7, false), (79, false)], [.box (.pair (.int .i64) (.pair (.int .i64) (.pair (.int .i64) (.pair (.int .i64) (.pair (.int .i64) (.sl true (.int .i64))))))), .box (.pair (.int .i64) (.pair (.int .i64) (.pair (.int .i64) (.pair (.int .i64) (.pair (.int .i64) (.sl true (.int .i64))))))), .cell .bool]⟩ (.reg none [.p (.mvT 67 6) .unit,
  .p (.nilck 68 (.t 67)) .unit,
  .p (.fadr 69 (.t 68) 2) .unit,
  .p (.load 70 (.t 69) 1 false) .unit,
  .p (.mv 71 (.t 70)) .unit,
  .g 71 false (some 72) (.mv 72 (.t 11)) .unit,
  .g 71 false (some 73) (.un 73 .not (.t 72)) .unit,
  .p (.pick 74 (.t 71) (.c (.bool true)) (.t 73)) .unit,
  .p (.mv 75 (.t 74)) .unit,
  .g 75 false (some 76) (.mv 76 (.t 10)) .unit,
  .g 75 false (some 77) (.mv 77 (.t 0)) .unit,
  .g 75 false (some 78) (.bin 78 false .neq (.t 76) (.t 77)) .unit,
  .p (.pick 79 (.t 75) (.c (.bool true)) (.t 78)) .unit]))
 (.cond (.t 79) (.seq (.reg none [.p (.bld 80 [(.lit (.int .i64 0)), (.lit (.int .i64 0)), (.lit (.int .i64 0)), (.lit (.int .i64 0)), (.lit (.int .i64 0)), (.sl true 1 [])] []) .unit,
  .p (.storeT (.t 2) 80 6) .unit,
  .p (.mv 3 (.c (.bool false))) .unit])
 .ret) .skip))
 (.seq (.reg none [.p (.loadT 81 (.t 7) 6 true) .unit,
  .p (.storeT (.t 2) 81 6) .unit,
  .p (.mv 3 (.c (.bool true))) .unit])
 .ret))))))))))))),
 82, 1, [.c 2 6 true, .t 3]⟩
theorem m_spec_ReadToken : mH Try.prog 19 [(2, 5, .t), (3, 0, .v), (3, 1, (.p 0 6)), (3, 4, .t), (4, 0, .v), (4, 1, (.p 0 6)), (5, 0, .v), (5, 1, (.p 0 6)), (6, 0, .v), (6, 1, (.p 0 6)), (7, 0, .v), (7, 1, (.p 0 6)), (8, 0, .v), (8, 1, (.p 0 6)), (10, 8, .v), (12, 2, .v), (12, 3, (.p 0 6)), (12, 5, .z), (12, 7, .t), (14, 0, .t), (15, 1, .t), (16, 0, .t), (16, 1, .t)] = some (F_spec_ReadToken.code.x, F_spec_ReadToken.N, F_spec_ReadToken.np, F_spec_ReadToken.res) := by kernel_rfl
noncomputable def T_spec_ReadToken : List UInt8 → Option ((Int × Int × Int × Int × Int × List (Int)) × Bool) := evF [fn_spec_Unsealed, fn_spec_l05One, fn_spec_l05Var, fn_spec_TokenText] F_spec_ReadToken [.cell .str] [] [.agg (.pair (.int .i64) (.pair (.int .i64) (.pair (.int .i64) (.pair (.int .i64) (.pair (.int .i64) (.sl true (.int .i64))))))), .cell .bool] []
noncomputable def fn_spec_ReadToken : TFn := ⟨19, [.cell .str], [], [.agg (.pair (.int .i64) (.pair (.int .i64) (.pair (.int .i64) (.pair (.int .i64) (.pair (.int .i64) (.sl true (.int .i64))))))), .cell .bool], [], T_spec_ReadToken⟩
theorem ok_spec_ReadToken : FnOk Try.prog fn_spec_ReadToken := evF_ok mixed (allOk_cons ok_spec_Unsealed (allOk_cons ok_spec_l05One (allOk_cons ok_spec_l05Var (allOk_cons ok_spec_TokenText allOk_nil)))) m_spec_ReadToken (by decide)
def F_laws_FnTokens : TF := ⟨(.seq (.reg none [.p (.mv 2 (.c (.bool false))) .unit])
 (.seq (.seq (.reg none [.p (.mv 15 (.t 0)) .unit,
  .p (.callB 16 n_laws_big [((.t 15), 0)]) .unit])
 (.cond (.t 16) (.seq (.reg none [.p (.mv 2 (.c (.bool true))) .unit])
 .ret) .skip))
 (.seq (.reg none [.p (.mv 17 (.t 0)) .unit,
  .p (.callB 18 n_spec_DrawTokenText [((.t 17), 0)]) .unit,
  .p (.alloc 3 [(.lit (.int .i64 0)), (.lit (.int .i64 0)), (.lit (.int .i64 0)), (.lit (.int .i64 0)), (.lit (.int .i64 0)), (.sl true 1 [])]) .unit,
  .p (.storeT (.t 3) 18 6) .unit])
 (.seq (.reg none [.p (.load 20 (.t 3) 6 true) .unit,
  .p (.callB 21 n_impl_TokenText [((.t 20), 0)]) .unit,
  .p (.mv 19 (.t 21)) .unit,
  .p (.ext 22 (.t 19) 0) .unit,
  .p (.ext 23 (.t 19) 1) .unit,
  .p (.mv 4 (.t 22)) .unit,
  .p (.mv 5 (.t 23)) .unit])
 (.seq (.reg none [.p (.mv 25 (.t 4)) .unit,
  .p (.callB 26 n_impl_ReadToken [((.t 25), 0)]) .unit,
  .p (.mvT 24 26) .unit,
  .p (.extT 27 24 0) .unit,
  .p (.ext 28 (.t 24) 1) .unit,
  .p (.alloc 6 [(.lit (.int .i64 0)), (.lit (.int .i64 0)), (.lit (.int .i64 0)), (.lit (.int .i64 0)), (.lit (.int .i64 0)), (.sl true 1 [])]) .unit,
  .p (.storeT (.t 6) 27 6) .unit,
  .p (.mv 7 (.t 28)) .unit])
 (.seq (.seq (.join ⟨[(0, true), (88, false)], [.cell (.sl false (.int .u8)), .cell .bool]⟩ (.reg none [.p (.mv 29 (.t 5)) .unit,
  .p (.load 30 (.t 3) 6 true) .unit,
  .p (.callB 31 n_spec_TokenOk [((.t 30), 0)]) .unit,
  .p (.bin 32 true .neq (.t 29) (.t 31)) .unit,
  .p (.mv 33 (.t 32)) .unit,
  .g 33 false (some 34) (.load 34 (.t 3) 6 true) .unit,
  .g 33 false (some 35) (.callB 35 n_impl_TokenOk [((.t 34), 0)]) .unit,
  .g 33 false (some 36) (.mv 36 (.t 5)) .unit,
  .g 33 false (some 37) (.bin 37 true .neq (.t 35) (.t 36)) .unit,
  .p (.pick 38 (.t 33) (.c (.bool true)) (.t 37)) .unit,
  .p (.mv 39 (.t 38)) .unit,
  .g 39 false (some 40) (.mv 40 (.t 5)) .unit,
  .g 39 false (some 41) (.mv 41 (.t 40)) .unit,
  .g 41 true (some 42) (.mv 42 (.t 7)) .unit,
  .g 41 true (some 43) (.un 43 .not (.t 42)) .unit,
  .g 41 true (some 44) (.mv 44 (.t 43)) .unit,
  .g 44 false (some 45) (.fadr 45 (.t 6) 0) .unit,
  .g 44 false (some 46) (.load 46 (.t 45) 1 false) .unit,
  .g 44 false (some 47) (.fadr 47 (.t 3) 0) .unit,
  .g 44 false (some 48) (.load 48 (.t 47) 1 false) .unit,
  .g 44 false (some 49) (.bin 49 false .neq (.t 46) (.t 48)) .unit,
  .g 41 true (some 50) (.pick 50 (.t 44) (.c (.bool true)) (.t 49)) .unit,
  .g 41 true (some 51) (.mv 51 (.t 50)) .unit,
  .g 51 false (some 52) (.fadr 52 (.t 6) 1) .unit,
  .g 51 false (some 53) (.load 53 (.t 52) 1 false) .unit,
  .g 51 false (some 54) (.fadr 54 (.t 3) 1) .unit,
  .g 51 false (some 55) (.load 55 (.t 54) 1 false) .unit,
  .g 51 false (some 56) (.bin 56 false .neq (.t 53) (.t 55)) .unit,
  .g 41 true (some 57) (.pick 57 (.t 51) (.c (.bool true)) (.t 56)) .unit,
  .g 41 true (some 58) (.mv 58 (.t 57)) .unit,
  .g 58 false (some 59) (.fadr 59 (.t 6) 2) .unit,
  .g 58 false (some 60) (.load 60 (.t 59) 1 false) .unit,
  .g 58 false (some 61) (.fadr 61 (.t 3) 2) .unit,
  .g 58 false (some 62) (.load 62 (.t 61) 1 false) .unit,
  .g 58 false (some 63) (.bin 63 false .neq (.t 60) (.t 62)) .unit,
  .g 41 true (some 64) (.pick 64 (.t 58) (.c (.bool true)) (.t 63)) .unit,
  .g 41 true (some 65) (.mv 65 (.t 64)) .unit,
  .g 65 false (some 66) (.fadr 66 (.t 6) 3) .unit,
  .g 65 false (some 67) (.load 67 (.t 66) 1 false) .unit,
  .g 65 false (some 68) (.fadr 68 (.t 3) 3) .unit,
  .g 65 false (some 69) (.load 69 (.t 68) 1 false) .unit,
  .g 65 false (some 70) (.bin 70 false .neq (.t 67) (.t 69)) .unit,
  .g 41 true (some 71) (.pick 71 (.t 65) (.c (.bool true)) (.t 70)) .unit,
  .g 41 true (some 72) (.mv 72 (.t 71)) .unit,
  .g 72 false (some 73) (.fadr 73 (.t 6) 4) .unit,
  .g 72 false (some 74) (.load 74 (.t 73) 1 false) .unit,
  .g 72 false (some 75) (.fadr 75 (.t 3) 4) .unit,
  .g 72 false (some 76) (.load 76 (.t 75) 1 false) .unit,
  .g 72 false (some 77) (.bin 77 false .neq (.t 74) (.t 76)) .unit,
  .g 41 true (some 78) (.pick 78 (.t 72) (.c (.bool true)) (.t 77)) .unit,
  .g 41 true (some 79) (.mv 79 (.t 78)) .unit,
  .g 79 false (some 80) (.fadr 80 (.t 6) 5) .unit,
  .g 79 false (some 81) (.load 81 (.t 80) 1 false) .unit,
  .g 79 false (some 82) (.fadr 82 (.t 3) 5) .unit,
  .g 79 false (some 83) (.load 83 (.t 82) 1 false) .unit,
  .g 79 false (some 84) (.callB 84 n_laws_sameInts [((.t 81), 0), ((.t 83), 0)]) .unit,
  .g 79 false (some 85) (.un 85 .not (.t 84)) .unit,
  .g 41 true (some 86) (.pick 86 (.t 79) (.c (.bool true)) (.t 85)) .unit,
  .g 39 false (some 87) (.pick 87 (.t 41) (.t 86) (.c (.bool false))) .unit,
  .p (.pick 88 (.t 39) (.c (.bool true)) (.t 87)) .unit]))
 (.cond (.t 88) (.seq (.reg none [.p (.mv 2 (.c (.bool false))) .unit])
 .ret) .skip))
 (.seq (.reg none [.p (.mv 89 (.t 0)) .unit,
  .p (.callB 90 n_spec_DrawReadToken [((.t 89), 0)]) .unit,
  .p (.mv 8 (.t 90)) .unit])
 (.seq (.reg none [.p (.mv 92 (.t 8)) .unit,
  .p (.callB 93 n_impl_ReadToken [((.t 92), 0)]) .unit,
  .p (.mvT 91 93) .unit,
  .p (.extT 94 91 0) .unit,
  .p (.ext 95 (.t 91) 1) .unit,
  .p (.alloc 9 [(.lit (.int .i64 0)), (.lit (.int .i64 0)), (.lit (.int .i64 0)), (.lit (.int .i64 0)), (.lit (.int .i64 0)), (.sl true 1 [])]) .unit,
  .p (.storeT (.t 9) 94 6) .unit,
  .p (.mv 10 (.t 95)) .unit])
 (.seq (.reg none [.p (.mv 97 (.t 8)) .unit,
  .p (.callB 98 n_spec_ReadToken [((.t 97), 0)]) .unit,
  .p (.mvT 96 98) .unit,
  .p (.extT 99 96 0) .unit,
  .p (.ext 100 (.t 96) 1) .unit,
  .p (.alloc 11 [(.lit (.int .i64 0)), (.lit (.int .i64 0)), (.lit (.int .i64 0)), (.lit (.int .i64 0)), (.lit (.int .i64 0)), (.sl true 1 [])]) .unit,
  .p (.storeT (.t 11) 99 6) .unit,
  .p (.mv 12 (.t 100)) .unit])
 (.seq (.reg none [.p (.load 102 (.t 9) 6 true) .unit,
  .p (.callB 103 n_impl_TokenText [((.t 102), 0)]) .unit,
  .p (.mv 101 (.t 103)) .unit,
  .p (.ext 104 (.t 101) 0) .unit,
  .p (.ext 105 (.t 101) 1) .unit,
  .p (.mv 13 (.t 104)) .unit,
  .p (.mv 14 (.t 105)) .unit])
 (.seq (.reg none [.p (.mv 106 (.t 10)) .unit,
  .p (.mv 107 (.t 12)) .unit,
  .p (.bin 108 true .eql (.t 106) (.t 107)) .unit,
  .p (.mv 109 (.t 108)) .unit,
  .g 109 true (some 110) (.mv 110 (.t 10)) .unit,
  .g 109 true (some 111) (.un 111 .not (.t 110)) .unit,
  .g 109 true (some 112) (.mv 112 (.t 111)) .unit,
  .g 112 false (some 113) (.mv 113 (.t 13)) .unit,
  .g 112 false (some 114) (.mv 114 (.t 8)) .unit,
  .g 112 false (some 115) (.bin 115 false .eql (.t 113) (.t 114)) .unit,
  .g 109 true (some 116) (.pick 116 (.t 112) (.c (.bool true)) (.t 115)) .unit,
  .p (.pick 117 (.t 109) (.t 116) (.c (.bool false))) .unit,
  .p (.mv 2 (.t 117)) .unit])
 .ret))))))))))),
 118, 1, [.t 2]⟩
theorem m_laws_FnTokens : mH Try.prog 7 [(3, 3, .t), (5, 2, .t), (5, 3, .t), (5, 6, .t), (9, 2, .t), (9, 3, .t), (9, 6, .t), (10, 2, .t), (10, 3, .t), (10, 6, .t)] = some (F_laws_FnTokens.code.x, F_laws_FnTokens.N, F_laws_FnTokens.np, F_laws_FnTokens.res) := by kernel_rfl
noncomputable def T_laws_FnTokens : List (Int) → Option (Bool) := evF [fn_laws_big, fn_spec_DrawTokenText, fn_impl_TokenText, fn_impl_ReadToken, fn_spec_TokenOk, fn_impl_TokenOk, fn_laws_sameInts, fn_spec_DrawReadToken, fn_spec_ReadToken] F_laws_FnTokens [.cell (.sl false (.int .u8))] [] [.cell .bool] []
noncomputable def fn_laws_FnTokens : TFn := ⟨7, [.cell (.sl false (.int .u8))], [], [.cell .bool], [], T_laws_FnTokens⟩
theorem ok_laws_FnTokens : FnOk Try.prog fn_laws_FnTokens := evF_ok mixed (allOk_cons ok_laws_big (allOk_cons ok_spec_DrawTokenText (allOk_cons ok_impl_TokenText (allOk_cons ok_impl_ReadToken (allOk_cons ok_spec_TokenOk (allOk_cons ok_impl_TokenOk (allOk_cons ok_laws_sameInts (allOk_cons ok_spec_DrawReadToken (allOk_cons ok_spec_ReadToken allOk_nil))))))))) m_laws_FnTokens (by decide)

end Xs
end Go.Proofs.Ytlblgfhdndpmfaa
