/- The typed code of the functions, printed by program. -/
import Derived.Test.YtkjpdhdmjjepfaaDoorT7
import Derived.Test.YtkjpdhdmjjepfaaDoorProg
import Derived.KernelRfl

import Derived.Test.YtkjpdhdmjjepfaaDoorBld
import Derived.Test.YtkjpdhdmjjepfaaDoorItoa
import Derived.Test.YtkjpdhdmjjepfaaDoorSplit
namespace Go.Proofs.YtkjpdhdmjjepfaaDoor
open Go Vm
namespace Xs
theorem mixed : Tryd.prog.follows .mixedOrders = true := by kernel_rfl
abbrev n_laws_FnWords : Nat := 5
abbrev n_spec_ReadWord : Nat := 8
abbrev n_impl_ReadWord : Nat := 9
abbrev n_laws_big : Nat := 23
abbrev n_spec_DrawWordText : Nat := 24
abbrev n_impl_WordText : Nat := 25
abbrev n_spec_WordOk : Nat := 26
abbrev n_impl_WordOk : Nat := 27
abbrev n_laws_sameTexts : Nat := 28
abbrev n_spec_DrawReadWord : Nat := 29
abbrev n_spec_l05One : Nat := 40
abbrev n_spec_l05ReadShort : Nat := 41
abbrev n_spec_l05Var : Nat := 42
abbrev n_spec_WordText : Nat := 43
abbrev n___impl_scanner__octet : Nat := 44
abbrev n___impl_scanner__short : Nat := 45
abbrev n___impl_scanner__names : Nat := 46
abbrev n___impl_scanner__done : Nat := 47
abbrev n_spec_SplitPrivate : Nat := 53
abbrev n_impl_SplitPrivate : Nat := 61
abbrev n_spec_l17AnyWord : Nat := 66
abbrev n_spec_l01New : Nat := 67
abbrev n_impl_octets : Nat := 68
abbrev n_impl_shortText : Nat := 69
abbrev n_impl_namesText : Nat := 70
abbrev n_spec_l01In : Nat := 71
abbrev n_spec_l17Private : Nat := 72
abbrev n_spec_l17Names : Nat := 73
abbrev n_impl_isPrivate : Nat := 74
abbrev n_impl_areNames : Nat := 75
abbrev n_impl_inRange : Nat := 76
abbrev n_spec_l02Spoilt : Nat := 77
abbrev n_spec_l03Insert : Nat := 80
abbrev n_spec_l05Take : Nat := 96
abbrev n_spec_ReadVar : Nat := 97
abbrev n_spec_l05Byte : Nat := 98
abbrev n_spec_l05Short : Nat := 99
abbrev n_spec_l01Var : Nat := 100
abbrev n___impl_scanner__take : Nat := 101
abbrev n___impl_scanner__number : Nat := 102
abbrev n___impl_scanner__count : Nat := 103
abbrev n_spec_NameOk : Nat := 105
abbrev n_strings_Split : Nat := 111
abbrev n_impl_ReadDecimal : Nat := 112
abbrev n_impl_PrivateName : Nat := 113
abbrev n_spec_l17Word : Nat := 116
abbrev n_spec_l01Below : Nat := 117
abbrev n_spec_l01PickInt : Nat := 118
abbrev n_spec_l01Pick : Nat := 119
abbrev n_spec_l01Long : Nat := 120
abbrev n_impl_varText : Nat := 121
abbrev n___strings_Builder__WriteString : Nat := 122
abbrev n___strings_Builder__String : Nat := 123
abbrev n_impl_NameOk : Nat := 124
abbrev n_spec_l01Text : Nat := 125
abbrev n_impl_ReadVar : Nat := 134
abbrev n_impl_Decimal : Nat := 141
abbrev n_spec_l17Who : Nat := 142
abbrev n_spec_l17Groups : Nat := 143
abbrev n_spec_l01Byte : Nat := 144
abbrev n_spec_Decimal : Nat := 148
abbrev n_strconv_Itoa : Nat := 157
abbrev n_spec_PrivateName : Nat := 158
abbrev n_spec_l03Name : Nat := 159
abbrev n_spec_SortNames : Nat := 160
abbrev n_spec_l01Figure : Nat := 166
def F_laws_big : TF := ⟨(.seq (.reg none [.p (.mv 2 (.c (.bool false))) .unit])
 (.seq (.reg none [.p (.mv 3 (.t 0)) .unit,
  .p (.lenB 4 (.t 3)) .unit,
  .p (.bin 5 false .gtr (.t 4) (.c (.int .i64 1048576))) .unit,
  .p (.mv 2 (.t 5)) .unit])
 .ret)),
 6, 1, [.t 2]⟩
theorem m_laws_big : mH Tryd.prog 23 [] = some (F_laws_big.code.x, F_laws_big.N, F_laws_big.np, F_laws_big.res) := by kernel_rfl
noncomputable def T_laws_big : List (Int) → Option (Bool) := evF [] F_laws_big [.cell (.sl false (.int .u8))] [] [.cell .bool] []
noncomputable def fn_laws_big : TFn := ⟨23, [.cell (.sl false (.int .u8))], [], [.cell .bool], [], T_laws_big⟩
theorem ok_laws_big : FnOk Tryd.prog fn_laws_big := evF_ok mixed allOk_nil m_laws_big (by decide)
def B_spec_l01New_1 : TC := (.seq (.seq (.join ⟨[(0, true), (3, false), (4, false), (15, false)], [.cell (.sl false (.int .u8)), .cell (.int .i64), .cell (.int .i64), .cell .bool]⟩ (.reg none [.p (.mv 8 (.t 4)) .unit,
  .p (.mv 9 (.t 0)) .unit,
  .p (.lenB 10 (.t 9)) .unit,
  .p (.bin 11 false .lss (.t 8) (.t 10)) .unit,
  .p (.mv 12 (.t 11)) .unit,
  .g 12 true (some 13) (.mv 13 (.t 4)) .unit,
  .g 12 true (some 14) (.bin 14 false .lss (.t 13) (.c (.int .i64 4000))) .unit,
  .p (.pick 15 (.t 12) (.t 14) (.c (.bool false))) .unit]))
 (.cond (.t 15) .skip (.exit 0)))
 (.seq (.block 1 (.reg none [.p (.mv 18 (.t 3)) .unit,
  .p (.bin 19 false .mul (.t 18) (.c (.int .i64 131))) .unit,
  .p (.mv 20 (.t 0)) .unit,
  .p (.mv 21 (.t 4)) .unit,
  .p (.iadr 22 1 (.t 20) (.t 21)) .unit,
  .p (.load 23 (.t 22) 1 false) .unit,
  .p (.cvi 24 .i64 .u8 (.t 23)) .unit,
  .p (.bin 25 false .add (.t 19) (.t 24)) .unit,
  .p (.bin 26 false .add (.t 25) (.c (.int .i64 7))) .unit,
  .p (.bin 27 false .and (.t 26) (.c (.int .i64 1073741823))) .unit,
  .p (.mv 3 (.t 27)) .unit]))
 (.reg none [.p (.mv 16 (.t 4)) .unit,
  .p (.bin 17 false .add (.t 16) (.c (.int .i64 1))) .unit,
  .p (.mv 4 (.t 17)) .unit])))
noncomputable def L_spec_l01New_1 : Nat → (List (Int)) × (Int) × Int → Option (((List (Int)) × Int) ⊕ (List (Int) × Int × Int)) := evL [] (finT [.t 2] [] [.box (.pair (.sl false (.int .u8)) (.pair (.int .i64) (.int .i64)))]) 0 ⟨[(0, true), (3, false), (4, false)], [.cell (.sl false (.int .u8)), .cell (.int .i64), .cell (.int .i64)]⟩ ⟨[(0, true), (3, false)], [.cell (.sl false (.int .u8)), .cell (.int .i64)]⟩ B_spec_l01New_1
def F_spec_l01New : TF := ⟨(.seq (.reg none [.p (.mv 2 (.c (.pointer none))) .unit])
 (.seq (.reg none [.p (.mv 5 (.t 0)) .unit,
  .p (.lenB 6 (.t 5)) .unit,
  .p (.bin 7 false .add (.c (.int .i64 27101)) (.t 6)) .unit,
  .p (.mv 3 (.t 7)) .unit])
 (.seq (.seq (.reg none [.p (.mv 4 (.c (.int .i64 0))) .unit])
 (.jl 0 ⟨[(0, true), (3, false), (4, false)], [.cell (.sl false (.int .u8)), .cell (.int .i64), .cell (.int .i64)]⟩ ⟨[(0, true), (3, false)], [.cell (.sl false (.int .u8)), .cell (.int .i64)]⟩ B_spec_l01New_1))
 (.seq (.reg none [.p (.mv 28 (.t 0)) .unit,
  .p (.mv 29 (.t 3)) .unit,
  .p (.bld 30 [(.sl true 1 []), (.lit (.int .i64 0)), (.lit (.int .i64 0))] [⟨0, 1, (.t 28)⟩, ⟨2, 1, (.t 29)⟩]) .unit,
  .p (.box 31 (.t 30)) .unit,
  .p (.mvT 2 31) .unit])
 .ret)))),
 32, 1, [.t 2]⟩
theorem m_spec_l01New : mH Tryd.prog 67 [(6, 4, .t)] = some (F_spec_l01New.code.x, F_spec_l01New.N, F_spec_l01New.np, F_spec_l01New.res) := by kernel_rfl
noncomputable def T_spec_l01New : List (Int) → Option (List (Int) × Int × Int) := evF [] F_spec_l01New [.cell (.sl false (.int .u8))] [] [.box (.pair (.sl false (.int .u8)) (.pair (.int .i64) (.int .i64)))] []
noncomputable def fn_spec_l01New : TFn := ⟨67, [.cell (.sl false (.int .u8))], [], [.box (.pair (.sl false (.int .u8)) (.pair (.int .i64) (.int .i64)))], [], T_spec_l01New⟩
theorem ok_spec_l01New : FnOk Tryd.prog fn_spec_l01New := evF_ok mixed allOk_nil m_spec_l01New (by decide)
def F_spec_l01Byte : TF := ⟨(.seq (.reg none [.p (.mv 2 (.c (.int .i64 0))) .unit])
 (.seq (.reg none [.p (.mvA 4 0) .unit,
  .p (.mvA 5 0) .unit,
  .p (.nilck 6 (.t 5)) .unit,
  .p (.fadr 7 (.t 6) 2) .unit,
  .p (.load 8 (.t 7) 1 false) .unit,
  .p (.bin 9 false .mul (.t 8) (.c (.int .i64 6364136223846793005))) .unit,
  .p (.bin 10 false .add (.t 9) (.c (.int .i64 1442695040888963407))) .unit,
  .p (.nilck 11 (.t 4)) .unit,
  .p (.fadr 12 (.t 11) 2) .unit,
  .p (.store (.t 12) (.t 10) 1) .unit])
 (.seq (.reg (some [[], [0], [1], [2], [3], [], [5], [6], [7], [8], [4, 9], [10], [11, 0, 1, 2, 3, 4, 5, 6, 7, 8, 9, 10, 11]]) [.p (.mvA 13 0) .unit,
  .p (.nilck 14 (.t 13)) .unit,
  .p (.fadr 15 (.t 14) 2) .unit,
  .p (.load 16 (.t 15) 1 false) .unit,
  .p (.bin 17 false .shr (.t 16) (.c (.int .u64 33))) .unit,
  .p (.mvA 18 0) .unit,
  .p (.nilck 19 (.t 18)) .unit,
  .p (.fadr 20 (.t 19) 2) .unit,
  .p (.load 21 (.t 20) 1 false) .unit,
  .p (.bin 22 false .shr (.t 21) (.c (.int .u64 45))) .unit,
  .p (.bin 23 false .xor (.t 17) (.t 22)) .unit,
  .p (.bin 24 false .and (.t 23) (.c (.int .i64 255))) .unit,
  .p (.mv 3 (.t 24)) .unit])
 (.seq (.join ⟨[(0, true), (3, false)], [.box (.pair (.sl false (.int .u8)) (.pair (.int .i64) (.int .i64))), .cell (.int .i64)]⟩ (.seq (.reg (some [[], [0], [1], [2], [], [4], [5], [6], [7], [3, 8]]) [.p (.mvA 25 0) .unit,
  .p (.nilck 26 (.t 25)) .unit,
  .p (.fadr 27 (.t 26) 1) .unit,
  .p (.load 28 (.t 27) 1 false) .unit,
  .p (.mvA 29 0) .unit,
  .p (.nilck 30 (.t 29)) .unit,
  .p (.fadr 31 (.t 30) 0) .unit,
  .p (.load 32 (.t 31) 1 false) .unit,
  .p (.lenB 33 (.t 32)) .unit,
  .p (.bin 34 false .lss (.t 28) (.t 33)) .unit])
 (.cond (.t 34) (.seq (.reg (some [[], [], [1], [2], [3], [], [5], [6], [7], [4, 8], [9], [10], [0, 11], [12], [13, 0, 1, 2, 3, 4, 5, 6, 7, 8, 9, 10, 11, 12, 13]]) [.p (.mv 35 (.t 3)) .unit,
  .p (.mvA 36 0) .unit,
  .p (.nilck 37 (.t 36)) .unit,
  .p (.fadr 38 (.t 37) 0) .unit,
  .p (.load 39 (.t 38) 1 false) .unit,
  .p (.mvA 40 0) .unit,
  .p (.nilck 41 (.t 40)) .unit,
  .p (.fadr 42 (.t 41) 1) .unit,
  .p (.load 43 (.t 42) 1 false) .unit,
  .p (.iadr 44 1 (.t 39) (.t 43)) .unit,
  .p (.load 45 (.t 44) 1 false) .unit,
  .p (.cvi 46 .i64 .u8 (.t 45)) .unit,
  .p (.bin 47 false .add (.t 35) (.t 46)) .unit,
  .p (.bin 48 false .and (.t 47) (.c (.int .i64 255))) .unit,
  .p (.mv 3 (.t 48)) .unit])
 (.reg none [.p (.mvA 49 0) .unit,
  .p (.mvA 50 0) .unit,
  .p (.nilck 51 (.t 50)) .unit,
  .p (.fadr 52 (.t 51) 1) .unit,
  .p (.load 53 (.t 52) 1 false) .unit,
  .p (.bin 54 false .add (.t 53) (.c (.int .i64 1))) .unit,
  .p (.nilck 55 (.t 49)) .unit,
  .p (.fadr 56 (.t 55) 1) .unit,
  .p (.store (.t 56) (.t 54) 1) .unit])) .skip)))
 (.seq (.reg none [.p (.mv 57 (.t 3)) .unit,
  .p (.mv 2 (.t 57)) .unit])
 .ret))))),
 58, 1, [.t 2]⟩
theorem m_spec_l01Byte : mH Tryd.prog 144 [(1, 0, .v), (1, 1, .v), (2, 0, .v), (2, 5, .v), (3, 0, .v), (3, 4, .v), (4, 1, .v), (4, 5, .v), (5, 0, .v), (5, 1, .v)] = some (F_spec_l01Byte.code.x, F_spec_l01Byte.N, F_spec_l01Byte.np, F_spec_l01Byte.res) := by kernel_rfl
noncomputable def T_spec_l01Byte : List (Int) × Int × Int → Option ((Int) × List (Int) × Int × Int) := evF [] F_spec_l01Byte [.box (.pair (.sl false (.int .u8)) (.pair (.int .i64) (.int .i64)))] [0] [.cell (.int .i64)] [.box (.pair (.sl false (.int .u8)) (.pair (.int .i64) (.int .i64)))]
noncomputable def fn_spec_l01Byte : TFn := ⟨144, [.box (.pair (.sl false (.int .u8)) (.pair (.int .i64) (.int .i64)))], [0], [.cell (.int .i64)], [.box (.pair (.sl false (.int .u8)) (.pair (.int .i64) (.int .i64)))], T_spec_l01Byte⟩
theorem ok_spec_l01Byte : FnOk Tryd.prog fn_spec_l01Byte := evF_ok mixed allOk_nil m_spec_l01Byte (by decide)
def F_spec_l01Below : TF := ⟨(.seq (.reg none [.p (.mv 4 (.c (.int .i64 0))) .unit])
 (.seq (.seq (.reg none [.p (.mv 9 (.t 1)) .unit,
  .p (.bin 10 false .leq (.t 9) (.c (.int .i64 0))) .unit])
 (.cond (.t 10) (.seq (.reg none [.p (.mv 4 (.c (.int .i64 0))) .unit])
 .ret) .skip))
 (.seq (.seq (.reg none [.p (.mv 11 (.t 1)) .unit,
  .p (.bin 12 false .leq (.t 11) (.c (.int .i64 256))) .unit])
 (.cond (.t 12) (.seq (.reg none [.p (.mvA 13 0) .unit,
  .p (.callM 14 n_spec_l01Byte [] (.ptrS (.t 13) 0) []) .unit,
  .p (.mv 15 (.t 1)) .unit,
  .p (.bin 16 false .rem (.t 14) (.t 15)) .unit,
  .p (.mv 4 (.t 16)) .unit])
 .ret) .skip))
 (.seq (.reg none [.p (.mvA 17 0) .unit,
  .p (.callM 18 n_spec_l01Byte [] (.ptrS (.t 17) 0) []) .unit,
  .p (.mv 5 (.t 18)) .unit])
 (.seq (.reg none [.p (.mvA 19 0) .unit,
  .p (.callM 20 n_spec_l01Byte [] (.ptrS (.t 19) 0) []) .unit,
  .p (.mv 6 (.t 20)) .unit])
 (.seq (.reg none [.p (.mvA 21 0) .unit,
  .p (.callM 22 n_spec_l01Byte [] (.ptrS (.t 21) 0) []) .unit,
  .p (.mv 7 (.t 22)) .unit])
 (.seq (.reg none [.p (.mvA 23 0) .unit,
  .p (.callM 24 n_spec_l01Byte [] (.ptrS (.t 23) 0) []) .unit,
  .p (.mv 8 (.t 24)) .unit])
 (.seq (.reg none [.p (.mv 25 (.t 5)) .unit,
  .p (.bin 26 false .mul (.t 25) (.c (.int .i64 16777216))) .unit,
  .p (.mv 27 (.t 6)) .unit,
  .p (.bin 28 false .mul (.t 27) (.c (.int .i64 65536))) .unit,
  .p (.bin 29 false .add (.t 26) (.t 28)) .unit,
  .p (.mv 30 (.t 7)) .unit,
  .p (.bin 31 false .mul (.t 30) (.c (.int .i64 256))) .unit,
  .p (.bin 32 false .add (.t 29) (.t 31)) .unit,
  .p (.mv 33 (.t 8)) .unit,
  .p (.bin 34 false .add (.t 32) (.t 33)) .unit,
  .p (.mv 35 (.t 1)) .unit,
  .p (.bin 36 false .rem (.t 34) (.t 35)) .unit,
  .p (.mv 4 (.t 36)) .unit])
 .ret)))))))),
 37, 2, [.t 4]⟩
theorem m_spec_l01Below : mH Tryd.prog 117 [(4, 0, .v), (4, 1, (.ps 0 0)), (5, 0, .v), (5, 1, (.ps 0 0)), (6, 0, .v), (6, 1, (.ps 0 0)), (7, 0, .v), (7, 1, (.ps 0 0)), (8, 0, .v), (8, 1, (.ps 0 0))] = some (F_spec_l01Below.code.x, F_spec_l01Below.N, F_spec_l01Below.np, F_spec_l01Below.res) := by kernel_rfl
noncomputable def T_spec_l01Below : (List (Int) × Int × Int) × Int → Option ((Int) × List (Int) × Int × Int) := evF [fn_spec_l01Byte] F_spec_l01Below [.box (.pair (.sl false (.int .u8)) (.pair (.int .i64) (.int .i64))), .cell (.int .i64)] [0] [.cell (.int .i64)] [.box (.pair (.sl false (.int .u8)) (.pair (.int .i64) (.int .i64)))]
noncomputable def fn_spec_l01Below : TFn := ⟨117, [.box (.pair (.sl false (.int .u8)) (.pair (.int .i64) (.int .i64))), .cell (.int .i64)], [0], [.cell (.int .i64)], [.box (.pair (.sl false (.int .u8)) (.pair (.int .i64) (.int .i64)))], T_spec_l01Below⟩
theorem ok_spec_l01Below : FnOk Tryd.prog fn_spec_l01Below := evF_ok mixed (allOk_cons ok_spec_l01Byte allOk_nil) m_spec_l01Below (by decide)
def F_spec_l01PickInt : TF := ⟨(.seq (.reg none [.p (.mv 4 (.c (.int .i64 0))) .unit])
 (.seq (.reg none [.p (.mv 5 (.t 1)) .unit,
  .p (.mvA 6 0) .unit,
  .p (.mv 7 (.t 1)) .unit,
  .p (.lenB 8 (.t 7)) .unit,
  .p (.callM 9 n_spec_l01Below [] (.ptrS (.t 6) 0) [((.t 8), 0)]) .unit,
  .p (.iadr 10 1 (.t 5) (.t 9)) .unit,
  .p (.load 11 (.t 10) 1 false) .unit,
  .p (.mv 4 (.t 11)) .unit])
 .ret)),
 12, 2, [.t 4]⟩
theorem m_spec_l01PickInt : mH Tryd.prog 118 [(1, 1, .v), (1, 4, (.ps 0 0))] = some (F_spec_l01PickInt.code.x, F_spec_l01PickInt.N, F_spec_l01PickInt.np, F_spec_l01PickInt.res) := by kernel_rfl
noncomputable def T_spec_l01PickInt : (List (Int) × Int × Int) × List (Int) → Option ((Int) × List (Int) × Int × Int) := evF [fn_spec_l01Below] F_spec_l01PickInt [.box (.pair (.sl false (.int .u8)) (.pair (.int .i64) (.int .i64))), .cell (.sl false (.int .i64))] [0] [.cell (.int .i64)] [.box (.pair (.sl false (.int .u8)) (.pair (.int .i64) (.int .i64)))]
noncomputable def fn_spec_l01PickInt : TFn := ⟨118, [.box (.pair (.sl false (.int .u8)) (.pair (.int .i64) (.int .i64))), .cell (.sl false (.int .i64))], [0], [.cell (.int .i64)], [.box (.pair (.sl false (.int .u8)) (.pair (.int .i64) (.int .i64)))], T_spec_l01PickInt⟩
theorem ok_spec_l01PickInt : FnOk Tryd.prog fn_spec_l01PickInt := evF_ok mixed (allOk_cons ok_spec_l01Below allOk_nil) m_spec_l01PickInt (by decide)
def F_spec_l01Pick : TF := ⟨(.seq (.reg none [.p (.mv 4 (.c (.string (ba [])))) .unit])
 (.seq (.reg none [.p (.mv 5 (.t 1)) .unit,
  .p (.mvA 6 0) .unit,
  .p (.mv 7 (.t 1)) .unit,
  .p (.lenB 8 (.t 7)) .unit,
  .p (.callM 9 n_spec_l01Below [] (.ptrS (.t 6) 0) [((.t 8), 0)]) .unit,
  .p (.iadr 10 1 (.t 5) (.t 9)) .unit,
  .p (.load 11 (.t 10) 1 false) .unit,
  .p (.mv 4 (.t 11)) .unit])
 .ret)),
 12, 2, [.t 4]⟩
theorem m_spec_l01Pick : mH Tryd.prog 119 [(1, 1, .v), (1, 4, (.ps 0 0))] = some (F_spec_l01Pick.code.x, F_spec_l01Pick.N, F_spec_l01Pick.np, F_spec_l01Pick.res) := by kernel_rfl
noncomputable def T_spec_l01Pick : (List (Int) × Int × Int) × List (List UInt8) → Option ((List UInt8) × List (Int) × Int × Int) := evF [fn_spec_l01Below] F_spec_l01Pick [.box (.pair (.sl false (.int .u8)) (.pair (.int .i64) (.int .i64))), .cell (.sl false .str)] [0] [.cell .str] [.box (.pair (.sl false (.int .u8)) (.pair (.int .i64) (.int .i64)))]
noncomputable def fn_spec_l01Pick : TFn := ⟨119, [.box (.pair (.sl false (.int .u8)) (.pair (.int .i64) (.int .i64))), .cell (.sl false .str)], [0], [.cell .str], [.box (.pair (.sl false (.int .u8)) (.pair (.int .i64) (.int .i64)))], T_spec_l01Pick⟩
theorem ok_spec_l01Pick : FnOk Tryd.prog fn_spec_l01Pick := evF_ok mixed (allOk_cons ok_spec_l01Below allOk_nil) m_spec_l01Pick (by decide)
def F_spec_l03Name : TF := ⟨(.seq (.reg none [.p (.mv 2 (.c (.string (ba [])))) .unit])
 (.seq (.reg none [.p (.mvA 3 0) .unit,
  .p (.bldZ 4 5 [(.lit (.string (ba [])))] [⟨0, 1, (.c (.string (ba [97, 110, 110])))⟩, ⟨1, 1, (.c (.string (ba [98, 111, 98])))⟩, ⟨2, 1, (.c (.string (ba [99, 121])))⟩, ⟨3, 1, (.c (.string (ba [100, 52])))⟩, ⟨4, 1, (.c (.string (ba [101, 118, 101])))⟩]) .str,
  .p (.callM 5 n_spec_l01Pick [] (.ptrS (.t 3) 0) [((.t 4), 0)]) .unit,
  .p (.mv 2 (.t 5)) .unit])
 .ret)),
 6, 1, [.t 2]⟩
theorem m_spec_l03Name : mH Tryd.prog 159 [(1, 0, .v), (1, 1, .z), (1, 2, (.ps 0 0))] = some (F_spec_l03Name.code.x, F_spec_l03Name.N, F_spec_l03Name.np, F_spec_l03Name.res) := by kernel_rfl
noncomputable def T_spec_l03Name : List (Int) × Int × Int → Option ((List UInt8) × List (Int) × Int × Int) := evF [fn_spec_l01Pick] F_spec_l03Name [.box (.pair (.sl false (.int .u8)) (.pair (.int .i64) (.int .i64)))] [0] [.cell .str] [.box (.pair (.sl false (.int .u8)) (.pair (.int .i64) (.int .i64)))]
noncomputable def fn_spec_l03Name : TFn := ⟨159, [.box (.pair (.sl false (.int .u8)) (.pair (.int .i64) (.int .i64)))], [0], [.cell .str], [.box (.pair (.sl false (.int .u8)) (.pair (.int .i64) (.int .i64)))], T_spec_l03Name⟩
theorem ok_spec_l03Name : FnOk Tryd.prog fn_spec_l03Name := evF_ok mixed (allOk_cons ok_spec_l01Pick allOk_nil) m_spec_l03Name (by decide)
def F_spec_l01In : TF := ⟨(.seq (.reg none [.p (.mv 6 (.c (.bool false))) .unit])
 (.seq (.reg none [.p (.mv 7 (.t 0)) .unit,
  .p (.mv 8 (.t 1)) .unit,
  .p (.bin 9 false .geq (.t 7) (.t 8)) .unit,
  .p (.mv 10 (.t 9)) .unit,
  .g 10 true (some 11) (.mv 11 (.t 0)) .unit,
  .g 10 true (some 12) (.mv 12 (.t 2)) .unit,
  .g 10 true (some 13) (.bin 13 false .leq (.t 11) (.t 12)) .unit,
  .p (.pick 14 (.t 10) (.t 13) (.c (.bool false))) .unit,
  .p (.mv 6 (.t 14)) .unit])
 .ret)),
 15, 3, [.t 6]⟩
theorem m_spec_l01In : mH Tryd.prog 71 [] = some (F_spec_l01In.code.x, F_spec_l01In.N, F_spec_l01In.np, F_spec_l01In.res) := by kernel_rfl
noncomputable def T_spec_l01In : (Int) × (Int) × Int → Option (Bool) := evF [] F_spec_l01In [.cell (.int .i64), .cell (.int .i64), .cell (.int .i64)] [] [.cell .bool] []
noncomputable def fn_spec_l01In : TFn := ⟨71, [.cell (.int .i64), .cell (.int .i64), .cell (.int .i64)], [], [.cell .bool], [], T_spec_l01In⟩
theorem ok_spec_l01In : FnOk Tryd.prog fn_spec_l01In := evF_ok mixed allOk_nil m_spec_l01In (by decide)
def B_spec_NameOk_1 : TC := (.seq (.seq (.reg none [.p (.mv 18 (.t 3)) .unit,
  .p (.mv 19 (.t 0)) .unit,
  .p (.lenS 20 (.t 19)) .unit,
  .p (.bin 21 false .lss (.t 18) (.t 20)) .unit])
 (.cond (.t 21) .skip (.exit 0)))
 (.seq (.block 1 (.seq (.join ⟨[(0, true), (3, false), (45, false)], [.cell .str, .cell (.int .i64), .cell .bool]⟩ (.reg none [.p (.mv 24 (.t 0)) .unit,
  .p (.mv 25 (.t 3)) .unit,
  .p (.idx 26 (.t 24) (.t 25)) .unit,
  .p (.bin 27 false .lss (.t 26) (.c (.int .u8 97))) .unit,
  .p (.mv 28 (.t 27)) .unit,
  .g 28 false (some 29) (.mv 29 (.t 0)) .unit,
  .g 28 false (some 30) (.mv 30 (.t 3)) .unit,
  .g 28 false (some 31) (.idx 31 (.t 29) (.t 30)) .unit,
  .g 28 false (some 32) (.bin 32 false .gtr (.t 31) (.c (.int .u8 122))) .unit,
  .p (.pick 33 (.t 28) (.c (.bool true)) (.t 32)) .unit,
  .p (.mv 34 (.t 33)) .unit,
  .g 34 true (some 35) (.mv 35 (.t 0)) .unit,
  .g 34 true (some 36) (.mv 36 (.t 3)) .unit,
  .g 34 true (some 37) (.idx 37 (.t 35) (.t 36)) .unit,
  .g 34 true (some 38) (.bin 38 false .lss (.t 37) (.c (.int .u8 48))) .unit,
  .g 34 true (some 39) (.mv 39 (.t 38)) .unit,
  .g 39 false (some 40) (.mv 40 (.t 0)) .unit,
  .g 39 false (some 41) (.mv 41 (.t 3)) .unit,
  .g 39 false (some 42) (.idx 42 (.t 40) (.t 41)) .unit,
  .g 39 false (some 43) (.bin 43 false .gtr (.t 42) (.c (.int .u8 57))) .unit,
  .g 34 true (some 44) (.pick 44 (.t 39) (.c (.bool true)) (.t 43)) .unit,
  .p (.pick 45 (.t 34) (.t 44) (.c (.bool false))) .unit]))
 (.cond (.t 45) (.seq (.reg none [.p (.mv 2 (.c (.bool false))) .unit])
 .ret) .skip)))
 (.reg none [.p (.mv 22 (.t 3)) .unit,
  .p (.bin 23 false .add (.t 22) (.c (.int .i64 1))) .unit,
  .p (.mv 3 (.t 23)) .unit])))
noncomputable def L_spec_NameOk_1 : Nat → (List UInt8) × Int → Option ((Unit) ⊕ (Bool)) := evL [fn_spec_l01In] (finT [.t 2] [] [.cell .bool]) 0 ⟨[(0, true), (3, false)], [.cell .str, .cell (.int .i64)]⟩ ⟨[], []⟩ B_spec_NameOk_1
def F_spec_NameOk : TF := ⟨(.seq (.reg none [.p (.mv 2 (.c (.bool false))) .unit])
 (.seq (.seq (.join ⟨[(0, true), (17, false)], [.cell .str, .cell .bool]⟩ (.reg none [.p (.mv 4 (.t 0)) .unit,
  .p (.lenS 5 (.t 4)) .unit,
  .p (.callB 6 n_spec_l01In [((.t 5), 0), ((.c (.int .i64 1)), 0), ((.c (.int .i64 12)), 0)]) .unit,
  .p (.un 7 .not (.t 6)) .unit,
  .p (.mv 8 (.t 7)) .unit,
  .g 8 false (some 9) (.mv 9 (.t 0)) .unit,
  .g 8 false (some 10) (.idx 10 (.t 9) (.c (.int .i64 0))) .unit,
  .g 8 false (some 11) (.bin 11 false .lss (.t 10) (.c (.int .u8 97))) .unit,
  .p (.pick 12 (.t 8) (.c (.bool true)) (.t 11)) .unit,
  .p (.mv 13 (.t 12)) .unit,
  .g 13 false (some 14) (.mv 14 (.t 0)) .unit,
  .g 13 false (some 15) (.idx 15 (.t 14) (.c (.int .i64 0))) .unit,
  .g 13 false (some 16) (.bin 16 false .gtr (.t 15) (.c (.int .u8 122))) .unit,
  .p (.pick 17 (.t 13) (.c (.bool true)) (.t 16)) .unit]))
 (.cond (.t 17) (.seq (.reg none [.p (.mv 2 (.c (.bool false))) .unit])
 .ret) .skip))
 (.seq (.seq (.reg none [.p (.mv 3 (.c (.int .i64 0))) .unit])
 (.jl 0 ⟨[(0, true), (3, false)], [.cell .str, .cell (.int .i64)]⟩ ⟨[], []⟩ B_spec_NameOk_1))
 (.seq (.reg none [.p (.mv 2 (.c (.bool true))) .unit])
 .ret)))),
 46, 1, [.t 2]⟩
theorem m_spec_NameOk : mH Tryd.prog 105 [] = some (F_spec_NameOk.code.x, F_spec_NameOk.N, F_spec_NameOk.np, F_spec_NameOk.res) := by kernel_rfl
noncomputable def T_spec_NameOk : List UInt8 → Option (Bool) := evF [fn_spec_l01In] F_spec_NameOk [.cell .str] [] [.cell .bool] []
noncomputable def fn_spec_NameOk : TFn := ⟨105, [.cell .str], [], [.cell .bool], [], T_spec_NameOk⟩
theorem ok_spec_NameOk : FnOk Tryd.prog fn_spec_NameOk := evF_ok mixed (allOk_cons ok_spec_l01In allOk_nil) m_spec_NameOk (by decide)
def F_spec_l01Figure : TF := ⟨(.seq (.reg none [.p (.mv 2 (.c (.int .u8 0))) .unit])
 (.seq (.seq (.reg none [.p (.mv 3 (.t 0)) .unit,
  .p (.bin 4 false .lss (.t 3) (.c (.int .i64 10))) .unit])
 (.cond (.t 4) (.seq (.reg none [.p (.mv 5 (.t 0)) .unit,
  .p (.bin 6 false .add (.c (.int .i64 48)) (.t 5)) .unit,
  .p (.cvi 7 .u8 .i64 (.t 6)) .unit,
  .p (.mv 2 (.t 7)) .unit])
 .ret) .skip))
 (.seq (.reg none [.p (.mv 8 (.t 0)) .unit,
  .p (.bin 9 false .add (.c (.int .i64 97)) (.t 8)) .unit,
  .p (.bin 10 false .sub (.t 9) (.c (.int .i64 10))) .unit,
  .p (.cvi 11 .u8 .i64 (.t 10)) .unit,
  .p (.mv 2 (.t 11)) .unit])
 .ret))),
 12, 1, [.t 2]⟩
theorem m_spec_l01Figure : mH Tryd.prog 166 [] = some (F_spec_l01Figure.code.x, F_spec_l01Figure.N, F_spec_l01Figure.np, F_spec_l01Figure.res) := by kernel_rfl
noncomputable def T_spec_l01Figure : Int → Option (Int) := evF [] F_spec_l01Figure [.cell (.int .i64)] [] [.cell (.int .u8)] []
noncomputable def fn_spec_l01Figure : TFn := ⟨166, [.cell (.int .i64)], [], [.cell (.int .u8)], [], T_spec_l01Figure⟩
theorem ok_spec_l01Figure : FnOk Tryd.prog fn_spec_l01Figure := evF_ok mixed allOk_nil m_spec_l01Figure (by decide)
def B_spec_Decimal_1 : TC := (.seq (.seq (.reg none [.p (.mv 10 (.t 0)) .unit,
  .p (.bin 11 false .neq (.t 10) (.c (.int .i64 0))) .unit])
 (.cond (.t 11) .skip (.exit 0)))
 (.block 1 (.seq (.reg none [.p (.mv 12 (.t 0)) .unit,
  .p (.bin 13 false .rem (.t 12) (.c (.int .i64 10))) .unit,
  .p (.mv 5 (.t 13)) .unit])
 (.seq (.join ⟨[(0, false), (3, false), (4, false), (5, false)], [.cell (.int .i64), .cell .bool, .cell .str, .cell (.int .i64)]⟩ (.seq (.reg none [.p (.mv 14 (.t 5)) .unit,
  .p (.bin 15 false .lss (.t 14) (.c (.int .i64 0))) .unit])
 (.cond (.t 15) (.reg none [.p (.mv 16 (.t 5)) .unit,
  .p (.un 17 .neg (.t 16)) .unit,
  .p (.mv 5 (.t 17)) .unit]) .skip)))
 (.seq (.reg none [.p (.mv 18 (.t 5)) .unit,
  .p (.callB 19 n_spec_l01Figure [((.t 18), 0)]) .unit,
  .p (.bldS 20 1 [(.lit (.int .u8 0))] [⟨0, 1, (.t 19)⟩]) (.int .u8),
  .p (.b2s 21 (.t 20)) .unit,
  .p (.mv 22 (.t 4)) .unit,
  .p (.bin 23 false .add (.t 21) (.t 22)) .unit,
  .p (.mv 4 (.t 23)) .unit])
 (.reg none [.p (.mv 24 (.t 0)) .unit,
  .p (.bin 25 false .quo (.t 24) (.c (.int .i64 10))) .unit,
  .p (.mv 0 (.t 25)) .unit]))))))
noncomputable def L_spec_Decimal_1 : Nat → (Int) × (Bool) × List UInt8 → Option (((Bool) × List UInt8) ⊕ (List UInt8)) := evL [fn_spec_l01Figure] (finT [.t 2] [] [.cell .str]) 0 ⟨[(0, false), (3, false), (4, false)], [.cell (.int .i64), .cell .bool, .cell .str]⟩ ⟨[(3, false), (4, false)], [.cell .bool, .cell .str]⟩ B_spec_Decimal_1
def F_spec_Decimal : TF := ⟨(.seq (.reg none [.p (.mv 2 (.c (.string (ba [])))) .unit])
 (.seq (.seq (.reg none [.p (.mv 6 (.t 0)) .unit,
  .p (.bin 7 false .eql (.t 6) (.c (.int .i64 0))) .unit])
 (.cond (.t 7) (.seq (.reg none [.p (.mv 2 (.c (.string (ba [48])))) .unit])
 .ret) .skip))
 (.seq (.reg none [.p (.mv 8 (.t 0)) .unit,
  .p (.bin 9 false .lss (.t 8) (.c (.int .i64 0))) .unit,
  .p (.mv 3 (.t 9)) .unit])
 (.seq (.reg none [.p (.mv 4 (.c (.string (ba [])))) .unit])
 (.seq (.jl 0 ⟨[(0, false), (3, false), (4, false)], [.cell (.int .i64), .cell .bool, .cell .str]⟩ ⟨[(3, false), (4, false)], [.cell .bool, .cell .str]⟩ B_spec_Decimal_1)
 (.seq (.seq (.reg none [.p (.mv 26 (.t 3)) .unit])
 (.cond (.t 26) (.seq (.reg none [.p (.mv 27 (.t 4)) .unit,
  .p (.bin 28 false .add (.c (.string (ba [45]))) (.t 27)) .unit,
  .p (.mv 2 (.t 28)) .unit])
 .ret) .skip))
 (.seq (.reg none [.p (.mv 29 (.t 4)) .unit,
  .p (.mv 2 (.t 29)) .unit])
 .ret))))))),
 30, 1, [.t 2]⟩
theorem m_spec_Decimal : mH Tryd.prog 148 [] = some (F_spec_Decimal.code.x, F_spec_Decimal.N, F_spec_Decimal.np, F_spec_Decimal.res) := by kernel_rfl
noncomputable def T_spec_Decimal : Int → Option (List UInt8) := evF [fn_spec_l01Figure] F_spec_Decimal [.cell (.int .i64)] [] [.cell .str] []
noncomputable def fn_spec_Decimal : TFn := ⟨148, [.cell (.int .i64)], [], [.cell .str], [], T_spec_Decimal⟩
theorem ok_spec_Decimal : FnOk Tryd.prog fn_spec_Decimal := evF_ok mixed (allOk_cons ok_spec_l01Figure allOk_nil) m_spec_Decimal (by decide)
def F_spec_PrivateName : TF := ⟨(.seq (.reg none [.p (.mv 4 (.c (.string (ba [])))) .unit])
 (.seq (.seq (.join ⟨[(0, true), (1, true), (12, false)], [.cell (.int .i64), .cell .str, .cell .bool]⟩ (.reg none [.p (.mv 5 (.t 0)) .unit,
  .p (.callB 6 n_spec_l01In [((.t 5), 0), ((.c (.int .i64 1)), 0), ((.c (.int .i64 9)), 0)]) .unit,
  .p (.un 7 .not (.t 6)) .unit,
  .p (.mv 8 (.t 7)) .unit,
  .g 8 false (some 9) (.mv 9 (.t 1)) .unit,
  .g 8 false (some 10) (.callB 10 n_spec_NameOk [((.t 9), 0)]) .unit,
  .g 8 false (some 11) (.un 11 .not (.t 10)) .unit,
  .p (.pick 12 (.t 8) (.c (.bool true)) (.t 11)) .unit]))
 (.cond (.t 12) (.seq (.reg none [.p (.mv 4 (.c (.string (ba [])))) .unit])
 .ret) .skip))
 (.seq (.reg none [.p (.mv 13 (.t 0)) .unit,
  .p (.callB 14 n_spec_Decimal [((.t 13), 0)]) .unit,
  .p (.bin 15 false .add (.c (.string (ba [35]))) (.t 14)) .unit,
  .p (.bin 16 false .add (.t 15) (.c (.string (ba [35])))) .unit,
  .p (.mv 17 (.t 1)) .unit,
  .p (.bin 18 false .add (.t 16) (.t 17)) .unit,
  .p (.mv 4 (.t 18)) .unit])
 .ret))),
 19, 2, [.t 4]⟩
theorem m_spec_PrivateName : mH Tryd.prog 158 [] = some (F_spec_PrivateName.code.x, F_spec_PrivateName.N, F_spec_PrivateName.np, F_spec_PrivateName.res) := by kernel_rfl
noncomputable def T_spec_PrivateName : (Int) × List UInt8 → Option (List UInt8) := evF [fn_spec_l01In, fn_spec_NameOk, fn_spec_Decimal] F_spec_PrivateName [.cell (.int .i64), .cell .str] [] [.cell .str] []
noncomputable def fn_spec_PrivateName : TFn := ⟨158, [.cell (.int .i64), .cell .str], [], [.cell .str], [], T_spec_PrivateName⟩
theorem ok_spec_PrivateName : FnOk Tryd.prog fn_spec_PrivateName := evF_ok mixed (allOk_cons ok_spec_l01In (allOk_cons ok_spec_NameOk (allOk_cons ok_spec_Decimal allOk_nil))) m_spec_PrivateName (by decide)
def F_spec_l17Who : TF := ⟨(.seq (.reg none [.p (.mv 2 (.c (.string (ba [])))) .unit])
 (.seq (.reg none [.p (.mvA 3 0) .unit,
  .p (.callM 4 n_spec_l01Below [] (.ptrS (.t 3) 0) [((.c (.int .i64 3)), 0)]) .unit,
  .p (.bin 5 false .add (.c (.int .i64 1)) (.t 4)) .unit,
  .p (.mvA 6 0) .unit,
  .p (.callM 7 n_spec_l03Name [] (.ptrS (.t 6) 0) []) .unit,
  .p (.callB 8 n_spec_PrivateName [((.t 5), 0), ((.t 7), 0)]) .unit,
  .p (.mv 2 (.t 8)) .unit])
 .ret)),
 9, 1, [.t 2]⟩
theorem m_spec_l17Who : mH Tryd.prog 142 [(1, 0, .v), (1, 1, (.ps 0 0)), (1, 3, .v), (1, 4, (.ps 0 0))] = some (F_spec_l17Who.code.x, F_spec_l17Who.N, F_spec_l17Who.np, F_spec_l17Who.res) := by kernel_rfl
noncomputable def T_spec_l17Who : List (Int) × Int × Int → Option ((List UInt8) × List (Int) × Int × Int) := evF [fn_spec_l01Below, fn_spec_l03Name, fn_spec_PrivateName] F_spec_l17Who [.box (.pair (.sl false (.int .u8)) (.pair (.int .i64) (.int .i64)))] [0] [.cell .str] [.box (.pair (.sl false (.int .u8)) (.pair (.int .i64) (.int .i64)))]
noncomputable def fn_spec_l17Who : TFn := ⟨142, [.box (.pair (.sl false (.int .u8)) (.pair (.int .i64) (.int .i64)))], [0], [.cell .str], [.box (.pair (.sl false (.int .u8)) (.pair (.int .i64) (.int .i64)))], T_spec_l17Who⟩
theorem ok_spec_l17Who : FnOk Tryd.prog fn_spec_l17Who := evF_ok mixed (allOk_cons ok_spec_l01Below (allOk_cons ok_spec_l03Name (allOk_cons ok_spec_PrivateName allOk_nil))) m_spec_l17Who (by decide)
def B_spec_l03Insert_1 : TC := (.seq (.seq (.reg none [.p (.mv 9 (.t 6)) .unit,
  .p (.mv 10 (.t 0)) .unit,
  .p (.lenB 11 (.t 10)) .unit,
  .p (.bin 12 false .lss (.t 9) (.t 11)) .unit])
 (.cond (.t 12) .skip (.exit 0)))
 (.seq (.join ⟨[(0, true), (1, true), (5, false), (6, false)], [.cell (.sl false .str), .cell .str, .cell (.sl true .str), .cell (.int .i64)]⟩ (.block 1 (.seq (.reg none [.p (.mv 15 (.t 0)) .unit,
  .p (.mv 16 (.t 6)) .unit,
  .p (.iadr 17 1 (.t 15) (.t 16)) .unit,
  .p (.load 18 (.t 17) 1 false) .unit,
  .p (.mv 19 (.t 1)) .unit,
  .p (.bin 20 false .lss (.t 18) (.t 19)) .unit])
 (.cond (.t 20) (.reg none [.p (.mvT 21 5) .unit,
  .p (.mv 22 (.t 0)) .unit,
  .p (.mv 23 (.t 6)) .unit,
  .p (.iadr 24 1 (.t 22) (.t 23)) .unit,
  .p (.load 25 (.t 24) 1 false) .unit,
  .p (.bldS 26 1 [(.lit (.string (ba [])))] [⟨0, 1, (.t 25)⟩]) .str,
  .p (.app 27 1 16 (.t 21) (.t 26)) .str,
  .p (.mvT 5 27) .unit]) .skip))))
 (.reg none [.p (.mv 13 (.t 6)) .unit,
  .p (.bin 14 false .add (.t 13) (.c (.int .i64 1))) .unit,
  .p (.mv 6 (.t 14)) .unit])))
noncomputable def L_spec_l03Insert_1 : Nat → (List (List UInt8)) × (List UInt8) × (List (List UInt8)) × Int → Option (((List (List UInt8)) × (List UInt8) × List (List UInt8)) ⊕ (List (List UInt8))) := evL [] (finT [.t 4] [] [.cell (.sl true .str)]) 0 ⟨[(0, true), (1, true), (5, false), (6, false)], [.cell (.sl false .str), .cell .str, .cell (.sl true .str), .cell (.int .i64)]⟩ ⟨[(0, true), (1, true), (5, false)], [.cell (.sl false .str), .cell .str, .cell (.sl true .str)]⟩ B_spec_l03Insert_1
def B_spec_l03Insert_2 : TC := (.seq (.seq (.reg none [.p (.mv 32 (.t 7)) .unit,
  .p (.mv 33 (.t 0)) .unit,
  .p (.lenB 34 (.t 33)) .unit,
  .p (.bin 35 false .lss (.t 32) (.t 34)) .unit])
 (.cond (.t 35) .skip (.exit 2)))
 (.seq (.join ⟨[(0, true), (1, true), (5, false), (7, false)], [.cell (.sl false .str), .cell .str, .cell (.sl true .str), .cell (.int .i64)]⟩ (.block 3 (.seq (.reg none [.p (.mv 38 (.t 0)) .unit,
  .p (.mv 39 (.t 7)) .unit,
  .p (.iadr 40 1 (.t 38) (.t 39)) .unit,
  .p (.load 41 (.t 40) 1 false) .unit,
  .p (.mv 42 (.t 1)) .unit,
  .p (.bin 43 false .gtr (.t 41) (.t 42)) .unit])
 (.cond (.t 43) (.reg none [.p (.mvT 44 5) .unit,
  .p (.mv 45 (.t 0)) .unit,
  .p (.mv 46 (.t 7)) .unit,
  .p (.iadr 47 1 (.t 45) (.t 46)) .unit,
  .p (.load 48 (.t 47) 1 false) .unit,
  .p (.bldS 49 1 [(.lit (.string (ba [])))] [⟨0, 1, (.t 48)⟩]) .str,
  .p (.app 50 1 16 (.t 44) (.t 49)) .str,
  .p (.mvT 5 50) .unit]) .skip))))
 (.reg none [.p (.mv 36 (.t 7)) .unit,
  .p (.bin 37 false .add (.t 36) (.c (.int .i64 1))) .unit,
  .p (.mv 7 (.t 37)) .unit])))
noncomputable def L_spec_l03Insert_2 : Nat → (List (List UInt8)) × (List UInt8) × (List (List UInt8)) × Int → Option ((List (List UInt8)) ⊕ (List (List UInt8))) := evL [] (finT [.t 4] [] [.cell (.sl true .str)]) 2 ⟨[(0, true), (1, true), (5, false), (7, false)], [.cell (.sl false .str), .cell .str, .cell (.sl true .str), .cell (.int .i64)]⟩ ⟨[(5, false)], [.cell (.sl true .str)]⟩ B_spec_l03Insert_2
def F_spec_l03Insert : TF := ⟨(.seq (.reg none [.p (.mvN 4 1) .unit])
 (.seq (.reg none [.p (.bldS 8 0 [(.lit (.string (ba [])))] []) .str,
  .p (.mvT 5 8) .unit])
 (.seq (.seq (.reg none [.p (.mv 6 (.c (.int .i64 0))) .unit])
 (.jl 0 ⟨[(0, true), (1, true), (5, false), (6, false)], [.cell (.sl false .str), .cell .str, .cell (.sl true .str), .cell (.int .i64)]⟩ ⟨[(0, true), (1, true), (5, false)], [.cell (.sl false .str), .cell .str, .cell (.sl true .str)]⟩ B_spec_l03Insert_1))
 (.seq (.reg none [.p (.mvT 28 5) .unit,
  .p (.mv 29 (.t 1)) .unit,
  .p (.bldS 30 1 [(.lit (.string (ba [])))] [⟨0, 1, (.t 29)⟩]) .str,
  .p (.app 31 1 16 (.t 28) (.t 30)) .str,
  .p (.mvT 5 31) .unit])
 (.seq (.seq (.reg none [.p (.mv 7 (.c (.int .i64 0))) .unit])
 (.jl 2 ⟨[(0, true), (1, true), (5, false), (7, false)], [.cell (.sl false .str), .cell .str, .cell (.sl true .str), .cell (.int .i64)]⟩ ⟨[(5, false)], [.cell (.sl true .str)]⟩ B_spec_l03Insert_2))
 (.seq (.reg none [.p (.mvT 51 5) .unit,
  .p (.mvT 4 51) .unit])
 .ret)))))),
 52, 2, [.t 4]⟩
theorem m_spec_l03Insert : mH Tryd.prog 80 [(1, 1, .t), (6, 0, .t), (6, 7, .t), (7, 0, .t), (7, 4, .t), (12, 0, .t), (12, 7, .t), (13, 0, .t), (13, 1, .t)] = some (F_spec_l03Insert.code.x, F_spec_l03Insert.N, F_spec_l03Insert.np, F_spec_l03Insert.res) := by kernel_rfl
noncomputable def T_spec_l03Insert : (List (List UInt8)) × List UInt8 → Option (List (List UInt8)) := evF [] F_spec_l03Insert [.cell (.sl false .str), .cell .str] [] [.cell (.sl true .str)] []
noncomputable def fn_spec_l03Insert : TFn := ⟨80, [.cell (.sl false .str), .cell .str], [], [.cell (.sl true .str)], [], T_spec_l03Insert⟩
theorem ok_spec_l03Insert : FnOk Tryd.prog fn_spec_l03Insert := evF_ok mixed allOk_nil m_spec_l03Insert (by decide)
def B_spec_SortNames_1 : TC := (.seq (.seq (.reg none [.p (.mv 6 (.t 4)) .unit,
  .p (.mv 7 (.t 0)) .unit,
  .p (.lenB 8 (.t 7)) .unit,
  .p (.bin 9 false .lss (.t 6) (.t 8)) .unit])
 (.cond (.t 9) .skip (.exit 0)))
 (.seq (.block 1 (.reg none [.p (.mvT 12 3) .unit,
  .p (.mv 13 (.t 0)) .unit,
  .p (.mv 14 (.t 4)) .unit,
  .p (.iadr 15 1 (.t 13) (.t 14)) .unit,
  .p (.load 16 (.t 15) 1 false) .unit,
  .p (.callB 17 n_spec_l03Insert [((.t 12), 0), ((.t 16), 0)]) .unit,
  .p (.mvT 3 17) .unit]))
 (.reg none [.p (.mv 10 (.t 4)) .unit,
  .p (.bin 11 false .add (.t 10) (.c (.int .i64 1))) .unit,
  .p (.mv 4 (.t 11)) .unit])))
noncomputable def L_spec_SortNames_1 : Nat → (List (List UInt8)) × (List (List UInt8)) × Int → Option ((List (List UInt8)) ⊕ (List (List UInt8))) := evL [fn_spec_l03Insert] (finT [.t 2] [] [.cell (.sl true .str)]) 0 ⟨[(0, true), (3, false), (4, false)], [.cell (.sl false .str), .cell (.sl true .str), .cell (.int .i64)]⟩ ⟨[(3, false)], [.cell (.sl true .str)]⟩ B_spec_SortNames_1
def F_spec_SortNames : TF := ⟨(.seq (.reg none [.p (.mvN 2 1) .unit])
 (.seq (.reg none [.p (.bldS 5 0 [(.lit (.string (ba [])))] []) .str,
  .p (.mvT 3 5) .unit])
 (.seq (.seq (.reg none [.p (.mv 4 (.c (.int .i64 0))) .unit])
 (.jl 0 ⟨[(0, true), (3, false), (4, false)], [.cell (.sl false .str), .cell (.sl true .str), .cell (.int .i64)]⟩ ⟨[(3, false)], [.cell (.sl true .str)]⟩ B_spec_SortNames_1))
 (.seq (.reg none [.p (.mvT 18 3) .unit,
  .p (.mvT 2 18) .unit])
 .ret)))),
 19, 1, [.t 2]⟩
theorem m_spec_SortNames : mH Tryd.prog 160 [(1, 1, .t), (5, 0, .t), (5, 6, .t), (6, 0, .t), (6, 1, .t)] = some (F_spec_SortNames.code.x, F_spec_SortNames.N, F_spec_SortNames.np, F_spec_SortNames.res) := by kernel_rfl
noncomputable def T_spec_SortNames : List (List UInt8) → Option (List (List UInt8)) := evF [fn_spec_l03Insert] F_spec_SortNames [.cell (.sl false .str)] [] [.cell (.sl true .str)] []
noncomputable def fn_spec_SortNames : TFn := ⟨160, [.cell (.sl false .str)], [], [.cell (.sl true .str)], [], T_spec_SortNames⟩
theorem ok_spec_SortNames : FnOk Tryd.prog fn_spec_SortNames := evF_ok mixed (allOk_cons ok_spec_l03Insert allOk_nil) m_spec_SortNames (by decide)
def B_spec_l17Groups_1 : TC := (.seq (.seq (.reg none [.p (.mv 8 (.t 6)) .unit,
  .p (.mvA 9 0) .unit,
  .p (.mv 10 (.t 1)) .unit,
  .p (.callM 11 n_spec_l01Below [] (.ptrS (.t 9) 0) [((.t 10), 0)]) .unit,
  .p (.bin 12 false .add (.c (.int .i64 1)) (.t 11)) .unit,
  .p (.bin 13 false .lss (.t 8) (.t 12)) .unit])
 (.cond (.t 13) .skip (.exit 0)))
 (.seq (.block 1 (.reg none [.p (.mvT 16 5) .unit,
  .p (.mvA 17 0) .unit,
  .p (.bldZ 18 4 [(.lit (.string (ba [])))] [⟨0, 1, (.c (.string (ba [103])))⟩, ⟨1, 1, (.c (.string (ba [104])))⟩, ⟨2, 1, (.c (.string (ba [107])))⟩, ⟨3, 1, (.c (.string (ba [109])))⟩]) .str,
  .p (.callM 19 n_spec_l01Pick [] (.ptrS (.t 17) 0) [((.t 18), 0)]) .unit,
  .p (.bldS 20 1 [(.lit (.string (ba [])))] [⟨0, 1, (.t 19)⟩]) .str,
  .p (.app 21 1 16 (.t 16) (.t 20)) .str,
  .p (.mvT 5 21) .unit]))
 (.reg none [.p (.mv 14 (.t 6)) .unit,
  .p (.bin 15 false .add (.t 14) (.c (.int .i64 1))) .unit,
  .p (.mv 6 (.t 15)) .unit])))
noncomputable def L_spec_l17Groups_1 : Nat → (List (Int) × Int × Int) × (Int) × (List (List UInt8)) × Int → Option (((List (Int) × Int × Int) × List (List UInt8)) ⊕ ((List (List UInt8)) × List (Int) × Int × Int)) := evL [fn_spec_l01Below, fn_spec_l01Pick, fn_spec_SortNames] (finT [.t 4] [0] [.cell (.sl true .str), .box (.pair (.sl false (.int .u8)) (.pair (.int .i64) (.int .i64)))]) 0 ⟨[(0, true), (1, true), (5, false), (6, false)], [.box (.pair (.sl false (.int .u8)) (.pair (.int .i64) (.int .i64))), .cell (.int .i64), .cell (.sl true .str), .cell (.int .i64)]⟩ ⟨[(0, true), (5, false)], [.box (.pair (.sl false (.int .u8)) (.pair (.int .i64) (.int .i64))), .cell (.sl true .str)]⟩ B_spec_l17Groups_1
def F_spec_l17Groups : TF := ⟨(.seq (.reg none [.p (.mvN 4 1) .unit])
 (.seq (.reg none [.p (.bldS 7 0 [(.lit (.string (ba [])))] []) .str,
  .p (.mvT 5 7) .unit])
 (.seq (.seq (.reg none [.p (.mv 6 (.c (.int .i64 0))) .unit])
 (.jl 0 ⟨[(0, true), (1, true), (5, false), (6, false)], [.box (.pair (.sl false (.int .u8)) (.pair (.int .i64) (.int .i64))), .cell (.int .i64), .cell (.sl true .str), .cell (.int .i64)]⟩ ⟨[(0, true), (5, false)], [.box (.pair (.sl false (.int .u8)) (.pair (.int .i64) (.int .i64))), .cell (.sl true .str)]⟩ B_spec_l17Groups_1))
 (.seq (.reg none [.p (.mvT 22 5) .unit,
  .p (.callB 23 n_spec_SortNames [((.t 22), 0)]) .unit,
  .p (.mvT 4 23) .unit])
 .ret)))),
 24, 2, [.t 4]⟩
theorem m_spec_l17Groups : mH Tryd.prog 143 [(1, 1, .t), (3, 1, .v), (3, 3, (.ps 0 0)), (5, 0, .t), (5, 1, .v), (5, 2, .z), (5, 3, (.ps 0 0)), (5, 6, .t), (6, 0, .t), (6, 2, .t)] = some (F_spec_l17Groups.code.x, F_spec_l17Groups.N, F_spec_l17Groups.np, F_spec_l17Groups.res) := by kernel_rfl
noncomputable def T_spec_l17Groups : (List (Int) × Int × Int) × Int → Option ((List (List UInt8)) × List (Int) × Int × Int) := evF [fn_spec_l01Below, fn_spec_l01Pick, fn_spec_SortNames] F_spec_l17Groups [.box (.pair (.sl false (.int .u8)) (.pair (.int .i64) (.int .i64))), .cell (.int .i64)] [0] [.cell (.sl true .str)] [.box (.pair (.sl false (.int .u8)) (.pair (.int .i64) (.int .i64)))]
noncomputable def fn_spec_l17Groups : TFn := ⟨143, [.box (.pair (.sl false (.int .u8)) (.pair (.int .i64) (.int .i64))), .cell (.int .i64)], [0], [.cell (.sl true .str)], [.box (.pair (.sl false (.int .u8)) (.pair (.int .i64) (.int .i64)))], T_spec_l17Groups⟩
theorem ok_spec_l17Groups : FnOk Tryd.prog fn_spec_l17Groups := evF_ok mixed (allOk_cons ok_spec_l01Below (allOk_cons ok_spec_l01Pick (allOk_cons ok_spec_SortNames allOk_nil))) m_spec_l17Groups (by decide)
def F_spec_l17Word : TF := ⟨(.seq (.reg none [.p (.alloc 2 [(.lit (.int .i64 0)), (.lit (.string (ba []))), (.sl true 1 []), (.lit (.string (ba [])))]) .unit])
 (.seq (.reg none [.p (.mvA 4 0) .unit,
  .p (.bldZ 5 7 [(.lit (.int .i64 0))] [⟨0, 1, (.c (.int .i64 1))⟩, ⟨1, 1, (.c (.int .i64 1))⟩, ⟨2, 1, (.c (.int .i64 1))⟩, ⟨3, 1, (.c (.int .i64 2))⟩, ⟨4, 1, (.c (.int .i64 3))⟩, ⟨5, 1, (.c (.int .i64 4))⟩, ⟨6, 1, (.c (.int .i64 4))⟩]) (.int .i64),
  .p (.callM 6 n_spec_l01PickInt [] (.ptrS (.t 4) 0) [((.t 5), 0)]) .unit,
  .p (.mvA 7 0) .unit,
  .p (.callM 8 n_spec_l17Who [] (.ptrS (.t 7) 0) []) .unit,
  .p (.bld 9 [(.lit (.int .i64 0)), (.lit (.string (ba []))), (.sl true 1 []), (.lit (.string (ba [])))] [⟨0, 1, (.t 6)⟩, ⟨1, 1, (.t 8)⟩]) .unit,
  .p (.alloc 3 [(.lit (.int .i64 0)), (.lit (.string (ba []))), (.sl true 1 []), (.lit (.string (ba [])))]) .unit,
  .p (.storeT (.t 3) 9 4) .unit])
 (.seq (.join ⟨[(0, true), (2, false), (3, false)], [.box (.pair (.sl false (.int .u8)) (.pair (.int .i64) (.int .i64))), .box (.pair (.int .i64) (.pair .str (.pair (.sl true .str) .str))), .box (.pair (.int .i64) (.pair .str (.pair (.sl true .str) .str)))]⟩ (.seq (.reg none [.p (.fadr 10 (.t 3) 0) .unit,
  .p (.load 11 (.t 10) 1 false) .unit])
 (.block 0 (.seq (.reg none [.p (.bin 13 false .eql (.t 11) (.c (.int .i64 4))) .unit,
  .p (.mv 12 (.t 13)) .unit])
 (.cond (.t 12) (.seq (.reg none [.p (.mvA 14 0) .unit,
  .p (.callM 15 n_spec_l17Groups [] (.ptrS (.t 14) 0) [((.c (.int .i64 3)), 0)]) .unit,
  .p (.fadr 16 (.t 3) 2) .unit,
  .p (.storeT (.t 16) 15 1) .unit])
 (.reg none [.p (.mvA 17 0) .unit,
  .p (.bldZ 18 3 [(.lit (.string (ba [])))] [⟨0, 1, (.c (.string (ba [])))⟩, ⟨1, 1, (.c (.string (ba [104, 105])))⟩, ⟨2, 1, (.c (.string (ba [119, 104, 97, 116])))⟩]) .str,
  .p (.callM 19 n_spec_l01Pick [] (.ptrS (.t 17) 0) [((.t 18), 0)]) .unit,
  .p (.fadr 20 (.t 3) 3) .unit,
  .p (.store (.t 20) (.t 19) 1) .unit])) (.seq (.join ⟨[(0, true), (2, false), (3, false), (21, false)], [.box (.pair (.sl false (.int .u8)) (.pair (.int .i64) (.int .i64))), .box (.pair (.int .i64) (.pair .str (.pair (.sl true .str) .str))), .box (.pair (.int .i64) (.pair .str (.pair (.sl true .str) .str))), .cell .bool]⟩ (.seq (.reg none [.p (.bin 22 false .eql (.t 11) (.c (.int .i64 1))) .unit,
  .p (.mv 21 (.t 22)) .unit])
 (.cond (.t 21) .skip (.reg none [.p (.bin 23 false .eql (.t 11) (.c (.int .i64 2))) .unit,
  .p (.mv 21 (.t 23)) .unit]))))
 (.cond (.t 21) (.reg none [.p (.mvA 24 0) .unit,
  .p (.callM 25 n_spec_l17Groups [] (.ptrS (.t 24) 0) [((.c (.int .i64 1)), 0)]) .unit,
  .p (.fadr 26 (.t 3) 2) .unit,
  .p (.storeT (.t 26) 25 1) .unit]) .skip)))))))
 (.seq (.reg none [.p (.loadT 27 (.t 3) 4 true) .unit,
  .p (.storeT (.t 2) 27 4) .unit])
 .ret)))),
 28, 1, [.c 2 4 true]⟩
theorem m_spec_l17Word : mH Tryd.prog 116 [(1, 0, .v), (1, 1, .z), (1, 2, (.ps 0 0)), (1, 3, .v), (1, 4, (.ps 0 0)), (1, 7, .t), (4, 0, .v), (4, 1, (.ps 0 0)), (4, 3, .t), (5, 0, .v), (5, 1, .z), (5, 2, (.ps 0 0)), (8, 0, .v), (8, 1, (.ps 0 0)), (8, 3, .t), (9, 0, .t), (9, 1, .t)] = some (F_spec_l17Word.code.x, F_spec_l17Word.N, F_spec_l17Word.np, F_spec_l17Word.res) := by kernel_rfl
noncomputable def T_spec_l17Word : List (Int) × Int × Int → Option ((Int × List UInt8 × List (List UInt8) × List UInt8) × List (Int) × Int × Int) := evF [fn_spec_l01PickInt, fn_spec_l17Who, fn_spec_l17Groups, fn_spec_l01Pick] F_spec_l17Word [.box (.pair (.sl false (.int .u8)) (.pair (.int .i64) (.int .i64)))] [0] [.agg (.pair (.int .i64) (.pair .str (.pair (.sl true .str) .str)))] [.box (.pair (.sl false (.int .u8)) (.pair (.int .i64) (.int .i64)))]
noncomputable def fn_spec_l17Word : TFn := ⟨116, [.box (.pair (.sl false (.int .u8)) (.pair (.int .i64) (.int .i64)))], [0], [.agg (.pair (.int .i64) (.pair .str (.pair (.sl true .str) .str)))], [.box (.pair (.sl false (.int .u8)) (.pair (.int .i64) (.int .i64)))], T_spec_l17Word⟩
theorem ok_spec_l17Word : FnOk Tryd.prog fn_spec_l17Word := evF_ok mixed (allOk_cons ok_spec_l01PickInt (allOk_cons ok_spec_l17Who (allOk_cons ok_spec_l17Groups (allOk_cons ok_spec_l01Pick allOk_nil)))) m_spec_l17Word (by decide)
def B_spec_l01Long_1 : TC := (.seq (.seq (.reg none [.p (.mv 9 (.t 6)) .unit,
  .p (.mv 10 (.t 0)) .unit,
  .p (.bin 11 false .lss (.t 9) (.t 10)) .unit])
 (.cond (.t 11) .skip (.exit 0)))
 (.seq (.block 1 (.reg none [.p (.mvA 14 5) .unit,
  .p (.mv 15 (.t 6)) .unit,
  .p (.mv 16 (.t 1)) .unit,
  .p (.iadr 17 1 (.t 14) (.t 15)) .unit,
  .p (.store (.t 17) (.t 16) 1) .unit]))
 (.reg none [.p (.mv 12 (.t 6)) .unit,
  .p (.bin 13 false .add (.t 12) (.c (.int .i64 1))) .unit,
  .p (.mv 6 (.t 13)) .unit])))
noncomputable def L_spec_l01Long_1 : Nat → (Int) × (Int) × (List (Int)) × Int → Option ((List (Int)) ⊕ (List UInt8)) := evL [] (finT [.t 4] [] [.cell .str]) 0 ⟨[(0, true), (1, true), (5, false), (6, false)], [.cell (.int .i64), .cell (.int .u8), .cell (.sl true (.int .u8)), .cell (.int .i64)]⟩ ⟨[(5, false)], [.cell (.sl true (.int .u8))]⟩ B_spec_l01Long_1
def F_spec_l01Long : TF := ⟨(.seq (.reg none [.p (.mv 4 (.c (.string (ba [])))) .unit])
 (.seq (.reg none [.p (.mv 7 (.t 0)) .unit,
  .p (.mkS 8 1 [(.lit (.int .u8 0))] (.t 7) (.t 7)) (.int .u8),
  .p (.mvT 5 8) .unit])
 (.seq (.seq (.reg none [.p (.mv 6 (.c (.int .i64 0))) .unit])
 (.jl 0 ⟨[(0, true), (1, true), (5, false), (6, false)], [.cell (.int .i64), .cell (.int .u8), .cell (.sl true (.int .u8)), .cell (.int .i64)]⟩ ⟨[(5, false)], [.cell (.sl true (.int .u8))]⟩ B_spec_l01Long_1))
 (.seq (.reg none [.p (.mvT 18 5) .unit,
  .p (.b2s 19 (.t 18)) .unit,
  .p (.mv 4 (.t 19)) .unit])
 .ret)))),
 20, 2, [.t 4]⟩
theorem m_spec_l01Long : mH Tryd.prog 120 [(1, 2, .t), (5, 0, .v), (6, 0, .t)] = some (F_spec_l01Long.code.x, F_spec_l01Long.N, F_spec_l01Long.np, F_spec_l01Long.res) := by kernel_rfl
noncomputable def T_spec_l01Long : (Int) × Int → Option (List UInt8) := evF [] F_spec_l01Long [.cell (.int .i64), .cell (.int .u8)] [] [.cell .str] []
noncomputable def fn_spec_l01Long : TFn := ⟨120, [.cell (.int .i64), .cell (.int .u8)], [], [.cell .str], [], T_spec_l01Long⟩
theorem ok_spec_l01Long : FnOk Tryd.prog fn_spec_l01Long := evF_ok mixed allOk_nil m_spec_l01Long (by decide)
def F_spec_l17AnyWord : TF := ⟨(.seq (.reg none [.p (.alloc 2 [(.lit (.int .i64 0)), (.lit (.string (ba []))), (.sl true 1 []), (.lit (.string (ba [])))]) .unit])
 (.seq (.reg none [.p (.mvA 4 0) .unit,
  .p (.callM 5 n_spec_l17Word [] (.ptrS (.t 4) 0) []) .unit,
  .p (.alloc 3 [(.lit (.int .i64 0)), (.lit (.string (ba []))), (.sl true 1 []), (.lit (.string (ba [])))]) .unit,
  .p (.storeT (.t 3) 5 4) .unit])
 (.seq (.join ⟨[(0, true), (2, false), (3, false)], [.box (.pair (.sl false (.int .u8)) (.pair (.int .i64) (.int .i64))), .box (.pair (.int .i64) (.pair .str (.pair (.sl true .str) .str))), .box (.pair (.int .i64) (.pair .str (.pair (.sl true .str) .str)))]⟩ (.seq (.reg none [.p (.mvA 6 0) .unit,
  .p (.callM 7 n_spec_l01Below [] (.ptrS (.t 6) 0) [((.c (.int .i64 20)), 0)]) .unit])
 (.block 0 (.seq (.reg none [.p (.bin 9 false .eql (.t 7) (.c (.int .i64 0))) .unit,
  .p (.mv 8 (.t 9)) .unit])
 (.cond (.t 8) (.reg none [.p (.mvA 10 0) .unit,
  .p (.bldZ 11 4 [(.lit (.int .i64 0))] [⟨0, 1, (.c (.int .i64 0))⟩, ⟨1, 1, (.c (.int .i64 1))⟩, ⟨2, 1, (.c (.int .i64 3))⟩, ⟨3, 1, (.c (.int .i64 5))⟩]) (.int .i64),
  .p (.callM 12 n_spec_l01PickInt [] (.ptrS (.t 10) 0) [((.t 11), 0)]) .unit,
  .p (.fadr 13 (.t 3) 0) .unit,
  .p (.store (.t 13) (.t 12) 1) .unit]) (.seq (.reg none [.p (.bin 15 false .eql (.t 7) (.c (.int .i64 1))) .unit,
  .p (.mv 14 (.t 15)) .unit])
 (.cond (.t 14) (.reg none [.p (.mvA 16 0) .unit,
  .p (.bldZ 17 3 [(.lit (.string (ba [])))] [⟨0, 1, (.c (.string (ba [])))⟩, ⟨1, 1, (.c (.string (ba [97, 110, 110])))⟩, ⟨2, 1, (.c (.string (ba [35, 48, 35, 97])))⟩]) .str,
  .p (.callM 18 n_spec_l01Pick [] (.ptrS (.t 16) 0) [((.t 17), 0)]) .unit,
  .p (.fadr 19 (.t 3) 1) .unit,
  .p (.store (.t 19) (.t 18) 1) .unit]) (.seq (.reg none [.p (.bin 21 false .eql (.t 7) (.c (.int .i64 2))) .unit,
  .p (.mv 20 (.t 21)) .unit])
 (.cond (.t 20) (.reg (some [[], [0], [], [], [2, 3], [4], [1, 5, 4], [0, 1, 2, 3, 4, 5, 6], [7, 6, 6, 0, 1, 2, 3, 4, 5, 6]]) [.p (.fadr 22 (.t 3) 2) .unit,
  .p (.load 23 (.t 22) 1 false) .unit,
  .p (.mvA 24 0) .unit,
  .p (.bldZ 25 3 [(.lit (.string (ba [])))] [⟨0, 1, (.c (.string (ba [])))⟩, ⟨1, 1, (.c (.string (ba [122, 122])))⟩, ⟨2, 1, (.c (.string (ba [97])))⟩]) .str,
  .p (.callM 26 n_spec_l01Pick [] (.ptrS (.t 24) 0) [((.t 25), 0)]) .unit,
  .p (.bldS 27 1 [(.lit (.string (ba [])))] [⟨0, 1, (.t 26)⟩]) .str,
  .p (.appC 28 1 16 23 (.t 27) false) .str,
  .p (.fadr 29 (.t 3) 2) .unit,
  .p (.storeT (.t 29) 28 1) .unit]) (.seq (.reg none [.p (.bin 31 false .eql (.t 7) (.c (.int .i64 3))) .unit,
  .p (.mv 30 (.t 31)) .unit])
 (.cond (.t 30) (.reg none [.p (.mvA 32 0) .unit,
  .p (.callM 33 n_spec_l01Below [] (.ptrS (.t 32) 0) [((.c (.int .i64 2)), 0)]) .unit,
  .p (.bin 34 false .add (.c (.int .i64 20)) (.t 33)) .unit,
  .p (.callB 35 n_spec_l01Long [((.t 34), 0), ((.c (.int .u8 65)), 0)]) .unit,
  .p (.fadr 36 (.t 3) 3) .unit,
  .p (.store (.t 36) (.t 35) 1) .unit]) .skip)))))))))))
 (.seq (.reg none [.p (.loadT 37 (.t 3) 4 true) .unit,
  .p (.storeT (.t 2) 37 4) .unit])
 .ret)))),
 38, 1, [.c 2 4 true]⟩
theorem m_spec_l17AnyWord : mH Tryd.prog 66 [(1, 0, .v), (1, 1, (.ps 0 0)), (1, 3, .t), (2, 0, .v), (2, 1, (.ps 0 0)), (4, 0, .v), (4, 1, .z), (4, 2, (.ps 0 0)), (6, 0, .v), (6, 1, .z), (6, 2, (.ps 0 0)), (8, 2, .v), (8, 3, .z), (8, 4, (.ps 0 0)), (8, 6, .z), (8, 8, .t), (10, 0, .v), (10, 1, (.ps 0 0)), (11, 0, .t), (11, 1, .t)] = some (F_spec_l17AnyWord.code.x, F_spec_l17AnyWord.N, F_spec_l17AnyWord.np, F_spec_l17AnyWord.res) := by kernel_rfl
noncomputable def T_spec_l17AnyWord : List (Int) × Int × Int → Option ((Int × List UInt8 × List (List UInt8) × List UInt8) × List (Int) × Int × Int) := evF [fn_spec_l17Word, fn_spec_l01Below, fn_spec_l01PickInt, fn_spec_l01Pick, fn_spec_l01Long] F_spec_l17AnyWord [.box (.pair (.sl false (.int .u8)) (.pair (.int .i64) (.int .i64)))] [0] [.agg (.pair (.int .i64) (.pair .str (.pair (.sl true .str) .str)))] [.box (.pair (.sl false (.int .u8)) (.pair (.int .i64) (.int .i64)))]
noncomputable def fn_spec_l17AnyWord : TFn := ⟨66, [.box (.pair (.sl false (.int .u8)) (.pair (.int .i64) (.int .i64)))], [0], [.agg (.pair (.int .i64) (.pair .str (.pair (.sl true .str) .str)))], [.box (.pair (.sl false (.int .u8)) (.pair (.int .i64) (.int .i64)))], T_spec_l17AnyWord⟩
theorem ok_spec_l17AnyWord : FnOk Tryd.prog fn_spec_l17AnyWord := evF_ok mixed (allOk_cons ok_spec_l17Word (allOk_cons ok_spec_l01Below (allOk_cons ok_spec_l01PickInt (allOk_cons ok_spec_l01Pick (allOk_cons ok_spec_l01Long allOk_nil))))) m_spec_l17AnyWord (by decide)
def F_spec_DrawWordText : TF := ⟨(.seq (.reg none [.p (.alloc 2 [(.lit (.int .i64 0)), (.lit (.string (ba []))), (.sl true 1 []), (.lit (.string (ba [])))]) .unit])
 (.seq (.reg none [.p (.mv 3 (.t 0)) .unit,
  .p (.callS 4 n_spec_l01New [(.t 3)]) .unit,
  .p (.callM 5 n_spec_l17AnyWord [] (.tmpS 4) []) .unit,
  .p (.storeT (.t 2) 5 4) .unit])
 .ret)),
 6, 1, [.c 2 4 true]⟩
theorem m_spec_DrawWordText : mH Tryd.prog 24 [(1, 1, .z), (1, 2, (.ms 0)), (1, 3, .t)] = some (F_spec_DrawWordText.code.x, F_spec_DrawWordText.N, F_spec_DrawWordText.np, F_spec_DrawWordText.res) := by kernel_rfl
noncomputable def T_spec_DrawWordText : List (Int) → Option (Int × List UInt8 × List (List UInt8) × List UInt8) := evF [fn_spec_l01New, fn_spec_l17AnyWord] F_spec_DrawWordText [.cell (.sl false (.int .u8))] [] [.agg (.pair (.int .i64) (.pair .str (.pair (.sl true .str) .str)))] []
noncomputable def fn_spec_DrawWordText : TFn := ⟨24, [.cell (.sl false (.int .u8))], [], [.agg (.pair (.int .i64) (.pair .str (.pair (.sl true .str) .str)))], [], T_spec_DrawWordText⟩
theorem ok_spec_DrawWordText : FnOk Tryd.prog fn_spec_DrawWordText := evF_ok mixed (allOk_cons ok_spec_l01New (allOk_cons ok_spec_l17AnyWord allOk_nil)) m_spec_DrawWordText (by decide)
def F_impl_Decimal : TF := ⟨(.seq (.reg none [.p (.mv 2 (.c (.string (ba [])))) .unit])
 (.seq (.reg none [.p (.mv 3 (.t 0)) .unit,
  .p (.callB 4 n_strconv_Itoa [((.t 3), 0)]) .unit,
  .p (.mv 2 (.t 4)) .unit])
 .ret)),
 5, 1, [.t 2]⟩
theorem m_impl_Decimal : mH Tryd.prog 141 [] = some (F_impl_Decimal.code.x, F_impl_Decimal.N, F_impl_Decimal.np, F_impl_Decimal.res) := by kernel_rfl
noncomputable def T_impl_Decimal : Int → Option (List UInt8) := evF [fn_strconv_Itoa] F_impl_Decimal [.cell (.int .i64)] [] [.cell .str] []
noncomputable def fn_impl_Decimal : TFn := ⟨141, [.cell (.int .i64)], [], [.cell .str], [], T_impl_Decimal⟩
theorem ok_impl_Decimal : FnOk Tryd.prog fn_impl_Decimal := evF_ok mixed (allOk_cons ok_strconv_Itoa allOk_nil) m_impl_Decimal (by decide)
def B_impl_ReadDecimal_1 : TC := (.seq (.seq (.reg none [.p (.mv 14 (.t 5)) .unit,
  .p (.mv 15 (.t 0)) .unit,
  .p (.lenS 16 (.t 15)) .unit,
  .p (.bin 17 false .lss (.t 14) (.t 16)) .unit])
 (.cond (.t 17) .skip (.exit 0)))
 (.seq (.block 1 (.seq (.seq (.join ⟨[(0, true), (4, false), (5, false), (29, false)], [.cell .str, .cell (.int .i64), .cell (.int .i64), .cell .bool]⟩ (.reg none [.p (.mv 20 (.t 0)) .unit,
  .p (.mv 21 (.t 5)) .unit,
  .p (.idx 22 (.t 20) (.t 21)) .unit,
  .p (.bin 23 false .lss (.t 22) (.c (.int .u8 48))) .unit,
  .p (.mv 24 (.t 23)) .unit,
  .g 24 false (some 25) (.mv 25 (.t 0)) .unit,
  .g 24 false (some 26) (.mv 26 (.t 5)) .unit,
  .g 24 false (some 27) (.idx 27 (.t 25) (.t 26)) .unit,
  .g 24 false (some 28) (.bin 28 false .gtr (.t 27) (.c (.int .u8 57))) .unit,
  .p (.pick 29 (.t 24) (.c (.bool true)) (.t 28)) .unit]))
 (.cond (.t 29) (.seq (.reg none [.p (.mv 2 (.c (.int .i64 0))) .unit,
  .p (.mv 3 (.c (.bool false))) .unit])
 .ret) .skip))
 (.reg none [.p (.mv 30 (.t 4)) .unit,
  .p (.bin 31 false .mul (.t 30) (.c (.int .i64 10))) .unit,
  .p (.mv 32 (.t 0)) .unit,
  .p (.mv 33 (.t 5)) .unit,
  .p (.idx 34 (.t 32) (.t 33)) .unit,
  .p (.bin 35 false .sub (.t 34) (.c (.int .u8 48))) .unit,
  .p (.cvi 36 .i64 .u8 (.t 35)) .unit,
  .p (.bin 37 false .add (.t 31) (.t 36)) .unit,
  .p (.mv 4 (.t 37)) .unit])))
 (.reg none [.p (.mv 18 (.t 5)) .unit,
  .p (.bin 19 false .add (.t 18) (.c (.int .i64 1))) .unit,
  .p (.mv 5 (.t 19)) .unit])))
noncomputable def L_impl_ReadDecimal_1 : Nat → (List UInt8) × (Int) × Int → Option (((List UInt8) × Int) ⊕ ((Int) × Bool)) := evL [fn_impl_Decimal] (finT [.t 2, .t 3] [] [.cell (.int .i64), .cell .bool]) 0 ⟨[(0, true), (4, false), (5, false)], [.cell .str, .cell (.int .i64), .cell (.int .i64)]⟩ ⟨[(0, true), (4, false)], [.cell .str, .cell (.int .i64)]⟩ B_impl_ReadDecimal_1
def F_impl_ReadDecimal : TF := ⟨(.seq (.reg none [.p (.mv 2 (.c (.int .i64 0))) .unit,
  .p (.mv 3 (.c (.bool false))) .unit])
 (.seq (.seq (.join ⟨[(0, true), (13, false)], [.cell .str, .cell .bool]⟩ (.reg none [.p (.mv 6 (.t 0)) .unit,
  .p (.lenS 7 (.t 6)) .unit,
  .p (.bin 8 false .eql (.t 7) (.c (.int .i64 0))) .unit,
  .p (.mv 9 (.t 8)) .unit,
  .g 9 false (some 10) (.mv 10 (.t 0)) .unit,
  .g 9 false (some 11) (.lenS 11 (.t 10)) .unit,
  .g 9 false (some 12) (.bin 12 false .gtr (.t 11) (.c (.int .i64 10))) .unit,
  .p (.pick 13 (.t 9) (.c (.bool true)) (.t 12)) .unit]))
 (.cond (.t 13) (.seq (.reg none [.p (.mv 2 (.c (.int .i64 0))) .unit,
  .p (.mv 3 (.c (.bool false))) .unit])
 .ret) .skip))
 (.seq (.reg none [.p (.mv 4 (.c (.int .i64 0))) .unit])
 (.seq (.seq (.reg none [.p (.mv 5 (.c (.int .i64 0))) .unit])
 (.jl 0 ⟨[(0, true), (4, false), (5, false)], [.cell .str, .cell (.int .i64), .cell (.int .i64)]⟩ ⟨[(0, true), (4, false)], [.cell .str, .cell (.int .i64)]⟩ B_impl_ReadDecimal_1))
 (.seq (.seq (.join ⟨[(4, false), (45, false)], [.cell (.int .i64), .cell .bool]⟩ (.reg none [.p (.mv 38 (.t 4)) .unit,
  .p (.bin 39 false .gtr (.t 38) (.c (.int .i64 1000000000))) .unit,
  .p (.mv 40 (.t 39)) .unit,
  .g 40 false (some 41) (.mv 41 (.t 4)) .unit,
  .g 40 false (some 42) (.callB 42 n_impl_Decimal [((.t 41), 0)]) .unit,
  .g 40 false (some 43) (.mv 43 (.t 0)) .unit,
  .g 40 false (some 44) (.bin 44 false .neq (.t 42) (.t 43)) .unit,
  .p (.pick 45 (.t 40) (.c (.bool true)) (.t 44)) .unit]))
 (.cond (.t 45) (.seq (.reg none [.p (.mv 2 (.c (.int .i64 0))) .unit,
  .p (.mv 3 (.c (.bool false))) .unit])
 .ret) .skip))
 (.seq (.reg none [.p (.mv 46 (.t 4)) .unit,
  .p (.mv 2 (.t 46)) .unit,
  .p (.mv 3 (.c (.bool true))) .unit])
 .ret)))))),
 47, 1, [.t 2, .t 3]⟩
theorem m_impl_ReadDecimal : mH Tryd.prog 112 [] = some (F_impl_ReadDecimal.code.x, F_impl_ReadDecimal.N, F_impl_ReadDecimal.np, F_impl_ReadDecimal.res) := by kernel_rfl
noncomputable def T_impl_ReadDecimal : List UInt8 → Option ((Int) × Bool) := evF [fn_impl_Decimal] F_impl_ReadDecimal [.cell .str] [] [.cell (.int .i64), .cell .bool] []
noncomputable def fn_impl_ReadDecimal : TFn := ⟨112, [.cell .str], [], [.cell (.int .i64), .cell .bool], [], T_impl_ReadDecimal⟩
theorem ok_impl_ReadDecimal : FnOk Tryd.prog fn_impl_ReadDecimal := evF_ok mixed (allOk_cons ok_impl_Decimal allOk_nil) m_impl_ReadDecimal (by decide)
def F_impl_inRange : TF := ⟨(.seq (.reg none [.p (.mv 6 (.c (.bool false))) .unit])
 (.seq (.reg none [.p (.mv 7 (.t 0)) .unit,
  .p (.mv 8 (.t 1)) .unit,
  .p (.bin 9 false .geq (.t 7) (.t 8)) .unit,
  .p (.mv 10 (.t 9)) .unit,
  .g 10 true (some 11) (.mv 11 (.t 0)) .unit,
  .g 10 true (some 12) (.mv 12 (.t 2)) .unit,
  .g 10 true (some 13) (.bin 13 false .leq (.t 11) (.t 12)) .unit,
  .p (.pick 14 (.t 10) (.t 13) (.c (.bool false))) .unit,
  .p (.mv 6 (.t 14)) .unit])
 .ret)),
 15, 3, [.t 6]⟩
theorem m_impl_inRange : mH Tryd.prog 76 [] = some (F_impl_inRange.code.x, F_impl_inRange.N, F_impl_inRange.np, F_impl_inRange.res) := by kernel_rfl
noncomputable def T_impl_inRange : (Int) × (Int) × Int → Option (Bool) := evF [] F_impl_inRange [.cell (.int .i64), .cell (.int .i64), .cell (.int .i64)] [] [.cell .bool] []
noncomputable def fn_impl_inRange : TFn := ⟨76, [.cell (.int .i64), .cell (.int .i64), .cell (.int .i64)], [], [.cell .bool], [], T_impl_inRange⟩
theorem ok_impl_inRange : FnOk Tryd.prog fn_impl_inRange := evF_ok mixed allOk_nil m_impl_inRange (by decide)
def B_impl_NameOk_1 : TC := (.seq (.seq (.reg none [.p (.mv 5 (.t 3)) .unit,
  .p (.mv 6 (.t 0)) .unit,
  .p (.lenS 7 (.t 6)) .unit,
  .p (.bin 8 false .lss (.t 5) (.t 7)) .unit])
 (.cond (.t 8) .skip (.exit 0)))
 (.seq (.block 1 (.seq (.join ⟨[(0, true), (3, false), (4, false)], [.cell .str, .cell (.int .i64), .cell .bool]⟩ (.reg none [.p (.mv 11 (.t 0)) .unit,
  .p (.mv 12 (.t 3)) .unit,
  .p (.idx 13 (.t 11) (.t 12)) .unit,
  .p (.bin 14 false .geq (.t 13) (.c (.int .u8 97))) .unit,
  .p (.mv 15 (.t 14)) .unit,
  .g 15 true (some 16) (.mv 16 (.t 0)) .unit,
  .g 15 true (some 17) (.mv 17 (.t 3)) .unit,
  .g 15 true (some 18) (.idx 18 (.t 16) (.t 17)) .unit,
  .g 15 true (some 19) (.bin 19 false .leq (.t 18) (.c (.int .u8 122))) .unit,
  .p (.pick 20 (.t 15) (.t 19) (.c (.bool false))) .unit,
  .p (.mv 4 (.t 20)) .unit]))
 (.seq (.join ⟨[(0, true), (3, false), (38, false)], [.cell .str, .cell (.int .i64), .cell .bool]⟩ (.reg none [.p (.mv 21 (.t 4)) .unit,
  .p (.un 22 .not (.t 21)) .unit,
  .p (.mv 23 (.t 22)) .unit,
  .g 23 true (some 24) (.mv 24 (.t 3)) .unit,
  .g 23 true (some 25) (.bin 25 false .eql (.t 24) (.c (.int .i64 0))) .unit,
  .g 23 true (some 26) (.mv 26 (.t 25)) .unit,
  .g 26 false (some 27) (.mv 27 (.t 0)) .unit,
  .g 26 false (some 28) (.mv 28 (.t 3)) .unit,
  .g 26 false (some 29) (.idx 29 (.t 27) (.t 28)) .unit,
  .g 26 false (some 30) (.bin 30 false .lss (.t 29) (.c (.int .u8 48))) .unit,
  .g 23 true (some 31) (.pick 31 (.t 26) (.c (.bool true)) (.t 30)) .unit,
  .g 23 true (some 32) (.mv 32 (.t 31)) .unit,
  .g 32 false (some 33) (.mv 33 (.t 0)) .unit,
  .g 32 false (some 34) (.mv 34 (.t 3)) .unit,
  .g 32 false (some 35) (.idx 35 (.t 33) (.t 34)) .unit,
  .g 32 false (some 36) (.bin 36 false .gtr (.t 35) (.c (.int .u8 57))) .unit,
  .g 23 true (some 37) (.pick 37 (.t 32) (.c (.bool true)) (.t 36)) .unit,
  .p (.pick 38 (.t 23) (.t 37) (.c (.bool false))) .unit]))
 (.cond (.t 38) (.seq (.reg none [.p (.mv 2 (.c (.bool false))) .unit])
 .ret) .skip))))
 (.reg none [.p (.mv 9 (.t 3)) .unit,
  .p (.bin 10 false .add (.t 9) (.c (.int .i64 1))) .unit,
  .p (.mv 3 (.t 10)) .unit])))
noncomputable def L_impl_NameOk_1 : Nat → (List UInt8) × Int → Option ((List UInt8) ⊕ (Bool)) := evL [fn_impl_inRange] (finT [.t 2] [] [.cell .bool]) 0 ⟨[(0, true), (3, false)], [.cell .str, .cell (.int .i64)]⟩ ⟨[(0, true)], [.cell .str]⟩ B_impl_NameOk_1
def F_impl_NameOk : TF := ⟨(.seq (.reg none [.p (.mv 2 (.c (.bool false))) .unit])
 (.seq (.seq (.reg none [.p (.mv 3 (.c (.int .i64 0))) .unit])
 (.jl 0 ⟨[(0, true), (3, false)], [.cell .str, .cell (.int .i64)]⟩ ⟨[(0, true)], [.cell .str]⟩ B_impl_NameOk_1))
 (.seq (.reg none [.p (.mv 39 (.t 0)) .unit,
  .p (.lenS 40 (.t 39)) .unit,
  .p (.callB 41 n_impl_inRange [((.t 40), 0), ((.c (.int .i64 1)), 0), ((.c (.int .i64 12)), 0)]) .unit,
  .p (.mv 2 (.t 41)) .unit])
 .ret))),
 42, 1, [.t 2]⟩
theorem m_impl_NameOk : mH Tryd.prog 124 [] = some (F_impl_NameOk.code.x, F_impl_NameOk.N, F_impl_NameOk.np, F_impl_NameOk.res) := by kernel_rfl
noncomputable def T_impl_NameOk : List UInt8 → Option (Bool) := evF [fn_impl_inRange] F_impl_NameOk [.cell .str] [] [.cell .bool] []
noncomputable def fn_impl_NameOk : TFn := ⟨124, [.cell .str], [], [.cell .bool], [], T_impl_NameOk⟩
theorem ok_impl_NameOk : FnOk Tryd.prog fn_impl_NameOk := evF_ok mixed (allOk_cons ok_impl_inRange allOk_nil) m_impl_NameOk (by decide)
def F_impl_PrivateName : TF := ⟨(.seq (.reg none [.p (.mv 4 (.c (.string (ba [])))) .unit])
 (.seq (.seq (.join ⟨[(0, true), (1, true), (12, false)], [.cell (.int .i64), .cell .str, .cell .bool]⟩ (.reg none [.p (.mv 5 (.t 0)) .unit,
  .p (.callB 6 n_impl_inRange [((.t 5), 0), ((.c (.int .i64 1)), 0), ((.c (.int .i64 9)), 0)]) .unit,
  .p (.un 7 .not (.t 6)) .unit,
  .p (.mv 8 (.t 7)) .unit,
  .g 8 false (some 9) (.mv 9 (.t 1)) .unit,
  .g 8 false (some 10) (.callB 10 n_impl_NameOk [((.t 9), 0)]) .unit,
  .g 8 false (some 11) (.un 11 .not (.t 10)) .unit,
  .p (.pick 12 (.t 8) (.c (.bool true)) (.t 11)) .unit]))
 (.cond (.t 12) (.seq (.reg none [.p (.mv 4 (.c (.string (ba [])))) .unit])
 .ret) .skip))
 (.seq (.reg none [.p (.mv 13 (.t 0)) .unit,
  .p (.callB 14 n_impl_Decimal [((.t 13), 0)]) .unit,
  .p (.bin 15 false .add (.c (.string (ba [35]))) (.t 14)) .unit,
  .p (.bin 16 false .add (.t 15) (.c (.string (ba [35])))) .unit,
  .p (.mv 17 (.t 1)) .unit,
  .p (.bin 18 false .add (.t 16) (.t 17)) .unit,
  .p (.mv 4 (.t 18)) .unit])
 .ret))),
 19, 2, [.t 4]⟩
theorem m_impl_PrivateName : mH Tryd.prog 113 [] = some (F_impl_PrivateName.code.x, F_impl_PrivateName.N, F_impl_PrivateName.np, F_impl_PrivateName.res) := by kernel_rfl
noncomputable def T_impl_PrivateName : (Int) × List UInt8 → Option (List UInt8) := evF [fn_impl_inRange, fn_impl_NameOk, fn_impl_Decimal] F_impl_PrivateName [.cell (.int .i64), .cell .str] [] [.cell .str] []
noncomputable def fn_impl_PrivateName : TFn := ⟨113, [.cell (.int .i64), .cell .str], [], [.cell .str], [], T_impl_PrivateName⟩
theorem ok_impl_PrivateName : FnOk Tryd.prog fn_impl_PrivateName := evF_ok mixed (allOk_cons ok_impl_inRange (allOk_cons ok_impl_NameOk (allOk_cons ok_impl_Decimal allOk_nil))) m_impl_PrivateName (by decide)
def F_impl_SplitPrivate : TF := ⟨(.seq (.reg none [.p (.mv 2 (.c (.int .i64 0))) .unit,
  .p (.mv 3 (.c (.string (ba [])))) .unit,
  .p (.mv 4 (.c (.bool false))) .unit])
 (.seq (.reg none [.p (.mv 8 (.t 0)) .unit,
  .p (.callB 9 n_strings_Split [((.t 8), 0), ((.c (.string (ba [35]))), 0)]) .unit,
  .p (.mvT 5 9) .unit])
 (.seq (.seq (.reg none [.p (.mvA 10 5) .unit,
  .p (.lenB 11 (.t 10)) .unit,
  .p (.bin 12 false .neq (.t 11) (.c (.int .i64 3))) .unit])
 (.cond (.t 12) (.seq (.reg none [.p (.mv 2 (.c (.int .i64 0))) .unit,
  .p (.mv 3 (.c (.string (ba [])))) .unit,
  .p (.mv 4 (.c (.bool false))) .unit])
 .ret) .skip))
 (.seq (.reg none [.p (.mvA 14 5) .unit,
  .p (.iadr 15 1 (.t 14) (.c (.int .i64 1))) .unit,
  .p (.load 16 (.t 15) 1 false) .unit,
  .p (.callB 17 n_impl_ReadDecimal [((.t 16), 0)]) .unit,
  .p (.mv 13 (.t 17)) .unit,
  .p (.ext 18 (.t 13) 0) .unit,
  .p (.ext 19 (.t 13) 1) .unit,
  .p (.mv 6 (.t 18)) .unit,
  .p (.mv 7 (.t 19)) .unit])
 (.seq (.seq (.join ⟨[(5, false), (6, false), (30, false)], [.cell (.sl true .str), .cell (.int .i64), .cell .bool]⟩ (.reg none [.p (.mv 20 (.t 7)) .unit,
  .p (.un 21 .not (.t 20)) .unit,
  .p (.mv 22 (.t 21)) .unit,
  .g 22 false (some 23) (.mv 23 (.t 6)) .unit,
  .g 22 false (some 24) (.mvA 24 5) .unit,
  .g 22 false (some 25) (.iadr 25 1 (.t 24) (.c (.int .i64 2))) .unit,
  .g 22 false (some 26) (.load 26 (.t 25) 1 false) .unit,
  .g 22 false (some 27) (.callB 27 n_impl_PrivateName [((.t 23), 0), ((.t 26), 0)]) .unit,
  .g 22 false (some 28) (.mv 28 (.t 0)) .unit,
  .g 22 false (some 29) (.bin 29 false .neq (.t 27) (.t 28)) .unit,
  .p (.pick 30 (.t 22) (.c (.bool true)) (.t 29)) .unit]))
 (.cond (.t 30) (.seq (.reg none [.p (.mv 2 (.c (.int .i64 0))) .unit,
  .p (.mv 3 (.c (.string (ba [])))) .unit,
  .p (.mv 4 (.c (.bool false))) .unit])
 .ret) .skip))
 (.seq (.reg (some [[], [], [1], [2], [0, 0], [3, 4, 0, 1, 2, 3, 4], [5, 0, 1, 2, 3, 4, 5]]) [.p (.mv 31 (.t 6)) .unit,
  .p (.mvT 32 5) .unit,
  .p (.iadr 33 1 (.t 32) (.c (.int .i64 2))) .unit,
  .p (.load 34 (.t 33) 1 false) .unit,
  .p (.mv 2 (.t 31)) .unit,
  .p (.mv 3 (.t 34)) .unit,
  .p (.mv 4 (.c (.bool true))) .unit])
 .ret)))))),
 35, 1, [.t 2, .t 3, .t 4]⟩
theorem m_impl_SplitPrivate : mH Tryd.prog 61 [(1, 2, .t), (2, 0, .v), (4, 0, .v), (5, 4, .v), (7, 1, .t)] = some (F_impl_SplitPrivate.code.x, F_impl_SplitPrivate.N, F_impl_SplitPrivate.np, F_impl_SplitPrivate.res) := by kernel_rfl
noncomputable def T_impl_SplitPrivate : List UInt8 → Option ((Int) × (List UInt8) × Bool) := evF [fn_strings_Split, fn_impl_ReadDecimal, fn_impl_PrivateName] F_impl_SplitPrivate [.cell .str] [] [.cell (.int .i64), .cell .str, .cell .bool] []
noncomputable def fn_impl_SplitPrivate : TFn := ⟨61, [.cell .str], [], [.cell (.int .i64), .cell .str, .cell .bool], [], T_impl_SplitPrivate⟩
theorem ok_impl_SplitPrivate : FnOk Tryd.prog fn_impl_SplitPrivate := evF_ok mixed (allOk_cons ok_strings_Split (allOk_cons ok_impl_ReadDecimal (allOk_cons ok_impl_PrivateName allOk_nil))) m_impl_SplitPrivate (by decide)
def F_impl_isPrivate : TF := ⟨(.seq (.reg none [.p (.mv 2 (.c (.bool false))) .unit])
 (.seq (.reg none [.p (.mv 7 (.t 0)) .unit,
  .p (.callB 8 n_impl_SplitPrivate [((.t 7), 0)]) .unit,
  .p (.mv 6 (.t 8)) .unit,
  .p (.ext 9 (.t 6) 0) .unit,
  .p (.ext 10 (.t 6) 1) .unit,
  .p (.ext 11 (.t 6) 2) .unit,
  .p (.mv 3 (.t 9)) .unit,
  .p (.mv 4 (.t 10)) .unit,
  .p (.mv 5 (.t 11)) .unit])
 (.seq (.reg none [.p (.mv 12 (.t 5)) .unit,
  .p (.mv 2 (.t 12)) .unit])
 .ret))),
 13, 1, [.t 2]⟩
theorem m_impl_isPrivate : mH Tryd.prog 74 [] = some (F_impl_isPrivate.code.x, F_impl_isPrivate.N, F_impl_isPrivate.np, F_impl_isPrivate.res) := by kernel_rfl
noncomputable def T_impl_isPrivate : List UInt8 → Option (Bool) := evF [fn_impl_SplitPrivate] F_impl_isPrivate [.cell .str] [] [.cell .bool] []
noncomputable def fn_impl_isPrivate : TFn := ⟨74, [.cell .str], [], [.cell .bool], [], T_impl_isPrivate⟩
theorem ok_impl_isPrivate : FnOk Tryd.prog fn_impl_isPrivate := evF_ok mixed (allOk_cons ok_impl_SplitPrivate allOk_nil) m_impl_isPrivate (by decide)
def B_impl_areNames_1 : TC := (.seq (.reg none [.p (.bin 8 false .lss (.t 7) (.t 6)) .unit])
 (.seq (.cond (.t 8) .skip (.exit 0))
 (.seq (.block 1 (.seq (.reg none [.p (.mv 9 (.t 7)) .unit,
  .p (.iadr 10 1 (.t 5) (.t 7)) .unit,
  .p (.load 11 (.t 10) 1 false) .unit,
  .p (.mv 3 (.t 9)) .unit,
  .p (.mv 4 (.t 11)) .unit])
 (.seq (.join ⟨[(0, true), (5, false), (6, false), (7, false), (27, false)], [.cell (.sl false .str), .cell (.sl false .str), .cell (.int .i64), .cell (.int .i64), .cell .bool]⟩ (.reg none [.p (.mv 12 (.t 4)) .unit,
  .p (.callB 13 n_impl_NameOk [((.t 12), 0)]) .unit,
  .p (.un 14 .not (.t 13)) .unit,
  .p (.mv 15 (.t 14)) .unit,
  .g 15 false (some 16) (.mv 16 (.t 3)) .unit,
  .g 15 false (some 17) (.bin 17 false .gtr (.t 16) (.c (.int .i64 0))) .unit,
  .g 15 false (some 18) (.mv 18 (.t 17)) .unit,
  .g 18 true (some 19) (.mv 19 (.t 4)) .unit,
  .g 18 true (some 20) (.mv 20 (.t 0)) .unit,
  .g 18 true (some 21) (.mv 21 (.t 3)) .unit,
  .g 18 true (some 22) (.bin 22 false .sub (.t 21) (.c (.int .i64 1))) .unit,
  .g 18 true (some 23) (.iadr 23 1 (.t 20) (.t 22)) .unit,
  .g 18 true (some 24) (.load 24 (.t 23) 1 false) .unit,
  .g 18 true (some 25) (.bin 25 false .leq (.t 19) (.t 24)) .unit,
  .g 15 false (some 26) (.pick 26 (.t 18) (.t 25) (.c (.bool false))) .unit,
  .p (.pick 27 (.t 15) (.c (.bool true)) (.t 26)) .unit]))
 (.cond (.t 27) (.seq (.reg none [.p (.mv 2 (.c (.bool false))) .unit])
 .ret) .skip))))
 (.reg none [.p (.bin 28 false .add (.t 7) (.c (.int .i64 1))) .unit,
  .p (.mv 7 (.t 28)) .unit]))))
noncomputable def L_impl_areNames_1 : Nat → (List (List UInt8)) × (List (List UInt8)) × (Int) × Int → Option ((Unit) ⊕ (Bool)) := evL [fn_impl_NameOk] (finT [.t 2] [] [.cell .bool]) 0 ⟨[(0, true), (5, false), (6, false), (7, false)], [.cell (.sl false .str), .cell (.sl false .str), .cell (.int .i64), .cell (.int .i64)]⟩ ⟨[], []⟩ B_impl_areNames_1
def F_impl_areNames : TF := ⟨(.seq (.reg none [.p (.mv 2 (.c (.bool false))) .unit])
 (.seq (.seq (.reg none [.p (.mv 5 (.t 0)) .unit,
  .p (.lenB 6 (.t 5)) .unit,
  .p (.mv 7 (.c (.int .i64 0))) .unit])
 (.jl 0 ⟨[(0, true), (5, false), (6, false), (7, false)], [.cell (.sl false .str), .cell (.sl false .str), .cell (.int .i64), .cell (.int .i64)]⟩ ⟨[], []⟩ B_impl_areNames_1))
 (.seq (.reg none [.p (.mv 2 (.c (.bool true))) .unit])
 .ret))),
 29, 1, [.t 2]⟩
theorem m_impl_areNames : mH Tryd.prog 75 [] = some (F_impl_areNames.code.x, F_impl_areNames.N, F_impl_areNames.np, F_impl_areNames.res) := by kernel_rfl
noncomputable def T_impl_areNames : List (List UInt8) → Option (Bool) := evF [fn_impl_NameOk] F_impl_areNames [.cell (.sl false .str)] [] [.cell .bool] []
noncomputable def fn_impl_areNames : TFn := ⟨75, [.cell (.sl false .str)], [], [.cell .bool], [], T_impl_areNames⟩
theorem ok_impl_areNames : FnOk Tryd.prog fn_impl_areNames := evF_ok mixed (allOk_cons ok_impl_NameOk allOk_nil) m_impl_areNames (by decide)
def F_impl_WordOk : TF := ⟨(.seq (.reg none [.p (.box 1 (.t 0)) .unit,
  .p (.mv 2 (.c (.bool false))) .unit])
 (.seq (.seq (.join ⟨[(1, false), (29, false)], [.box (.pair (.int .i64) (.pair .str (.pair (.sl false .str) .str))), .cell .bool]⟩ (.reg none [.p (.fadr 4 (.t 1) 1) .unit,
  .p (.load 5 (.t 4) 1 false) .unit,
  .p (.callB 6 n_impl_isPrivate [((.t 5), 0)]) .unit,
  .p (.un 7 .not (.t 6)) .unit,
  .p (.mv 8 (.t 7)) .unit,
  .g 8 false (some 9) (.fadr 9 (.t 1) 2) .unit,
  .g 8 false (some 10) (.load 10 (.t 9) 1 false) .unit,
  .g 8 false (some 11) (.callB 11 n_impl_areNames [((.t 10), 0)]) .unit,
  .g 8 false (some 12) (.un 12 .not (.t 11)) .unit,
  .p (.pick 13 (.t 8) (.c (.bool true)) (.t 12)) .unit,
  .p (.mv 14 (.t 13)) .unit,
  .g 14 false (some 15) (.fadr 15 (.t 1) 3) .unit,
  .g 14 false (some 16) (.load 16 (.t 15) 1 false) .unit,
  .g 14 false (some 17) (.lenS 17 (.t 16)) .unit,
  .g 14 false (some 18) (.bin 18 false .gtr (.t 17) (.c (.int .i64 20))) .unit,
  .p (.pick 19 (.t 14) (.c (.bool true)) (.t 18)) .unit,
  .p (.mv 20 (.t 19)) .unit,
  .g 20 false (some 21) (.fadr 21 (.t 1) 0) .unit,
  .g 20 false (some 22) (.load 22 (.t 21) 1 false) .unit,
  .g 20 false (some 23) (.bin 23 false .neq (.t 22) (.c (.int .i64 4))) .unit,
  .g 20 false (some 24) (.mv 24 (.t 23)) .unit,
  .g 24 true (some 25) (.fadr 25 (.t 1) 3) .unit,
  .g 24 true (some 26) (.load 26 (.t 25) 1 false) .unit,
  .g 24 true (some 27) (.bin 27 false .neq (.t 26) (.c (.string (ba [])))) .unit,
  .g 20 false (some 28) (.pick 28 (.t 24) (.t 27) (.c (.bool false))) .unit,
  .p (.pick 29 (.t 20) (.c (.bool true)) (.t 28)) .unit]))
 (.cond (.t 29) (.seq (.reg none [.p (.mv 2 (.c (.bool false))) .unit])
 .ret) .skip))
 (.seq (.reg none [.p (.fadr 30 (.t 1) 2) .unit,
  .p (.load 31 (.t 30) 1 false) .unit,
  .p (.lenB 32 (.t 31)) .unit,
  .p (.mv 3 (.t 32)) .unit])
 (.seq (.seq (.reg none [.p (.fadr 33 (.t 1) 0) .unit,
  .p (.load 34 (.t 33) 1 false) .unit])
 (.block 0 (.seq (.join ⟨[(3, false), (34, false), (35, false)], [.cell (.int .i64), .cell (.int .i64), .cell .bool]⟩ (.seq (.reg none [.p (.bin 36 false .eql (.t 34) (.c (.int .i64 1))) .unit,
  .p (.mv 35 (.t 36)) .unit])
 (.cond (.t 35) .skip (.reg none [.p (.bin 37 false .eql (.t 34) (.c (.int .i64 2))) .unit,
  .p (.mv 35 (.t 37)) .unit]))))
 (.cond (.t 35) (.seq (.reg none [.p (.mv 38 (.t 3)) .unit,
  .p (.bin 39 false .eql (.t 38) (.c (.int .i64 1))) .unit,
  .p (.mv 2 (.t 39)) .unit])
 .ret) (.seq (.reg none [.p (.bin 41 false .eql (.t 34) (.c (.int .i64 3))) .unit,
  .p (.mv 40 (.t 41)) .unit])
 (.cond (.t 40) (.seq (.reg none [.p (.mv 42 (.t 3)) .unit,
  .p (.bin 43 false .eql (.t 42) (.c (.int .i64 0))) .unit,
  .p (.mv 2 (.t 43)) .unit])
 .ret) (.seq (.reg none [.p (.bin 45 false .eql (.t 34) (.c (.int .i64 4))) .unit,
  .p (.mv 44 (.t 45)) .unit])
 (.cond (.t 44) (.seq (.reg none [.p (.mv 46 (.t 3)) .unit,
  .p (.callB 47 n_impl_inRange [((.t 46), 0), ((.c (.int .i64 1)), 0), ((.c (.int .i64 3)), 0)]) .unit,
  .p (.mv 2 (.t 47)) .unit])
 .ret) .skip))))))))
 (.seq (.reg none [.p (.mv 2 (.c (.bool false))) .unit])
 .ret))))),
 48, 1, [.t 2]⟩
theorem m_impl_WordOk : mH Tryd.prog 27 [] = some (F_impl_WordOk.code.x, F_impl_WordOk.N, F_impl_WordOk.np, F_impl_WordOk.res) := by kernel_rfl
noncomputable def T_impl_WordOk : Int × List UInt8 × List (List UInt8) × List UInt8 → Option (Bool) := evF [fn_impl_isPrivate, fn_impl_areNames, fn_impl_inRange] F_impl_WordOk [.agg (.pair (.int .i64) (.pair .str (.pair (.sl false .str) .str)))] [] [.cell .bool] []
noncomputable def fn_impl_WordOk : TFn := ⟨27, [.agg (.pair (.int .i64) (.pair .str (.pair (.sl false .str) .str)))], [], [.cell .bool], [], T_impl_WordOk⟩
theorem ok_impl_WordOk : FnOk Tryd.prog fn_impl_WordOk := evF_ok mixed (allOk_cons ok_impl_isPrivate (allOk_cons ok_impl_areNames (allOk_cons ok_impl_inRange allOk_nil))) m_impl_WordOk (by decide)
def B_impl_octets_1 : TC := (.seq (.reg none [.p (.bin 9 false .lss (.t 8) (.t 7)) .unit])
 (.seq (.cond (.t 9) .skip (.exit 0))
 (.seq (.block 1 (.seq (.reg none [.p (.iadr 10 1 (.t 6) (.t 8)) .unit,
  .p (.load 11 (.t 10) 1 false) .unit,
  .p (.mv 5 (.t 11)) .unit])
 (.reg none [.p (.mvT 12 3) .unit,
  .p (.mv 13 (.t 5)) .unit,
  .p (.cvi 14 .u8 .i64 (.t 13)) .unit,
  .p (.bldS 15 1 [(.lit (.int .u8 0))] [⟨0, 1, (.t 14)⟩]) (.int .u8),
  .p (.app 16 1 1 (.t 12) (.t 15)) (.int .u8),
  .p (.mvT 3 16) .unit])))
 (.reg none [.p (.bin 17 false .add (.t 8) (.c (.int .i64 1))) .unit,
  .p (.mv 8 (.t 17)) .unit]))))
noncomputable def L_impl_octets_1 : Nat → (List (Int)) × (List (Int)) × (Int) × Int → Option ((List (Int)) ⊕ (List UInt8)) := evL [] (finT [.t 2] [] [.cell .str]) 0 ⟨[(3, false), (6, false), (7, false), (8, false)], [.cell (.sl true (.int .u8)), .cell (.sl false (.int .i64)), .cell (.int .i64), .cell (.int .i64)]⟩ ⟨[(3, false)], [.cell (.sl true (.int .u8))]⟩ B_impl_octets_1
def F_impl_octets : TF := ⟨(.seq (.reg none [.p (.mv 2 (.c (.string (ba [])))) .unit])
 (.seq (.reg none [.p (.mvN 3 1) .unit])
 (.seq (.seq (.reg none [.p (.mv 6 (.t 0)) .unit,
  .p (.lenB 7 (.t 6)) .unit,
  .p (.mv 8 (.c (.int .i64 0))) .unit])
 (.jl 0 ⟨[(3, false), (6, false), (7, false), (8, false)], [.cell (.sl true (.int .u8)), .cell (.sl false (.int .i64)), .cell (.int .i64), .cell (.int .i64)]⟩ ⟨[(3, false)], [.cell (.sl true (.int .u8))]⟩ B_impl_octets_1))
 (.seq (.reg none [.p (.mvT 18 3) .unit,
  .p (.b2s 19 (.t 18)) .unit,
  .p (.mv 2 (.t 19)) .unit])
 .ret)))),
 20, 1, [.t 2]⟩
theorem m_impl_octets : mH Tryd.prog 68 [(5, 0, .t), (5, 5, .t), (7, 0, .t)] = some (F_impl_octets.code.x, F_impl_octets.N, F_impl_octets.np, F_impl_octets.res) := by kernel_rfl
noncomputable def T_impl_octets : List (Int) → Option (List UInt8) := evF [] F_impl_octets [.cell (.sl false (.int .i64))] [] [.cell .str] []
noncomputable def fn_impl_octets : TFn := ⟨68, [.cell (.sl false (.int .i64))], [], [.cell .str], [], T_impl_octets⟩
theorem ok_impl_octets : FnOk Tryd.prog fn_impl_octets := evF_ok mixed allOk_nil m_impl_octets (by decide)
def B_impl_varText_1 : TC := (.seq (.seq (.reg none [.p (.mv 4 (.t 0)) .unit,
  .p (.bin 5 false .gtr (.t 4) (.c (.int .i64 127))) .unit])
 (.cond (.t 5) .skip (.exit 0)))
 (.block 1 (.seq (.reg none [.p (.mvT 6 3) .unit,
  .p (.mv 7 (.t 0)) .unit,
  .p (.bin 8 false .rem (.t 7) (.c (.int .i64 128))) .unit,
  .p (.bin 9 false .add (.c (.int .i64 128)) (.t 8)) .unit,
  .p (.cvi 10 .u8 .i64 (.t 9)) .unit,
  .p (.bldS 11 1 [(.lit (.int .u8 0))] [⟨0, 1, (.t 10)⟩]) (.int .u8),
  .p (.app 12 1 1 (.t 6) (.t 11)) (.int .u8),
  .p (.mvT 3 12) .unit])
 (.reg none [.p (.mv 13 (.t 0)) .unit,
  .p (.bin 14 false .quo (.t 13) (.c (.int .i64 128))) .unit,
  .p (.mv 0 (.t 14)) .unit]))))
noncomputable def L_impl_varText_1 : Nat → (Int) × List (Int) → Option (((Int) × List (Int)) ⊕ (List UInt8)) := evL [] (finT [.t 2] [] [.cell .str]) 0 ⟨[(0, false), (3, false)], [.cell (.int .i64), .cell (.sl true (.int .u8))]⟩ ⟨[(0, false), (3, false)], [.cell (.int .i64), .cell (.sl true (.int .u8))]⟩ B_impl_varText_1
def F_impl_varText : TF := ⟨(.seq (.reg none [.p (.mv 2 (.c (.string (ba [])))) .unit])
 (.seq (.reg none [.p (.mvN 3 1) .unit])
 (.seq (.jl 0 ⟨[(0, false), (3, false)], [.cell (.int .i64), .cell (.sl true (.int .u8))]⟩ ⟨[(0, false), (3, false)], [.cell (.int .i64), .cell (.sl true (.int .u8))]⟩ B_impl_varText_1)
 (.seq (.reg none [.p (.mvT 15 3) .unit,
  .p (.mv 16 (.t 0)) .unit,
  .p (.cvi 17 .u8 .i64 (.t 16)) .unit,
  .p (.bldS 18 1 [(.lit (.int .u8 0))] [⟨0, 1, (.t 17)⟩]) (.int .u8),
  .p (.app 19 1 1 (.t 15) (.t 18)) (.int .u8),
  .p (.b2s 20 (.t 19)) .unit,
  .p (.mv 2 (.t 20)) .unit])
 .ret)))),
 21, 1, [.t 2]⟩
theorem m_impl_varText : mH Tryd.prog 121 [(3, 0, .t), (3, 7, .t), (5, 0, .t)] = some (F_impl_varText.code.x, F_impl_varText.N, F_impl_varText.np, F_impl_varText.res) := by kernel_rfl
noncomputable def T_impl_varText : Int → Option (List UInt8) := evF [] F_impl_varText [.cell (.int .i64)] [] [.cell .str] []
noncomputable def fn_impl_varText : TFn := ⟨121, [.cell (.int .i64)], [], [.cell .str], [], T_impl_varText⟩
theorem ok_impl_varText : FnOk Tryd.prog fn_impl_varText := evF_ok mixed allOk_nil m_impl_varText (by decide)
def F_impl_shortText : TF := ⟨(.seq (.reg none [.p (.mv 2 (.c (.string (ba [])))) .unit])
 (.seq (.reg none [.p (.mv 3 (.t 0)) .unit,
  .p (.lenS 4 (.t 3)) .unit,
  .p (.callB 5 n_impl_varText [((.t 4), 0)]) .unit,
  .p (.mv 6 (.t 0)) .unit,
  .p (.bin 7 false .add (.t 5) (.t 6)) .unit,
  .p (.mv 2 (.t 7)) .unit])
 .ret)),
 8, 1, [.t 2]⟩
theorem m_impl_shortText : mH Tryd.prog 69 [] = some (F_impl_shortText.code.x, F_impl_shortText.N, F_impl_shortText.np, F_impl_shortText.res) := by kernel_rfl
noncomputable def T_impl_shortText : List UInt8 → Option (List UInt8) := evF [fn_impl_varText] F_impl_shortText [.cell .str] [] [.cell .str] []
noncomputable def fn_impl_shortText : TFn := ⟨69, [.cell .str], [], [.cell .str], [], T_impl_shortText⟩
theorem ok_impl_shortText : FnOk Tryd.prog fn_impl_shortText := evF_ok mixed (allOk_cons ok_impl_varText allOk_nil) m_impl_shortText (by decide)
def B_impl_namesText_1 : TC := (.seq (.reg none [.p (.bin 13 false .lss (.t 12) (.t 11)) .unit])
 (.seq (.cond (.t 13) .skip (.exit 0))
 (.seq (.block 1 (.seq (.reg none [.p (.iadr 14 1 (.t 10) (.t 12)) .unit,
  .p (.load 15 (.t 14) 1 false) .unit,
  .p (.mv 5 (.t 15)) .unit])
 (.reg none [.p (.mv 16 (.t 5)) .unit,
  .p (.callB 17 n_impl_shortText [((.t 16), 0)]) .unit,
  .p (.callM 18 n___strings_Builder__WriteString [] (.tmp 3) [((.t 17), 0)]) .unit])))
 (.reg none [.p (.bin 19 false .add (.t 12) (.c (.int .i64 1))) .unit,
  .p (.mv 12 (.t 19)) .unit]))))
noncomputable def L_impl_namesText_1 : Nat → (List UInt8) × (List (List UInt8)) × (Int) × Int → Option ((List UInt8) ⊕ (List UInt8)) := evL [fn_impl_varText, fn___strings_Builder__WriteString, fn_impl_shortText, fn___strings_Builder__String] (finT [.t 2] [] [.cell .str]) 0 ⟨[(3, false), (10, false), (11, false), (12, false)], [.bld 146 5, .cell (.sl false .str), .cell (.int .i64), .cell (.int .i64)]⟩ ⟨[(3, false)], [.bld 146 5]⟩ B_impl_namesText_1
def F_impl_namesText : TF := ⟨(.seq (.reg none [.p (.mv 2 (.c (.string (ba [])))) .unit])
 (.seq (.reg none [.p (.allocB 3 146 5) .unit])
 (.seq (.reg none [.p (.mv 6 (.t 0)) .unit,
  .p (.lenB 7 (.t 6)) .unit,
  .p (.callB 8 n_impl_varText [((.t 7), 0)]) .unit,
  .p (.callM 9 n___strings_Builder__WriteString [] (.tmp 3) [((.t 8), 0)]) .unit])
 (.seq (.seq (.reg none [.p (.mv 10 (.t 0)) .unit,
  .p (.lenB 11 (.t 10)) .unit,
  .p (.mv 12 (.c (.int .i64 0))) .unit])
 (.jl 0 ⟨[(3, false), (10, false), (11, false), (12, false)], [.bld 146 5, .cell (.sl false .str), .cell (.int .i64), .cell (.int .i64)]⟩ ⟨[(3, false)], [.bld 146 5]⟩ B_impl_namesText_1))
 (.seq (.reg none [.p (.callM 20 n___strings_Builder__String [] (.tmp 3) []) .unit,
  .p (.mv 2 (.t 20)) .unit])
 .ret))))),
 21, 1, [.t 2]⟩
theorem m_impl_namesText : mH Tryd.prog 70 [(2, 3, (.m 0)), (6, 2, (.m 0)), (8, 0, (.m 0))] = some (F_impl_namesText.code.x, F_impl_namesText.N, F_impl_namesText.np, F_impl_namesText.res) := by kernel_rfl
noncomputable def T_impl_namesText : List (List UInt8) → Option (List UInt8) := evF [fn_impl_varText, fn___strings_Builder__WriteString, fn_impl_shortText, fn___strings_Builder__String] F_impl_namesText [.cell (.sl false .str)] [] [.cell .str] []
noncomputable def fn_impl_namesText : TFn := ⟨70, [.cell (.sl false .str)], [], [.cell .str], [], T_impl_namesText⟩
theorem ok_impl_namesText : FnOk Tryd.prog fn_impl_namesText := evF_ok mixed (allOk_cons ok_impl_varText (allOk_cons ok___strings_Builder__WriteString (allOk_cons ok_impl_shortText (allOk_cons ok___strings_Builder__String allOk_nil)))) m_impl_namesText (by decide)
def F_impl_WordText : TF := ⟨(.seq (.reg none [.p (.box 1 (.t 0)) .unit,
  .p (.mv 2 (.c (.string (ba [])))) .unit,
  .p (.mv 3 (.c (.bool false))) .unit])
 (.seq (.seq (.reg none [.p (.load 4 (.t 1) 4 true) .unit,
  .p (.callB 5 n_impl_WordOk [((.t 4), 0)]) .unit,
  .p (.un 6 .not (.t 5)) .unit])
 (.cond (.t 6) (.seq (.reg none [.p (.mv 2 (.c (.string (ba [])))) .unit,
  .p (.mv 3 (.c (.bool false))) .unit])
 .ret) .skip))
 (.seq (.reg (some [[], [0], [1], [2], [], [4], [5, 3], [3, 6], [], [8], [9, 6], [7, 10], [], [12], [13, 10], [11, 14], [15, 14, 0, 1, 2, 3, 4, 5, 6, 7, 8, 9, 10, 11, 12, 13, 14, 15], [16, 0, 1, 2, 3, 4, 5, 6, 7, 8, 9, 10, 11, 12, 13, 14, 15, 16]]) [.p (.fadr 7 (.t 1) 0) .unit,
  .p (.load 8 (.t 7) 1 false) .unit,
  .p (.bldS 9 1 [(.lit (.int .i64 0))] [⟨0, 1, (.t 8)⟩]) (.int .i64),
  .p (.callB 10 n_impl_octets [((.t 9), 0)]) .unit,
  .p (.fadr 11 (.t 1) 1) .unit,
  .p (.load 12 (.t 11) 1 false) .unit,
  .p (.callB 13 n_impl_shortText [((.t 12), 0)]) .unit,
  .p (.bin 14 false .add (.t 10) (.t 13)) .unit,
  .p (.fadr 15 (.t 1) 2) .unit,
  .p (.load 16 (.t 15) 1 false) .unit,
  .p (.callB 17 n_impl_namesText [((.t 16), 0)]) .unit,
  .p (.bin 18 false .add (.t 14) (.t 17)) .unit,
  .p (.fadr 19 (.t 1) 3) .unit,
  .p (.load 20 (.t 19) 1 false) .unit,
  .p (.callB 21 n_impl_shortText [((.t 20), 0)]) .unit,
  .p (.bin 22 false .add (.t 18) (.t 21)) .unit,
  .p (.mv 2 (.t 22)) .unit,
  .p (.mv 3 (.c (.bool true))) .unit])
 .ret))),
 23, 1, [.t 2, .t 3]⟩
theorem m_impl_WordText : mH Tryd.prog 25 [] = some (F_impl_WordText.code.x, F_impl_WordText.N, F_impl_WordText.np, F_impl_WordText.res) := by kernel_rfl
noncomputable def T_impl_WordText : Int × List UInt8 × List (List UInt8) × List UInt8 → Option ((List UInt8) × Bool) := evF [fn_impl_WordOk, fn_impl_octets, fn_impl_shortText, fn_impl_namesText] F_impl_WordText [.agg (.pair (.int .i64) (.pair .str (.pair (.sl false .str) .str)))] [] [.cell .str, .cell .bool] []
noncomputable def fn_impl_WordText : TFn := ⟨25, [.agg (.pair (.int .i64) (.pair .str (.pair (.sl false .str) .str)))], [], [.cell .str, .cell .bool], [], T_impl_WordText⟩
theorem ok_impl_WordText : FnOk Tryd.prog fn_impl_WordText := evF_ok mixed (allOk_cons ok_impl_WordOk (allOk_cons ok_impl_octets (allOk_cons ok_impl_shortText (allOk_cons ok_impl_namesText allOk_nil)))) m_impl_WordText (by decide)
def F___impl_scanner__take : TF := ⟨(.seq (.reg none [.p (.mv 4 (.c (.string (ba [])))) .unit])
 (.seq (.seq (.join ⟨[(0, true), (1, true), (22, false)], [.box (.pair .str (.pair (.int .i64) .bool)), .cell (.int .i64), .cell .bool]⟩ (.reg (some [[], [0], [1], [2], [3], [4], [4], [6, 4], [7, 4], [8, 4], [9, 4], [4], [11, 4], [12, 4], [13, 4], [10, 14, 4], [5, 15, 4], [4, 16]]) [.p (.mvA 5 0) .unit,
  .p (.nilck 6 (.t 5)) .unit,
  .p (.fadr 7 (.t 6) 2) .unit,
  .p (.load 8 (.t 7) 1 false) .unit,
  .p (.mv 9 (.t 8)) .unit,
  .g 9 false (some 10) (.mv 10 (.t 1)) .unit,
  .g 9 false (some 11) (.mvA 11 0) .unit,
  .g 9 false (some 12) (.nilck 12 (.t 11)) .unit,
  .g 9 false (some 13) (.fadr 13 (.t 12) 0) .unit,
  .g 9 false (some 14) (.load 14 (.t 13) 1 false) .unit,
  .g 9 false (some 15) (.lenS 15 (.t 14)) .unit,
  .g 9 false (some 16) (.mvA 16 0) .unit,
  .g 9 false (some 17) (.nilck 17 (.t 16)) .unit,
  .g 9 false (some 18) (.fadr 18 (.t 17) 1) .unit,
  .g 9 false (some 19) (.load 19 (.t 18) 1 false) .unit,
  .g 9 false (some 20) (.bin 20 false .sub (.t 15) (.t 19)) .unit,
  .g 9 false (some 21) (.bin 21 false .gtr (.t 10) (.t 20)) .unit,
  .p (.pick 22 (.t 9) (.c (.bool true)) (.t 21)) .unit]))
 (.cond (.t 22) (.seq (.reg none [.p (.mvA 23 0) .unit,
  .p (.nilck 24 (.t 23)) .unit,
  .p (.fadr 25 (.t 24) 2) .unit,
  .p (.store (.t 25) (.c (.bool true)) 1) .unit])
 (.seq (.reg none [.p (.mv 4 (.c (.string (ba [])))) .unit])
 .ret)) .skip))
 (.seq (.reg none [.p (.mvA 26 0) .unit,
  .p (.nilck 27 (.t 26)) .unit,
  .p (.fadr 28 (.t 27) 1) .unit,
  .p (.load 29 (.t 28) 1 false) .unit,
  .p (.mv 30 (.t 1)) .unit,
  .p (.bin 31 false .add (.t 29) (.t 30)) .unit,
  .p (.nilck 32 (.t 26)) .unit,
  .p (.fadr 33 (.t 32) 1) .unit,
  .p (.store (.t 33) (.t 31) 1) .unit])
 (.seq (.reg (some [[], [0], [1], [2], [], [4], [5], [6], [], [7, 8], [], [10], [11], [12], [3, 9, 13], [14, 0, 1, 2, 3, 4, 5, 6, 7, 8, 9, 10, 11, 12, 13, 14]]) [.p (.mvA 34 0) .unit,
  .p (.nilck 35 (.t 34)) .unit,
  .p (.fadr 36 (.t 35) 0) .unit,
  .p (.load 37 (.t 36) 1 false) .unit,
  .p (.mvA 38 0) .unit,
  .p (.nilck 39 (.t 38)) .unit,
  .p (.fadr 40 (.t 39) 1) .unit,
  .p (.load 41 (.t 40) 1 false) .unit,
  .p (.mv 42 (.t 1)) .unit,
  .p (.bin 43 false .sub (.t 41) (.t 42)) .unit,
  .p (.mvA 44 0) .unit,
  .p (.nilck 45 (.t 44)) .unit,
  .p (.fadr 46 (.t 45) 1) .unit,
  .p (.load 47 (.t 46) 1 false) .unit,
  .p (.slcS 48 (.t 37) (some (.t 43)) (some (.t 47))) .unit,
  .p (.mv 4 (.t 48)) .unit])
 .ret)))),
 49, 2, [.t 4]⟩
theorem m___impl_scanner__take : mH Tryd.prog 101 [(1, 0, .v), (1, 6, .v), (1, 11, .v), (2, 0, .v), (4, 0, .v), (5, 0, .v), (5, 4, .v), (5, 10, .v)] = some (F___impl_scanner__take.code.x, F___impl_scanner__take.N, F___impl_scanner__take.np, F___impl_scanner__take.res) := by kernel_rfl
noncomputable def T___impl_scanner__take : (List UInt8 × Int × Bool) × Int → Option ((List UInt8) × List UInt8 × Int × Bool) := evF [] F___impl_scanner__take [.box (.pair .str (.pair (.int .i64) .bool)), .cell (.int .i64)] [0] [.cell .str] [.box (.pair .str (.pair (.int .i64) .bool))]
noncomputable def fn___impl_scanner__take : TFn := ⟨101, [.box (.pair .str (.pair (.int .i64) .bool)), .cell (.int .i64)], [0], [.cell .str], [.box (.pair .str (.pair (.int .i64) .bool))], T___impl_scanner__take⟩
theorem ok___impl_scanner__take : FnOk Tryd.prog fn___impl_scanner__take := evF_ok mixed allOk_nil m___impl_scanner__take (by decide)
def F___impl_scanner__octet : TF := ⟨(.seq (.reg none [.p (.mv 2 (.c (.int .i64 0))) .unit])
 (.seq (.reg none [.p (.mvA 4 0) .unit,
  .p (.callM 5 n___impl_scanner__take [] (.ptr (.t 4) 0) [((.c (.int .i64 1)), 0)]) .unit,
  .p (.mv 3 (.t 5)) .unit])
 (.seq (.seq (.reg none [.p (.mv 6 (.t 3)) .unit,
  .p (.bin 7 false .eql (.t 6) (.c (.string (ba [])))) .unit])
 (.cond (.t 7) (.seq (.reg none [.p (.mv 2 (.c (.int .i64 0))) .unit])
 .ret) .skip))
 (.seq (.reg none [.p (.mv 8 (.t 3)) .unit,
  .p (.idx 9 (.t 8) (.c (.int .i64 0))) .unit,
  .p (.cvi 10 .i64 .u8 (.t 9)) .unit,
  .p (.mv 2 (.t 10)) .unit])
 .ret)))),
 11, 1, [.t 2]⟩
theorem m___impl_scanner__octet : mH Tryd.prog 44 [(1, 0, .v), (1, 1, (.p 0 0))] = some (F___impl_scanner__octet.code.x, F___impl_scanner__octet.N, F___impl_scanner__octet.np, F___impl_scanner__octet.res) := by kernel_rfl
noncomputable def T___impl_scanner__octet : List UInt8 × Int × Bool → Option ((Int) × List UInt8 × Int × Bool) := evF [fn___impl_scanner__take] F___impl_scanner__octet [.box (.pair .str (.pair (.int .i64) .bool))] [0] [.cell (.int .i64)] [.box (.pair .str (.pair (.int .i64) .bool))]
noncomputable def fn___impl_scanner__octet : TFn := ⟨44, [.box (.pair .str (.pair (.int .i64) .bool))], [0], [.cell (.int .i64)], [.box (.pair .str (.pair (.int .i64) .bool))], T___impl_scanner__octet⟩
theorem ok___impl_scanner__octet : FnOk Tryd.prog fn___impl_scanner__octet := evF_ok mixed (allOk_cons ok___impl_scanner__take allOk_nil) m___impl_scanner__octet (by decide)
def B_impl_ReadVar_1 : TC := (.seq (.seq (.join ⟨[(0, true), (1, true), (7, false), (8, false), (9, false), (28, false)], [.cell .str, .cell (.int .i64), .cell (.int .i64), .cell (.int .i64), .cell (.int .i64), .cell .bool]⟩ (.reg none [.p (.mv 19 (.t 9)) .unit,
  .p (.bin 20 false .lss (.t 19) (.c (.int .i64 5))) .unit,
  .p (.mv 21 (.t 20)) .unit,
  .g 21 true (some 22) (.mv 22 (.t 1)) .unit,
  .g 21 true (some 23) (.mv 23 (.t 9)) .unit,
  .g 21 true (some 24) (.bin 24 false .add (.t 22) (.t 23)) .unit,
  .g 21 true (some 25) (.mv 25 (.t 0)) .unit,
  .g 21 true (some 26) (.lenS 26 (.t 25)) .unit,
  .g 21 true (some 27) (.bin 27 false .lss (.t 24) (.t 26)) .unit,
  .p (.pick 28 (.t 21) (.t 27) (.c (.bool false))) .unit]))
 (.cond (.t 28) .skip (.exit 0)))
 (.seq (.block 1 (.seq (.reg none [.p (.mv 31 (.t 0)) .unit,
  .p (.mv 32 (.t 1)) .unit,
  .p (.mv 33 (.t 9)) .unit,
  .p (.bin 34 false .add (.t 32) (.t 33)) .unit,
  .p (.idx 35 (.t 31) (.t 34)) .unit,
  .p (.cvi 36 .i64 .u8 (.t 35)) .unit,
  .p (.mv 10 (.t 36)) .unit])
 (.seq (.reg none [.p (.mv 37 (.t 7)) .unit,
  .p (.mv 38 (.t 10)) .unit,
  .p (.bin 39 false .rem (.t 38) (.c (.int .i64 128))) .unit,
  .p (.mv 40 (.t 8)) .unit,
  .p (.bin 41 false .mul (.t 39) (.t 40)) .unit,
  .p (.bin 42 false .add (.t 37) (.t 41)) .unit,
  .p (.mv 7 (.t 42)) .unit])
 (.seq (.reg none [.p (.mv 43 (.t 8)) .unit,
  .p (.bin 44 false .mul (.t 43) (.c (.int .i64 128))) .unit,
  .p (.mv 8 (.t 44)) .unit])
 (.seq (.seq (.reg none [.p (.mv 45 (.t 10)) .unit,
  .p (.bin 46 false .geq (.t 45) (.c (.int .i64 128))) .unit])
 (.cond (.t 46) (.exit 1) .skip))
 (.seq (.seq (.join ⟨[(1, true), (7, false), (9, false), (56, false)], [.cell (.int .i64), .cell (.int .i64), .cell (.int .i64), .cell .bool]⟩ (.reg none [.p (.mv 47 (.t 10)) .unit,
  .p (.bin 48 false .eql (.t 47) (.c (.int .i64 0))) .unit,
  .p (.mv 49 (.t 48)) .unit,
  .g 49 true (some 50) (.mv 50 (.t 9)) .unit,
  .g 49 true (some 51) (.bin 51 false .gtr (.t 50) (.c (.int .i64 0))) .unit,
  .p (.pick 52 (.t 49) (.t 51) (.c (.bool false))) .unit,
  .p (.mv 53 (.t 52)) .unit,
  .g 53 false (some 54) (.mv 54 (.t 7)) .unit,
  .g 53 false (some 55) (.bin 55 false .gtr (.t 54) (.c (.int .i64 1000000000))) .unit,
  .p (.pick 56 (.t 53) (.c (.bool true)) (.t 55)) .unit]))
 (.cond (.t 56) (.seq (.reg none [.p (.mv 4 (.c (.int .i64 0))) .unit,
  .p (.mv 5 (.c (.int .i64 0))) .unit,
  .p (.mv 6 (.c (.bool false))) .unit])
 .ret) .skip))
 (.seq (.reg none [.p (.mv 57 (.t 7)) .unit,
  .p (.mv 58 (.t 1)) .unit,
  .p (.mv 59 (.t 9)) .unit,
  .p (.bin 60 false .add (.t 58) (.t 59)) .unit,
  .p (.bin 61 false .add (.t 60) (.c (.int .i64 1))) .unit,
  .p (.mv 4 (.t 57)) .unit,
  .p (.mv 5 (.t 61)) .unit,
  .p (.mv 6 (.c (.bool true))) .unit])
 .ret)))))))
 (.reg none [.p (.mv 29 (.t 9)) .unit,
  .p (.bin 30 false .add (.t 29) (.c (.int .i64 1))) .unit,
  .p (.mv 9 (.t 30)) .unit])))
noncomputable def L_impl_ReadVar_1 : Nat → (List UInt8) × (Int) × (Int) × (Int) × Int → Option ((Unit) ⊕ ((Int) × (Int) × Bool)) := evL [] (finT [.t 4, .t 5, .t 6] [] [.cell (.int .i64), .cell (.int .i64), .cell .bool]) 0 ⟨[(0, true), (1, true), (7, false), (8, false), (9, false)], [.cell .str, .cell (.int .i64), .cell (.int .i64), .cell (.int .i64), .cell (.int .i64)]⟩ ⟨[], []⟩ B_impl_ReadVar_1
def F_impl_ReadVar : TF := ⟨(.seq (.reg none [.p (.mv 4 (.c (.int .i64 0))) .unit,
  .p (.mv 5 (.c (.int .i64 0))) .unit,
  .p (.mv 6 (.c (.bool false))) .unit])
 (.seq (.seq (.join ⟨[(0, true), (1, true), (18, false)], [.cell .str, .cell (.int .i64), .cell .bool]⟩ (.reg none [.p (.mv 11 (.t 1)) .unit,
  .p (.bin 12 false .lss (.t 11) (.c (.int .i64 0))) .unit,
  .p (.mv 13 (.t 12)) .unit,
  .g 13 false (some 14) (.mv 14 (.t 1)) .unit,
  .g 13 false (some 15) (.mv 15 (.t 0)) .unit,
  .g 13 false (some 16) (.lenS 16 (.t 15)) .unit,
  .g 13 false (some 17) (.bin 17 false .gtr (.t 14) (.t 16)) .unit,
  .p (.pick 18 (.t 13) (.c (.bool true)) (.t 17)) .unit]))
 (.cond (.t 18) (.seq (.reg none [.p (.mv 4 (.c (.int .i64 0))) .unit,
  .p (.mv 5 (.c (.int .i64 0))) .unit,
  .p (.mv 6 (.c (.bool false))) .unit])
 .ret) .skip))
 (.seq (.reg none [.p (.mv 7 (.c (.int .i64 0))) .unit,
  .p (.mv 8 (.c (.int .i64 1))) .unit])
 (.seq (.seq (.reg none [.p (.mv 9 (.c (.int .i64 0))) .unit])
 (.jl 0 ⟨[(0, true), (1, true), (7, false), (8, false), (9, false)], [.cell .str, .cell (.int .i64), .cell (.int .i64), .cell (.int .i64), .cell (.int .i64)]⟩ ⟨[], []⟩ B_impl_ReadVar_1))
 (.seq (.reg none [.p (.mv 4 (.c (.int .i64 0))) .unit,
  .p (.mv 5 (.c (.int .i64 0))) .unit,
  .p (.mv 6 (.c (.bool false))) .unit])
 .ret))))),
 62, 2, [.t 4, .t 5, .t 6]⟩
theorem m_impl_ReadVar : mH Tryd.prog 134 [] = some (F_impl_ReadVar.code.x, F_impl_ReadVar.N, F_impl_ReadVar.np, F_impl_ReadVar.res) := by kernel_rfl
noncomputable def T_impl_ReadVar : (List UInt8) × Int → Option ((Int) × (Int) × Bool) := evF [] F_impl_ReadVar [.cell .str, .cell (.int .i64)] [] [.cell (.int .i64), .cell (.int .i64), .cell .bool] []
noncomputable def fn_impl_ReadVar : TFn := ⟨134, [.cell .str, .cell (.int .i64)], [], [.cell (.int .i64), .cell (.int .i64), .cell .bool], [], T_impl_ReadVar⟩
theorem ok_impl_ReadVar : FnOk Tryd.prog fn_impl_ReadVar := evF_ok mixed allOk_nil m_impl_ReadVar (by decide)
def F___impl_scanner__number : TF := ⟨(.seq (.reg none [.p (.mv 2 (.c (.int .i64 0))) .unit])
 (.seq (.reg (some [[], [0], [1], [2], [], [4], [5], [6], [3, 7], [8], [9], [9], [9], [10, 8, 0, 1, 2, 3, 4, 5, 6, 7, 8, 9, 10], [11, 13, 0, 1, 2, 3, 4, 5, 6, 7, 8, 9, 10, 11, 13], [12, 14, 0, 1, 2, 3, 4, 5, 6, 7, 8, 9, 10, 11, 12, 13, 14]]) [.p (.mvA 7 0) .unit,
  .p (.nilck 8 (.t 7)) .unit,
  .p (.fadr 9 (.t 8) 0) .unit,
  .p (.load 10 (.t 9) 1 false) .unit,
  .p (.mvA 11 0) .unit,
  .p (.nilck 12 (.t 11)) .unit,
  .p (.fadr 13 (.t 12) 1) .unit,
  .p (.load 14 (.t 13) 1 false) .unit,
  .p (.callB 15 n_impl_ReadVar [((.t 10), 0), ((.t 14), 0)]) .unit,
  .p (.mv 6 (.t 15)) .unit,
  .p (.ext 16 (.t 6) 0) .unit,
  .p (.ext 17 (.t 6) 1) .unit,
  .p (.ext 18 (.t 6) 2) .unit,
  .p (.mv 3 (.t 16)) .unit,
  .p (.mv 4 (.t 17)) .unit,
  .p (.mv 5 (.t 18)) .unit])
 (.seq (.seq (.join ⟨[(0, true), (3, false), (4, false), (26, false)], [.box (.pair .str (.pair (.int .i64) .bool)), .cell (.int .i64), .cell (.int .i64), .cell .bool]⟩ (.reg none [.p (.mvA 19 0) .unit,
  .p (.nilck 20 (.t 19)) .unit,
  .p (.fadr 21 (.t 20) 2) .unit,
  .p (.load 22 (.t 21) 1 false) .unit,
  .p (.mv 23 (.t 22)) .unit,
  .g 23 false (some 24) (.mv 24 (.t 5)) .unit,
  .g 23 false (some 25) (.un 25 .not (.t 24)) .unit,
  .p (.pick 26 (.t 23) (.c (.bool true)) (.t 25)) .unit]))
 (.cond (.t 26) (.seq (.reg none [.p (.mvA 27 0) .unit,
  .p (.nilck 28 (.t 27)) .unit,
  .p (.fadr 29 (.t 28) 2) .unit,
  .p (.store (.t 29) (.c (.bool true)) 1) .unit])
 (.seq (.reg none [.p (.mv 2 (.c (.int .i64 0))) .unit])
 .ret)) .skip))
 (.seq (.reg none [.p (.mvA 30 0) .unit,
  .p (.mv 31 (.t 4)) .unit,
  .p (.nilck 32 (.t 30)) .unit,
  .p (.fadr 33 (.t 32) 1) .unit,
  .p (.store (.t 33) (.t 31) 1) .unit])
 (.seq (.reg none [.p (.mv 34 (.t 3)) .unit,
  .p (.mv 2 (.t 34)) .unit])
 .ret))))),
 35, 1, [.t 2]⟩
theorem m___impl_scanner__number : mH Tryd.prog 102 [(1, 0, .v), (1, 4, .v), (2, 0, .v), (3, 0, .v), (5, 0, .v)] = some (F___impl_scanner__number.code.x, F___impl_scanner__number.N, F___impl_scanner__number.np, F___impl_scanner__number.res) := by kernel_rfl
noncomputable def T___impl_scanner__number : List UInt8 × Int × Bool → Option ((Int) × List UInt8 × Int × Bool) := evF [fn_impl_ReadVar] F___impl_scanner__number [.box (.pair .str (.pair (.int .i64) .bool))] [0] [.cell (.int .i64)] [.box (.pair .str (.pair (.int .i64) .bool))]
noncomputable def fn___impl_scanner__number : TFn := ⟨102, [.box (.pair .str (.pair (.int .i64) .bool))], [0], [.cell (.int .i64)], [.box (.pair .str (.pair (.int .i64) .bool))], T___impl_scanner__number⟩
theorem ok___impl_scanner__number : FnOk Tryd.prog fn___impl_scanner__number := evF_ok mixed (allOk_cons ok_impl_ReadVar allOk_nil) m___impl_scanner__number (by decide)
def F___impl_scanner__short : TF := ⟨(.seq (.reg none [.p (.mv 2 (.c (.string (ba [])))) .unit])
 (.seq (.reg none [.p (.mvA 4 0) .unit,
  .p (.callM 5 n___impl_scanner__number [] (.ptr (.t 4) 0) []) .unit,
  .p (.mv 3 (.t 5)) .unit])
 (.seq (.join ⟨[(0, true), (3, false)], [.box (.pair .str (.pair (.int .i64) .bool)), .cell (.int .i64)]⟩ (.seq (.reg none [.p (.mv 6 (.t 3)) .unit,
  .p (.bin 7 false .gtr (.t 6) (.c (.int .i64 20000))) .unit])
 (.cond (.t 7) (.reg none [.p (.mvA 8 0) .unit,
  .p (.nilck 9 (.t 8)) .unit,
  .p (.fadr 10 (.t 9) 2) .unit,
  .p (.store (.t 10) (.c (.bool true)) 1) .unit]) .skip)))
 (.seq (.reg none [.p (.mvA 11 0) .unit,
  .p (.mv 12 (.t 3)) .unit,
  .p (.callM 13 n___impl_scanner__take [] (.ptr (.t 11) 0) [((.t 12), 0)]) .unit,
  .p (.mv 2 (.t 13)) .unit])
 .ret)))),
 14, 1, [.t 2]⟩
theorem m___impl_scanner__short : mH Tryd.prog 45 [(1, 0, .v), (1, 1, (.p 0 0)), (3, 0, .v), (4, 0, .v), (4, 2, (.p 0 0))] = some (F___impl_scanner__short.code.x, F___impl_scanner__short.N, F___impl_scanner__short.np, F___impl_scanner__short.res) := by kernel_rfl
noncomputable def T___impl_scanner__short : List UInt8 × Int × Bool → Option ((List UInt8) × List UInt8 × Int × Bool) := evF [fn___impl_scanner__number, fn___impl_scanner__take] F___impl_scanner__short [.box (.pair .str (.pair (.int .i64) .bool))] [0] [.cell .str] [.box (.pair .str (.pair (.int .i64) .bool))]
noncomputable def fn___impl_scanner__short : TFn := ⟨45, [.box (.pair .str (.pair (.int .i64) .bool))], [0], [.cell .str], [.box (.pair .str (.pair (.int .i64) .bool))], T___impl_scanner__short⟩
theorem ok___impl_scanner__short : FnOk Tryd.prog fn___impl_scanner__short := evF_ok mixed (allOk_cons ok___impl_scanner__number (allOk_cons ok___impl_scanner__take allOk_nil)) m___impl_scanner__short (by decide)
def F___impl_scanner__count : TF := ⟨(.seq (.reg none [.p (.mv 4 (.c (.int .i64 0))) .unit])
 (.seq (.reg none [.p (.mvA 6 0) .unit,
  .p (.callM 7 n___impl_scanner__number [] (.ptr (.t 6) 0) []) .unit,
  .p (.mv 5 (.t 7)) .unit])
 (.seq (.seq (.reg none [.p (.mv 8 (.t 5)) .unit,
  .p (.mv 9 (.t 1)) .unit,
  .p (.bin 10 false .gtr (.t 8) (.t 9)) .unit])
 (.cond (.t 10) (.seq (.reg none [.p (.mvA 11 0) .unit,
  .p (.nilck 12 (.t 11)) .unit,
  .p (.fadr 13 (.t 12) 2) .unit,
  .p (.store (.t 13) (.c (.bool true)) 1) .unit])
 (.seq (.reg none [.p (.mv 4 (.c (.int .i64 0))) .unit])
 .ret)) .skip))
 (.seq (.reg none [.p (.mv 14 (.t 5)) .unit,
  .p (.mv 4 (.t 14)) .unit])
 .ret)))),
 15, 2, [.t 4]⟩
theorem m___impl_scanner__count : mH Tryd.prog 103 [(1, 0, .v), (1, 1, (.p 0 0)), (3, 0, .v)] = some (F___impl_scanner__count.code.x, F___impl_scanner__count.N, F___impl_scanner__count.np, F___impl_scanner__count.res) := by kernel_rfl
noncomputable def T___impl_scanner__count : (List UInt8 × Int × Bool) × Int → Option ((Int) × List UInt8 × Int × Bool) := evF [fn___impl_scanner__number] F___impl_scanner__count [.box (.pair .str (.pair (.int .i64) .bool)), .cell (.int .i64)] [0] [.cell (.int .i64)] [.box (.pair .str (.pair (.int .i64) .bool))]
noncomputable def fn___impl_scanner__count : TFn := ⟨103, [.box (.pair .str (.pair (.int .i64) .bool)), .cell (.int .i64)], [0], [.cell (.int .i64)], [.box (.pair .str (.pair (.int .i64) .bool))], T___impl_scanner__count⟩
theorem ok___impl_scanner__count : FnOk Tryd.prog fn___impl_scanner__count := evF_ok mixed (allOk_cons ok___impl_scanner__number allOk_nil) m___impl_scanner__count (by decide)
def B___impl_scanner__names_1 : TC := (.seq (.reg none [.p (.bin 8 false .lss (.t 7) (.t 6)) .unit])
 (.seq (.cond (.t 8) .skip (.exit 0))
 (.seq (.block 1 (.seq (.reg none [.p (.mvA 9 0) .unit,
  .p (.callM 10 n___impl_scanner__short [] (.ptr (.t 9) 0) []) .unit,
  .p (.mv 4 (.t 10)) .unit])
 (.reg none [.p (.mvT 11 3) .unit,
  .p (.mv 12 (.t 4)) .unit,
  .p (.bldS 13 1 [(.lit (.string (ba [])))] [⟨0, 1, (.t 12)⟩]) .str,
  .p (.app 14 1 16 (.t 11) (.t 13)) .str,
  .p (.mvT 3 14) .unit])))
 (.reg none [.p (.bin 15 false .add (.t 7) (.c (.int .i64 1))) .unit,
  .p (.mv 7 (.t 15)) .unit]))))
noncomputable def L___impl_scanner__names_1 : Nat → (List UInt8 × Int × Bool) × (List (List UInt8)) × (Int) × Int → Option (((List UInt8 × Int × Bool) × List (List UInt8)) ⊕ ((List (List UInt8)) × List UInt8 × Int × Bool)) := evL [fn___impl_scanner__count, fn___impl_scanner__short] (finT [.t 2] [0] [.cell (.sl true .str), .box (.pair .str (.pair (.int .i64) .bool))]) 0 ⟨[(0, true), (3, false), (6, false), (7, false)], [.box (.pair .str (.pair (.int .i64) .bool)), .cell (.sl true .str), .cell (.int .i64), .cell (.int .i64)]⟩ ⟨[(0, true), (3, false)], [.box (.pair .str (.pair (.int .i64) .bool)), .cell (.sl true .str)]⟩ B___impl_scanner__names_1
def F___impl_scanner__names : TF := ⟨(.seq (.reg none [.p (.mvN 2 1) .unit])
 (.seq (.reg none [.p (.mvN 3 1) .unit])
 (.seq (.seq (.reg none [.p (.mvA 5 0) .unit,
  .p (.callM 6 n___impl_scanner__count [] (.ptr (.t 5) 0) [((.c (.int .i64 3)), 0)]) .unit,
  .p (.mv 7 (.c (.int .i64 0))) .unit])
 (.jl 0 ⟨[(0, true), (3, false), (6, false), (7, false)], [.box (.pair .str (.pair (.int .i64) .bool)), .cell (.sl true .str), .cell (.int .i64), .cell (.int .i64)]⟩ ⟨[(0, true), (3, false)], [.box (.pair .str (.pair (.int .i64) .bool)), .cell (.sl true .str)]⟩ B___impl_scanner__names_1))
 (.seq (.reg none [.p (.mvT 16 3) .unit,
  .p (.mvT 2 16) .unit])
 .ret)))),
 17, 1, [.t 2]⟩
theorem m___impl_scanner__names : mH Tryd.prog 46 [(2, 0, .v), (2, 1, (.p 0 0)), (4, 0, .v), (4, 1, (.p 0 0)), (5, 0, .t), (5, 4, .t), (7, 0, .t), (7, 1, .t)] = some (F___impl_scanner__names.code.x, F___impl_scanner__names.N, F___impl_scanner__names.np, F___impl_scanner__names.res) := by kernel_rfl
noncomputable def T___impl_scanner__names : List UInt8 × Int × Bool → Option ((List (List UInt8)) × List UInt8 × Int × Bool) := evF [fn___impl_scanner__count, fn___impl_scanner__short] F___impl_scanner__names [.box (.pair .str (.pair (.int .i64) .bool))] [0] [.cell (.sl true .str)] [.box (.pair .str (.pair (.int .i64) .bool))]
noncomputable def fn___impl_scanner__names : TFn := ⟨46, [.box (.pair .str (.pair (.int .i64) .bool))], [0], [.cell (.sl true .str)], [.box (.pair .str (.pair (.int .i64) .bool))], T___impl_scanner__names⟩
theorem ok___impl_scanner__names : FnOk Tryd.prog fn___impl_scanner__names := evF_ok mixed (allOk_cons ok___impl_scanner__count (allOk_cons ok___impl_scanner__short allOk_nil)) m___impl_scanner__names (by decide)
def F___impl_scanner__done : TF := ⟨(.seq (.reg none [.p (.mv 2 (.c (.bool false))) .unit])
 (.seq (.reg (some [[], [0], [1], [2], [3], [4], [5], [6, 5], [7, 5], [8, 5], [5], [10, 5], [11, 5], [12, 5], [13, 5], [9, 14, 5], [5, 15], [16, 5, 0, 1, 2, 3, 4, 5, 6, 7, 8, 9, 10, 11, 12, 13, 14, 15, 16]]) [.p (.mv 3 (.t 0)) .unit,
  .p (.nilck 4 (.t 3)) .unit,
  .p (.fadr 5 (.t 4) 2) .unit,
  .p (.load 6 (.t 5) 1 false) .unit,
  .p (.un 7 .not (.t 6)) .unit,
  .p (.mv 8 (.t 7)) .unit,
  .g 8 true (some 9) (.mv 9 (.t 0)) .unit,
  .g 8 true (some 10) (.nilck 10 (.t 9)) .unit,
  .g 8 true (some 11) (.fadr 11 (.t 10) 1) .unit,
  .g 8 true (some 12) (.load 12 (.t 11) 1 false) .unit,
  .g 8 true (some 13) (.mv 13 (.t 0)) .unit,
  .g 8 true (some 14) (.nilck 14 (.t 13)) .unit,
  .g 8 true (some 15) (.fadr 15 (.t 14) 0) .unit,
  .g 8 true (some 16) (.load 16 (.t 15) 1 false) .unit,
  .g 8 true (some 17) (.lenS 17 (.t 16)) .unit,
  .g 8 true (some 18) (.bin 18 false .eql (.t 12) (.t 17)) .unit,
  .p (.pick 19 (.t 8) (.t 18) (.c (.bool false))) .unit,
  .p (.mv 2 (.t 19)) .unit])
 .ret)),
 20, 1, [.t 2]⟩
theorem m___impl_scanner__done : mH Tryd.prog 47 [] = some (F___impl_scanner__done.code.x, F___impl_scanner__done.N, F___impl_scanner__done.np, F___impl_scanner__done.res) := by kernel_rfl
noncomputable def T___impl_scanner__done : List UInt8 × Int × Bool → Option (Bool) := evF [] F___impl_scanner__done [.rp (.pair .str (.pair (.int .i64) .bool))] [] [.cell .bool] []
noncomputable def fn___impl_scanner__done : TFn := ⟨47, [.rp (.pair .str (.pair (.int .i64) .bool))], [], [.cell .bool], [], T___impl_scanner__done⟩
theorem ok___impl_scanner__done : FnOk Tryd.prog fn___impl_scanner__done := evF_ok mixed allOk_nil m___impl_scanner__done (by decide)
def F_impl_ReadWord : TF := ⟨(.seq (.reg none [.p (.alloc 2 [(.lit (.int .i64 0)), (.lit (.string (ba []))), (.sl true 1 []), (.lit (.string (ba [])))]) .unit,
  .p (.mv 3 (.c (.bool false))) .unit])
 (.seq (.reg none [.p (.mv 6 (.t 0)) .unit,
  .p (.bld 7 [(.lit (.string (ba []))), (.lit (.int .i64 0)), (.lit (.bool false))] [⟨0, 1, (.t 6)⟩]) .unit,
  .p (.alloc 4 [(.lit (.string (ba []))), (.lit (.int .i64 0)), (.lit (.bool false))]) .unit,
  .p (.store (.t 4) (.t 7) 3) .unit])
 (.seq (.reg none [.p (.callM 8 n___impl_scanner__octet [] (.tmp 4) []) .unit,
  .p (.bld 9 [(.lit (.int .i64 0)), (.lit (.string (ba []))), (.sl true 1 []), (.lit (.string (ba [])))] [⟨0, 1, (.t 8)⟩]) .unit,
  .p (.alloc 5 [(.lit (.int .i64 0)), (.lit (.string (ba []))), (.sl true 1 []), (.lit (.string (ba [])))]) .unit,
  .p (.storeT (.t 5) 9 4) .unit])
 (.seq (.reg none [.p (.callM 10 n___impl_scanner__short [] (.tmp 4) []) .unit,
  .p (.fadr 11 (.t 5) 1) .unit,
  .p (.store (.t 11) (.t 10) 1) .unit])
 (.seq (.reg none [.p (.callM 12 n___impl_scanner__names [] (.tmp 4) []) .unit,
  .p (.fadr 13 (.t 5) 2) .unit,
  .p (.storeT (.t 13) 12 1) .unit])
 (.seq (.reg none [.p (.callM 14 n___impl_scanner__short [] (.tmp 4) []) .unit,
  .p (.fadr 15 (.t 5) 3) .unit,
  .p (.store (.t 15) (.t 14) 1) .unit])
 (.seq (.seq (.join ⟨[(2, false), (5, false), (22, false)], [.box (.pair (.int .i64) (.pair .str (.pair (.sl true .str) .str))), .box (.pair (.int .i64) (.pair .str (.pair (.sl true .str) .str))), .cell .bool]⟩ (.reg none [.p (.callB 16 n___impl_scanner__done [((.t 4), 0)]) .unit,
  .p (.un 17 .not (.t 16)) .unit,
  .p (.mv 18 (.t 17)) .unit,
  .g 18 false (some 19) (.load 19 (.t 5) 4 true) .unit,
  .g 18 false (some 20) (.callB 20 n_impl_WordOk [((.t 19), 0)]) .unit,
  .g 18 false (some 21) (.un 21 .not (.t 20)) .unit,
  .p (.pick 22 (.t 18) (.c (.bool true)) (.t 21)) .unit]))
 (.cond (.t 22) (.seq (.reg none [.p (.bld 23 [(.lit (.int .i64 0)), (.lit (.string (ba []))), (.sl true 1 []), (.lit (.string (ba [])))] []) .unit,
  .p (.storeT (.t 2) 23 4) .unit,
  .p (.mv 3 (.c (.bool false))) .unit])
 .ret) .skip))
 (.seq (.reg none [.p (.loadT 24 (.t 5) 4 true) .unit,
  .p (.storeT (.t 2) 24 4) .unit,
  .p (.mv 3 (.c (.bool true))) .unit])
 .ret)))))))),
 25, 1, [.c 2 4 true, .t 3]⟩
theorem m_impl_ReadWord : mH Tryd.prog 9 [(2, 0, (.m 0)), (2, 3, .t), (3, 0, (.m 0)), (4, 0, (.m 0)), (4, 2, .t), (5, 0, (.m 0)), (7, 1, .t), (8, 0, .t), (8, 1, .t)] = some (F_impl_ReadWord.code.x, F_impl_ReadWord.N, F_impl_ReadWord.np, F_impl_ReadWord.res) := by kernel_rfl
noncomputable def T_impl_ReadWord : List UInt8 → Option ((Int × List UInt8 × List (List UInt8) × List UInt8) × Bool) := evF [fn___impl_scanner__octet, fn___impl_scanner__short, fn___impl_scanner__names, fn___impl_scanner__done, fn_impl_WordOk] F_impl_ReadWord [.cell .str] [] [.agg (.pair (.int .i64) (.pair .str (.pair (.sl true .str) .str))), .cell .bool] []
noncomputable def fn_impl_ReadWord : TFn := ⟨9, [.cell .str], [], [.agg (.pair (.int .i64) (.pair .str (.pair (.sl true .str) .str))), .cell .bool], [], T_impl_ReadWord⟩
theorem ok_impl_ReadWord : FnOk Tryd.prog fn_impl_ReadWord := evF_ok mixed (allOk_cons ok___impl_scanner__octet (allOk_cons ok___impl_scanner__short (allOk_cons ok___impl_scanner__names (allOk_cons ok___impl_scanner__done (allOk_cons ok_impl_WordOk allOk_nil))))) m_impl_ReadWord (by decide)
def F_spec_SplitPrivate : TF := ⟨(.seq (.reg none [.p (.mv 2 (.c (.int .i64 0))) .unit,
  .p (.mv 3 (.c (.string (ba [])))) .unit,
  .p (.mv 4 (.c (.bool false))) .unit])
 (.seq (.seq (.join ⟨[(0, true), (33, false)], [.cell .str, .cell .bool]⟩ (.reg none [.p (.mv 5 (.t 0)) .unit,
  .p (.lenS 6 (.t 5)) .unit,
  .p (.bin 7 false .lss (.t 6) (.c (.int .i64 4))) .unit,
  .p (.mv 8 (.t 7)) .unit,
  .g 8 false (some 9) (.mv 9 (.t 0)) .unit,
  .g 8 false (some 10) (.idx 10 (.t 9) (.c (.int .i64 0))) .unit,
  .g 8 false (some 11) (.bin 11 false .neq (.t 10) (.c (.int .u8 35))) .unit,
  .p (.pick 12 (.t 8) (.c (.bool true)) (.t 11)) .unit,
  .p (.mv 13 (.t 12)) .unit,
  .g 13 false (some 14) (.mv 14 (.t 0)) .unit,
  .g 13 false (some 15) (.idx 15 (.t 14) (.c (.int .i64 2))) .unit,
  .g 13 false (some 16) (.bin 16 false .neq (.t 15) (.c (.int .u8 35))) .unit,
  .p (.pick 17 (.t 13) (.c (.bool true)) (.t 16)) .unit,
  .p (.mv 18 (.t 17)) .unit,
  .g 18 false (some 19) (.mv 19 (.t 0)) .unit,
  .g 18 false (some 20) (.idx 20 (.t 19) (.c (.int .i64 1))) .unit,
  .g 18 false (some 21) (.bin 21 false .lss (.t 20) (.c (.int .u8 49))) .unit,
  .p (.pick 22 (.t 18) (.c (.bool true)) (.t 21)) .unit,
  .p (.mv 23 (.t 22)) .unit,
  .g 23 false (some 24) (.mv 24 (.t 0)) .unit,
  .g 23 false (some 25) (.idx 25 (.t 24) (.c (.int .i64 1))) .unit,
  .g 23 false (some 26) (.bin 26 false .gtr (.t 25) (.c (.int .u8 57))) .unit,
  .p (.pick 27 (.t 23) (.c (.bool true)) (.t 26)) .unit,
  .p (.mv 28 (.t 27)) .unit,
  .g 28 false (some 29) (.mv 29 (.t 0)) .unit,
  .g 28 false (some 30) (.slcS 30 (.t 29) (some (.c (.int .i64 3))) none) .unit,
  .g 28 false (some 31) (.callB 31 n_spec_NameOk [((.t 30), 0)]) .unit,
  .g 28 false (some 32) (.un 32 .not (.t 31)) .unit,
  .p (.pick 33 (.t 28) (.c (.bool true)) (.t 32)) .unit]))
 (.cond (.t 33) (.seq (.reg none [.p (.mv 2 (.c (.int .i64 0))) .unit,
  .p (.mv 3 (.c (.string (ba [])))) .unit,
  .p (.mv 4 (.c (.bool false))) .unit])
 .ret) .skip))
 (.seq (.reg (some [[], [0], [1], [2], [], [4], [3, 0, 1, 2, 3], [5, 6, 0, 1, 2, 3, 4, 5, 6], [7, 0, 1, 2, 3, 4, 5, 6, 7]]) [.p (.mv 34 (.t 0)) .unit,
  .p (.idx 35 (.t 34) (.c (.int .i64 1))) .unit,
  .p (.cvi 36 .i64 .u8 (.t 35)) .unit,
  .p (.bin 37 false .sub (.t 36) (.c (.int .i64 48))) .unit,
  .p (.mv 38 (.t 0)) .unit,
  .p (.slcS 39 (.t 38) (some (.c (.int .i64 3))) none) .unit,
  .p (.mv 2 (.t 37)) .unit,
  .p (.mv 3 (.t 39)) .unit,
  .p (.mv 4 (.c (.bool true))) .unit])
 .ret))),
 40, 1, [.t 2, .t 3, .t 4]⟩
theorem m_spec_SplitPrivate : mH Tryd.prog 53 [] = some (F_spec_SplitPrivate.code.x, F_spec_SplitPrivate.N, F_spec_SplitPrivate.np, F_spec_SplitPrivate.res) := by kernel_rfl
noncomputable def T_spec_SplitPrivate : List UInt8 → Option ((Int) × (List UInt8) × Bool) := evF [fn_spec_NameOk] F_spec_SplitPrivate [.cell .str] [] [.cell (.int .i64), .cell .str, .cell .bool] []
noncomputable def fn_spec_SplitPrivate : TFn := ⟨53, [.cell .str], [], [.cell (.int .i64), .cell .str, .cell .bool], [], T_spec_SplitPrivate⟩
theorem ok_spec_SplitPrivate : FnOk Tryd.prog fn_spec_SplitPrivate := evF_ok mixed (allOk_cons ok_spec_NameOk allOk_nil) m_spec_SplitPrivate (by decide)
def F_spec_l17Private : TF := ⟨(.seq (.reg none [.p (.mv 2 (.c (.bool false))) .unit])
 (.seq (.reg none [.p (.mv 7 (.t 0)) .unit,
  .p (.callB 8 n_spec_SplitPrivate [((.t 7), 0)]) .unit,
  .p (.mv 6 (.t 8)) .unit,
  .p (.ext 9 (.t 6) 0) .unit,
  .p (.ext 10 (.t 6) 1) .unit,
  .p (.ext 11 (.t 6) 2) .unit,
  .p (.mv 3 (.t 9)) .unit,
  .p (.mv 4 (.t 10)) .unit,
  .p (.mv 5 (.t 11)) .unit])
 (.seq (.reg none [.p (.mv 12 (.t 5)) .unit,
  .p (.mv 2 (.t 12)) .unit])
 .ret))),
 13, 1, [.t 2]⟩
theorem m_spec_l17Private : mH Tryd.prog 72 [] = some (F_spec_l17Private.code.x, F_spec_l17Private.N, F_spec_l17Private.np, F_spec_l17Private.res) := by kernel_rfl
noncomputable def T_spec_l17Private : List UInt8 → Option (Bool) := evF [fn_spec_SplitPrivate] F_spec_l17Private [.cell .str] [] [.cell .bool] []
noncomputable def fn_spec_l17Private : TFn := ⟨72, [.cell .str], [], [.cell .bool], [], T_spec_l17Private⟩
theorem ok_spec_l17Private : FnOk Tryd.prog fn_spec_l17Private := evF_ok mixed (allOk_cons ok_spec_SplitPrivate allOk_nil) m_spec_l17Private (by decide)
def B_spec_l17Names_1 : TC := (.seq (.seq (.reg none [.p (.mv 4 (.t 3)) .unit,
  .p (.mv 5 (.t 0)) .unit,
  .p (.lenB 6 (.t 5)) .unit,
  .p (.bin 7 false .lss (.t 4) (.t 6)) .unit])
 (.cond (.t 7) .skip (.exit 0)))
 (.seq (.block 1 (.seq (.join ⟨[(0, true), (3, false), (31, false)], [.cell (.sl false .str), .cell (.int .i64), .cell .bool]⟩ (.reg (some [[], [], [0, 1], [2], [3], [4], [5, 4], [6], [7, 6], [8, 6, 6], [9], [9], [11, 9], [10, 12, 9], [13, 9], [9], [9], [15, 16, 9], [17, 9], [14, 18, 9], [9, 19, 6], [6, 20]]) [.p (.mv 10 (.t 0)) .unit,
  .p (.mv 11 (.t 3)) .unit,
  .p (.iadr 12 1 (.t 10) (.t 11)) .unit,
  .p (.load 13 (.t 12) 1 false) .unit,
  .p (.callB 14 n_spec_NameOk [((.t 13), 0)]) .unit,
  .p (.un 15 .not (.t 14)) .unit,
  .p (.mv 16 (.t 15)) .unit,
  .g 16 false (some 17) (.mv 17 (.t 3)) .unit,
  .g 16 false (some 18) (.bin 18 false .gtr (.t 17) (.c (.int .i64 0))) .unit,
  .g 16 false (some 19) (.mv 19 (.t 18)) .unit,
  .g 19 true (some 20) (.mv 20 (.t 0)) .unit,
  .g 19 true (some 21) (.mv 21 (.t 3)) .unit,
  .g 19 true (some 22) (.bin 22 false .sub (.t 21) (.c (.int .i64 1))) .unit,
  .g 19 true (some 23) (.iadr 23 1 (.t 20) (.t 22)) .unit,
  .g 19 true (some 24) (.load 24 (.t 23) 1 false) .unit,
  .g 19 true (some 25) (.mv 25 (.t 0)) .unit,
  .g 19 true (some 26) (.mv 26 (.t 3)) .unit,
  .g 19 true (some 27) (.iadr 27 1 (.t 25) (.t 26)) .unit,
  .g 19 true (some 28) (.load 28 (.t 27) 1 false) .unit,
  .g 19 true (some 29) (.bin 29 false .geq (.t 24) (.t 28)) .unit,
  .g 16 false (some 30) (.pick 30 (.t 19) (.t 29) (.c (.bool false))) .unit,
  .p (.pick 31 (.t 16) (.c (.bool true)) (.t 30)) .unit]))
 (.cond (.t 31) (.seq (.reg none [.p (.mv 2 (.c (.bool false))) .unit])
 .ret) .skip)))
 (.reg none [.p (.mv 8 (.t 3)) .unit,
  .p (.bin 9 false .add (.t 8) (.c (.int .i64 1))) .unit,
  .p (.mv 3 (.t 9)) .unit])))
noncomputable def L_spec_l17Names_1 : Nat → (List (List UInt8)) × Int → Option ((Unit) ⊕ (Bool)) := evL [fn_spec_NameOk] (finT [.t 2] [] [.cell .bool]) 0 ⟨[(0, true), (3, false)], [.cell (.sl false .str), .cell (.int .i64)]⟩ ⟨[], []⟩ B_spec_l17Names_1
def F_spec_l17Names : TF := ⟨(.seq (.reg none [.p (.mv 2 (.c (.bool false))) .unit])
 (.seq (.seq (.reg none [.p (.mv 3 (.c (.int .i64 0))) .unit])
 (.jl 0 ⟨[(0, true), (3, false)], [.cell (.sl false .str), .cell (.int .i64)]⟩ ⟨[], []⟩ B_spec_l17Names_1))
 (.seq (.reg none [.p (.mv 2 (.c (.bool true))) .unit])
 .ret))),
 32, 1, [.t 2]⟩
theorem m_spec_l17Names : mH Tryd.prog 73 [] = some (F_spec_l17Names.code.x, F_spec_l17Names.N, F_spec_l17Names.np, F_spec_l17Names.res) := by kernel_rfl
noncomputable def T_spec_l17Names : List (List UInt8) → Option (Bool) := evF [fn_spec_NameOk] F_spec_l17Names [.cell (.sl false .str)] [] [.cell .bool] []
noncomputable def fn_spec_l17Names : TFn := ⟨73, [.cell (.sl false .str)], [], [.cell .bool], [], T_spec_l17Names⟩
theorem ok_spec_l17Names : FnOk Tryd.prog fn_spec_l17Names := evF_ok mixed (allOk_cons ok_spec_NameOk allOk_nil) m_spec_l17Names (by decide)
def F_spec_WordOk : TF := ⟨(.seq (.reg none [.p (.box 1 (.t 0)) .unit,
  .p (.mv 2 (.c (.bool false))) .unit])
 (.seq (.seq (.join ⟨[(1, false), (18, false)], [.box (.pair (.int .i64) (.pair .str (.pair (.sl false .str) .str))), .cell .bool]⟩ (.reg none [.p (.fadr 3 (.t 1) 0) .unit,
  .p (.load 4 (.t 3) 1 false) .unit,
  .p (.callB 5 n_spec_l01In [((.t 4), 0), ((.c (.int .i64 1)), 0), ((.c (.int .i64 4)), 0)]) .unit,
  .p (.un 6 .not (.t 5)) .unit,
  .p (.mv 7 (.t 6)) .unit,
  .g 7 false (some 8) (.fadr 8 (.t 1) 1) .unit,
  .g 7 false (some 9) (.load 9 (.t 8) 1 false) .unit,
  .g 7 false (some 10) (.callB 10 n_spec_l17Private [((.t 9), 0)]) .unit,
  .g 7 false (some 11) (.un 11 .not (.t 10)) .unit,
  .p (.pick 12 (.t 7) (.c (.bool true)) (.t 11)) .unit,
  .p (.mv 13 (.t 12)) .unit,
  .g 13 false (some 14) (.fadr 14 (.t 1) 2) .unit,
  .g 13 false (some 15) (.load 15 (.t 14) 1 false) .unit,
  .g 13 false (some 16) (.callB 16 n_spec_l17Names [((.t 15), 0)]) .unit,
  .g 13 false (some 17) (.un 17 .not (.t 16)) .unit,
  .p (.pick 18 (.t 13) (.c (.bool true)) (.t 17)) .unit]))
 (.cond (.t 18) (.seq (.reg none [.p (.mv 2 (.c (.bool false))) .unit])
 .ret) .skip))
 (.seq (.seq (.reg none [.p (.fadr 19 (.t 1) 0) .unit,
  .p (.load 20 (.t 19) 1 false) .unit])
 (.block 0 (.seq (.reg none [.p (.bin 22 false .eql (.t 20) (.c (.int .i64 4))) .unit,
  .p (.mv 21 (.t 22)) .unit])
 (.cond (.t 21) (.seq (.reg none [.p (.fadr 23 (.t 1) 2) .unit,
  .p (.load 24 (.t 23) 1 false) .unit,
  .p (.lenB 25 (.t 24)) .unit,
  .p (.callB 26 n_spec_l01In [((.t 25), 0), ((.c (.int .i64 1)), 0), ((.c (.int .i64 3)), 0)]) .unit,
  .p (.mv 27 (.t 26)) .unit,
  .g 27 true (some 28) (.fadr 28 (.t 1) 3) .unit,
  .g 27 true (some 29) (.load 29 (.t 28) 1 false) .unit,
  .g 27 true (some 30) (.lenS 30 (.t 29)) .unit,
  .g 27 true (some 31) (.bin 31 false .leq (.t 30) (.c (.int .i64 20))) .unit,
  .p (.pick 32 (.t 27) (.t 31) (.c (.bool false))) .unit,
  .p (.mv 2 (.t 32)) .unit])
 .ret) (.seq (.reg none [.p (.bin 34 false .eql (.t 20) (.c (.int .i64 3))) .unit,
  .p (.mv 33 (.t 34)) .unit])
 (.cond (.t 33) (.seq (.reg none [.p (.fadr 35 (.t 1) 2) .unit,
  .p (.load 36 (.t 35) 1 false) .unit,
  .p (.lenB 37 (.t 36)) .unit,
  .p (.bin 38 false .eql (.t 37) (.c (.int .i64 0))) .unit,
  .p (.mv 39 (.t 38)) .unit,
  .g 39 true (some 40) (.fadr 40 (.t 1) 3) .unit,
  .g 39 true (some 41) (.load 41 (.t 40) 1 false) .unit,
  .g 39 true (some 42) (.bin 42 false .eql (.t 41) (.c (.string (ba [])))) .unit,
  .p (.pick 43 (.t 39) (.t 42) (.c (.bool false))) .unit,
  .p (.mv 2 (.t 43)) .unit])
 .ret) .skip))))))
 (.seq (.reg none [.p (.fadr 44 (.t 1) 2) .unit,
  .p (.load 45 (.t 44) 1 false) .unit,
  .p (.lenB 46 (.t 45)) .unit,
  .p (.bin 47 false .eql (.t 46) (.c (.int .i64 1))) .unit,
  .p (.mv 48 (.t 47)) .unit,
  .g 48 true (some 49) (.fadr 49 (.t 1) 3) .unit,
  .g 48 true (some 50) (.load 50 (.t 49) 1 false) .unit,
  .g 48 true (some 51) (.bin 51 false .eql (.t 50) (.c (.string (ba [])))) .unit,
  .p (.pick 52 (.t 48) (.t 51) (.c (.bool false))) .unit,
  .p (.mv 2 (.t 52)) .unit])
 .ret)))),
 53, 1, [.t 2]⟩
theorem m_spec_WordOk : mH Tryd.prog 26 [] = some (F_spec_WordOk.code.x, F_spec_WordOk.N, F_spec_WordOk.np, F_spec_WordOk.res) := by kernel_rfl
noncomputable def T_spec_WordOk : Int × List UInt8 × List (List UInt8) × List UInt8 → Option (Bool) := evF [fn_spec_l01In, fn_spec_l17Private, fn_spec_l17Names] F_spec_WordOk [.agg (.pair (.int .i64) (.pair .str (.pair (.sl false .str) .str)))] [] [.cell .bool] []
noncomputable def fn_spec_WordOk : TFn := ⟨26, [.agg (.pair (.int .i64) (.pair .str (.pair (.sl false .str) .str)))], [], [.cell .bool], [], T_spec_WordOk⟩
theorem ok_spec_WordOk : FnOk Tryd.prog fn_spec_WordOk := evF_ok mixed (allOk_cons ok_spec_l01In (allOk_cons ok_spec_l17Private (allOk_cons ok_spec_l17Names allOk_nil))) m_spec_WordOk (by decide)
def B_laws_sameTexts_1 : TC := (.seq (.seq (.reg none [.p (.mv 11 (.t 5)) .unit,
  .p (.mv 12 (.t 0)) .unit,
  .p (.lenB 13 (.t 12)) .unit,
  .p (.bin 14 false .lss (.t 11) (.t 13)) .unit])
 (.cond (.t 14) .skip (.exit 0)))
 (.seq (.block 1 (.seq (.reg (some [[], [], [0, 1], [2], [], [], [4, 5], [6], [3, 7]]) [.p (.mv 17 (.t 0)) .unit,
  .p (.mv 18 (.t 5)) .unit,
  .p (.iadr 19 1 (.t 17) (.t 18)) .unit,
  .p (.load 20 (.t 19) 1 false) .unit,
  .p (.mv 21 (.t 1)) .unit,
  .p (.mv 22 (.t 5)) .unit,
  .p (.iadr 23 1 (.t 21) (.t 22)) .unit,
  .p (.load 24 (.t 23) 1 false) .unit,
  .p (.bin 25 false .neq (.t 20) (.t 24)) .unit])
 (.cond (.t 25) (.seq (.reg none [.p (.mv 4 (.c (.bool false))) .unit])
 .ret) .skip)))
 (.reg none [.p (.mv 15 (.t 5)) .unit,
  .p (.bin 16 false .add (.t 15) (.c (.int .i64 1))) .unit,
  .p (.mv 5 (.t 16)) .unit])))
noncomputable def L_laws_sameTexts_1 : Nat → (List (List UInt8)) × (List (List UInt8)) × Int → Option ((Unit) ⊕ (Bool)) := evL [] (finT [.t 4] [] [.cell .bool]) 0 ⟨[(0, true), (1, true), (5, false)], [.cell (.sl false .str), .cell (.sl false .str), .cell (.int .i64)]⟩ ⟨[], []⟩ B_laws_sameTexts_1
def F_laws_sameTexts : TF := ⟨(.seq (.reg none [.p (.mv 4 (.c (.bool false))) .unit])
 (.seq (.seq (.reg none [.p (.mv 6 (.t 0)) .unit,
  .p (.lenB 7 (.t 6)) .unit,
  .p (.mv 8 (.t 1)) .unit,
  .p (.lenB 9 (.t 8)) .unit,
  .p (.bin 10 false .neq (.t 7) (.t 9)) .unit])
 (.cond (.t 10) (.seq (.reg none [.p (.mv 4 (.c (.bool false))) .unit])
 .ret) .skip))
 (.seq (.seq (.reg none [.p (.mv 5 (.c (.int .i64 0))) .unit])
 (.jl 0 ⟨[(0, true), (1, true), (5, false)], [.cell (.sl false .str), .cell (.sl false .str), .cell (.int .i64)]⟩ ⟨[], []⟩ B_laws_sameTexts_1))
 (.seq (.reg none [.p (.mv 4 (.c (.bool true))) .unit])
 .ret)))),
 26, 2, [.t 4]⟩
theorem m_laws_sameTexts : mH Tryd.prog 28 [] = some (F_laws_sameTexts.code.x, F_laws_sameTexts.N, F_laws_sameTexts.np, F_laws_sameTexts.res) := by kernel_rfl
noncomputable def T_laws_sameTexts : (List (List UInt8)) × List (List UInt8) → Option (Bool) := evF [] F_laws_sameTexts [.cell (.sl false .str), .cell (.sl false .str)] [] [.cell .bool] []
noncomputable def fn_laws_sameTexts : TFn := ⟨28, [.cell (.sl false .str), .cell (.sl false .str)], [], [.cell .bool], [], T_laws_sameTexts⟩
theorem ok_laws_sameTexts : FnOk Tryd.prog fn_laws_sameTexts := evF_ok mixed allOk_nil m_laws_sameTexts (by decide)
def F_spec_l05Byte : TF := ⟨(.seq (.reg none [.p (.mv 2 (.c (.string (ba [])))) .unit])
 (.seq (.reg none [.p (.mv 3 (.t 0)) .unit,
  .p (.cvi 4 .u8 .i64 (.t 3)) .unit,
  .p (.bldS 5 1 [(.lit (.int .u8 0))] [⟨0, 1, (.t 4)⟩]) (.int .u8),
  .p (.b2s 6 (.t 5)) .unit,
  .p (.mv 2 (.t 6)) .unit])
 .ret)),
 7, 1, [.t 2]⟩
theorem m_spec_l05Byte : mH Tryd.prog 98 [] = some (F_spec_l05Byte.code.x, F_spec_l05Byte.N, F_spec_l05Byte.np, F_spec_l05Byte.res) := by kernel_rfl
noncomputable def T_spec_l05Byte : Int → Option (List UInt8) := evF [] F_spec_l05Byte [.cell (.int .i64)] [] [.cell .str] []
noncomputable def fn_spec_l05Byte : TFn := ⟨98, [.cell (.int .i64)], [], [.cell .str], [], T_spec_l05Byte⟩
theorem ok_spec_l05Byte : FnOk Tryd.prog fn_spec_l05Byte := evF_ok mixed allOk_nil m_spec_l05Byte (by decide)
def B_spec_l01Var_1 : TC := (.seq (.seq (.reg none [.p (.mv 5 (.t 0)) .unit,
  .p (.bin 6 false .gtr (.t 5) (.c (.int .i64 127))) .unit])
 (.cond (.t 6) .skip (.exit 0)))
 (.block 1 (.seq (.reg none [.p (.mvT 7 3) .unit,
  .p (.mv 8 (.t 0)) .unit,
  .p (.bin 9 false .rem (.t 8) (.c (.int .i64 128))) .unit,
  .p (.bin 10 false .add (.t 9) (.c (.int .i64 128))) .unit,
  .p (.cvi 11 .u8 .i64 (.t 10)) .unit,
  .p (.bldS 12 1 [(.lit (.int .u8 0))] [⟨0, 1, (.t 11)⟩]) (.int .u8),
  .p (.app 13 1 1 (.t 7) (.t 12)) (.int .u8),
  .p (.mvT 3 13) .unit])
 (.reg none [.p (.mv 14 (.t 0)) .unit,
  .p (.bin 15 false .quo (.t 14) (.c (.int .i64 128))) .unit,
  .p (.mv 0 (.t 15)) .unit]))))
noncomputable def L_spec_l01Var_1 : Nat → (Int) × List (Int) → Option (((Int) × List (Int)) ⊕ (List UInt8)) := evL [] (finT [.t 2] [] [.cell .str]) 0 ⟨[(0, false), (3, false)], [.cell (.int .i64), .cell (.sl true (.int .u8))]⟩ ⟨[(0, false), (3, false)], [.cell (.int .i64), .cell (.sl true (.int .u8))]⟩ B_spec_l01Var_1
def F_spec_l01Var : TF := ⟨(.seq (.reg none [.p (.mv 2 (.c (.string (ba [])))) .unit])
 (.seq (.reg none [.p (.bldS 4 0 [(.lit (.int .u8 0))] []) (.int .u8),
  .p (.mvT 3 4) .unit])
 (.seq (.jl 0 ⟨[(0, false), (3, false)], [.cell (.int .i64), .cell (.sl true (.int .u8))]⟩ ⟨[(0, false), (3, false)], [.cell (.int .i64), .cell (.sl true (.int .u8))]⟩ B_spec_l01Var_1)
 (.seq (.reg none [.p (.mvT 16 3) .unit,
  .p (.mv 17 (.t 0)) .unit,
  .p (.cvi 18 .u8 .i64 (.t 17)) .unit,
  .p (.bldS 19 1 [(.lit (.int .u8 0))] [⟨0, 1, (.t 18)⟩]) (.int .u8),
  .p (.app 20 1 1 (.t 16) (.t 19)) (.int .u8),
  .p (.b2s 21 (.t 20)) .unit,
  .p (.mv 2 (.t 21)) .unit])
 .ret)))),
 22, 1, [.t 2]⟩
theorem m_spec_l01Var : mH Tryd.prog 100 [(1, 1, .t), (3, 0, .t), (3, 7, .t), (5, 0, .t)] = some (F_spec_l01Var.code.x, F_spec_l01Var.N, F_spec_l01Var.np, F_spec_l01Var.res) := by kernel_rfl
noncomputable def T_spec_l01Var : Int → Option (List UInt8) := evF [] F_spec_l01Var [.cell (.int .i64)] [] [.cell .str] []
noncomputable def fn_spec_l01Var : TFn := ⟨100, [.cell (.int .i64)], [], [.cell .str], [], T_spec_l01Var⟩
theorem ok_spec_l01Var : FnOk Tryd.prog fn_spec_l01Var := evF_ok mixed allOk_nil m_spec_l01Var (by decide)
def F_spec_l05Short : TF := ⟨(.seq (.reg none [.p (.mv 2 (.c (.string (ba [])))) .unit])
 (.seq (.reg none [.p (.mv 3 (.t 0)) .unit,
  .p (.lenS 4 (.t 3)) .unit,
  .p (.callB 5 n_spec_l01Var [((.t 4), 0)]) .unit,
  .p (.mv 6 (.t 0)) .unit,
  .p (.bin 7 false .add (.t 5) (.t 6)) .unit,
  .p (.mv 2 (.t 7)) .unit])
 .ret)),
 8, 1, [.t 2]⟩
theorem m_spec_l05Short : mH Tryd.prog 99 [] = some (F_spec_l05Short.code.x, F_spec_l05Short.N, F_spec_l05Short.np, F_spec_l05Short.res) := by kernel_rfl
noncomputable def T_spec_l05Short : List UInt8 → Option (List UInt8) := evF [fn_spec_l01Var] F_spec_l05Short [.cell .str] [] [.cell .str] []
noncomputable def fn_spec_l05Short : TFn := ⟨99, [.cell .str], [], [.cell .str], [], T_spec_l05Short⟩
theorem ok_spec_l05Short : FnOk Tryd.prog fn_spec_l05Short := evF_ok mixed (allOk_cons ok_spec_l01Var allOk_nil) m_spec_l05Short (by decide)
def B_spec_WordText_1 : TC := (.seq (.seq (.reg none [.p (.mv 21 (.t 5)) .unit,
  .p (.fadr 22 (.t 1) 2) .unit,
  .p (.load 23 (.t 22) 1 false) .unit,
  .p (.lenB 24 (.t 23)) .unit,
  .p (.bin 25 false .lss (.t 21) (.t 24)) .unit])
 (.cond (.t 25) .skip (.exit 0)))
 (.seq (.block 1 (.reg none [.p (.mv 28 (.t 4)) .unit,
  .p (.fadr 29 (.t 1) 2) .unit,
  .p (.load 30 (.t 29) 1 false) .unit,
  .p (.mv 31 (.t 5)) .unit,
  .p (.iadr 32 1 (.t 30) (.t 31)) .unit,
  .p (.load 33 (.t 32) 1 false) .unit,
  .p (.callB 34 n_spec_l05Short [((.t 33), 0)]) .unit,
  .p (.bin 35 false .add (.t 28) (.t 34)) .unit,
  .p (.mv 4 (.t 35)) .unit]))
 (.reg none [.p (.mv 26 (.t 5)) .unit,
  .p (.bin 27 false .add (.t 26) (.c (.int .i64 1))) .unit,
  .p (.mv 5 (.t 27)) .unit])))
noncomputable def L_spec_WordText_1 : Nat → (Int × List UInt8 × List (List UInt8) × List UInt8) × (List UInt8) × Int → Option (((Int × List UInt8 × List (List UInt8) × List UInt8) × List UInt8) ⊕ ((List UInt8) × Bool)) := evL [fn_spec_WordOk, fn_spec_l05Byte, fn_spec_l05Short, fn_spec_l01Var] (finT [.t 2, .t 3] [] [.cell .str, .cell .bool]) 0 ⟨[(1, false), (4, false), (5, false)], [.box (.pair (.int .i64) (.pair .str (.pair (.sl false .str) .str))), .cell .str, .cell (.int .i64)]⟩ ⟨[(1, false), (4, false)], [.box (.pair (.int .i64) (.pair .str (.pair (.sl false .str) .str))), .cell .str]⟩ B_spec_WordText_1
def F_spec_WordText : TF := ⟨(.seq (.reg none [.p (.box 1 (.t 0)) .unit,
  .p (.mv 2 (.c (.string (ba [])))) .unit,
  .p (.mv 3 (.c (.bool false))) .unit])
 (.seq (.seq (.reg none [.p (.load 6 (.t 1) 4 true) .unit,
  .p (.callB 7 n_spec_WordOk [((.t 6), 0)]) .unit,
  .p (.un 8 .not (.t 7)) .unit])
 (.cond (.t 8) (.seq (.reg none [.p (.mv 2 (.c (.string (ba [])))) .unit,
  .p (.mv 3 (.c (.bool false))) .unit])
 .ret) .skip))
 (.seq (.reg (some [[], [0], [1], [], [3], [4, 2], [2, 5], [], [7], [8], [9, 5], [6, 10], [11, 10, 0, 1, 2, 3, 4, 5, 6, 7, 8, 9, 10, 11]]) [.p (.fadr 9 (.t 1) 0) .unit,
  .p (.load 10 (.t 9) 1 false) .unit,
  .p (.callB 11 n_spec_l05Byte [((.t 10), 0)]) .unit,
  .p (.fadr 12 (.t 1) 1) .unit,
  .p (.load 13 (.t 12) 1 false) .unit,
  .p (.callB 14 n_spec_l05Short [((.t 13), 0)]) .unit,
  .p (.bin 15 false .add (.t 11) (.t 14)) .unit,
  .p (.fadr 16 (.t 1) 2) .unit,
  .p (.load 17 (.t 16) 1 false) .unit,
  .p (.lenB 18 (.t 17)) .unit,
  .p (.callB 19 n_spec_l01Var [((.t 18), 0)]) .unit,
  .p (.bin 20 false .add (.t 15) (.t 19)) .unit,
  .p (.mv 4 (.t 20)) .unit])
 (.seq (.seq (.reg none [.p (.mv 5 (.c (.int .i64 0))) .unit])
 (.jl 0 ⟨[(1, false), (4, false), (5, false)], [.box (.pair (.int .i64) (.pair .str (.pair (.sl false .str) .str))), .cell .str, .cell (.int .i64)]⟩ ⟨[(1, false), (4, false)], [.box (.pair (.int .i64) (.pair .str (.pair (.sl false .str) .str))), .cell .str]⟩ B_spec_WordText_1))
 (.seq (.reg none [.p (.mv 36 (.t 4)) .unit,
  .p (.fadr 37 (.t 1) 3) .unit,
  .p (.load 38 (.t 37) 1 false) .unit,
  .p (.callB 39 n_spec_l05Short [((.t 38), 0)]) .unit,
  .p (.bin 40 false .add (.t 36) (.t 39)) .unit,
  .p (.mv 2 (.t 40)) .unit,
  .p (.mv 3 (.c (.bool true))) .unit])
 .ret))))),
 41, 1, [.t 2, .t 3]⟩
theorem m_spec_WordText : mH Tryd.prog 43 [] = some (F_spec_WordText.code.x, F_spec_WordText.N, F_spec_WordText.np, F_spec_WordText.res) := by kernel_rfl
noncomputable def T_spec_WordText : Int × List UInt8 × List (List UInt8) × List UInt8 → Option ((List UInt8) × Bool) := evF [fn_spec_WordOk, fn_spec_l05Byte, fn_spec_l05Short, fn_spec_l01Var] F_spec_WordText [.agg (.pair (.int .i64) (.pair .str (.pair (.sl false .str) .str)))] [] [.cell .str, .cell .bool] []
noncomputable def fn_spec_WordText : TFn := ⟨43, [.agg (.pair (.int .i64) (.pair .str (.pair (.sl false .str) .str)))], [], [.cell .str, .cell .bool], [], T_spec_WordText⟩
theorem ok_spec_WordText : FnOk Tryd.prog fn_spec_WordText := evF_ok mixed (allOk_cons ok_spec_WordOk (allOk_cons ok_spec_l05Byte (allOk_cons ok_spec_l05Short (allOk_cons ok_spec_l01Var allOk_nil)))) m_spec_WordText (by decide)
def B_spec_l01Text_1 : TC := (.seq (.seq (.reg none [.p (.mv 10 (.t 6)) .unit,
  .p (.mv 11 (.t 1)) .unit,
  .p (.bin 12 false .lss (.t 10) (.t 11)) .unit])
 (.cond (.t 12) .skip (.exit 0)))
 (.seq (.block 1 (.reg none [.p (.mvT 15 5) .unit,
  .p (.mvA 16 0) .unit,
  .p (.callM 17 n_spec_l01Byte [] (.ptrS (.t 16) 0) []) .unit,
  .p (.cvi 18 .u8 .i64 (.t 17)) .unit,
  .p (.bldS 19 1 [(.lit (.int .u8 0))] [⟨0, 1, (.t 18)⟩]) (.int .u8),
  .p (.app 20 1 1 (.t 15) (.t 19)) (.int .u8),
  .p (.mvT 5 20) .unit]))
 (.reg none [.p (.mv 13 (.t 6)) .unit,
  .p (.bin 14 false .add (.t 13) (.c (.int .i64 1))) .unit,
  .p (.mv 6 (.t 14)) .unit])))
noncomputable def L_spec_l01Text_1 : Nat → (List (Int) × Int × Int) × (Int) × (List (Int)) × Int → Option (((List (Int) × Int × Int) × List (Int)) ⊕ ((List UInt8) × List (Int) × Int × Int)) := evL [fn_spec_l01Byte] (finT [.t 4] [0] [.cell .str, .box (.pair (.sl false (.int .u8)) (.pair (.int .i64) (.int .i64)))]) 0 ⟨[(0, true), (1, false), (5, false), (6, false)], [.box (.pair (.sl false (.int .u8)) (.pair (.int .i64) (.int .i64))), .cell (.int .i64), .cell (.sl true (.int .u8)), .cell (.int .i64)]⟩ ⟨[(0, true), (5, false)], [.box (.pair (.sl false (.int .u8)) (.pair (.int .i64) (.int .i64))), .cell (.sl true (.int .u8))]⟩ B_spec_l01Text_1
def F_spec_l01Text : TF := ⟨(.seq (.reg none [.p (.mv 4 (.c (.string (ba [])))) .unit])
 (.seq (.join ⟨[(0, true), (1, false)], [.box (.pair (.sl false (.int .u8)) (.pair (.int .i64) (.int .i64))), .cell (.int .i64)]⟩ (.seq (.reg none [.p (.mv 7 (.t 1)) .unit,
  .p (.bin 8 false .gtr (.t 7) (.c (.int .i64 5000))) .unit])
 (.cond (.t 8) (.reg none [.p (.mv 1 (.c (.int .i64 5000))) .unit]) .skip)))
 (.seq (.reg none [.p (.bldS 9 0 [(.lit (.int .u8 0))] []) (.int .u8),
  .p (.mvT 5 9) .unit])
 (.seq (.seq (.reg none [.p (.mv 6 (.c (.int .i64 0))) .unit])
 (.jl 0 ⟨[(0, true), (1, false), (5, false), (6, false)], [.box (.pair (.sl false (.int .u8)) (.pair (.int .i64) (.int .i64))), .cell (.int .i64), .cell (.sl true (.int .u8)), .cell (.int .i64)]⟩ ⟨[(0, true), (5, false)], [.box (.pair (.sl false (.int .u8)) (.pair (.int .i64) (.int .i64))), .cell (.sl true (.int .u8))]⟩ B_spec_l01Text_1))
 (.seq (.reg none [.p (.mvT 21 5) .unit,
  .p (.b2s 22 (.t 21)) .unit,
  .p (.mv 4 (.t 22)) .unit])
 .ret))))),
 23, 2, [.t 4]⟩
theorem m_spec_l01Text : mH Tryd.prog 125 [(3, 1, .t), (7, 0, .t), (7, 1, .v), (7, 2, (.ps 0 0)), (7, 6, .t), (8, 0, .t)] = some (F_spec_l01Text.code.x, F_spec_l01Text.N, F_spec_l01Text.np, F_spec_l01Text.res) := by kernel_rfl
noncomputable def T_spec_l01Text : (List (Int) × Int × Int) × Int → Option ((List UInt8) × List (Int) × Int × Int) := evF [fn_spec_l01Byte] F_spec_l01Text [.box (.pair (.sl false (.int .u8)) (.pair (.int .i64) (.int .i64))), .cell (.int .i64)] [0] [.cell .str] [.box (.pair (.sl false (.int .u8)) (.pair (.int .i64) (.int .i64)))]
noncomputable def fn_spec_l01Text : TFn := ⟨125, [.box (.pair (.sl false (.int .u8)) (.pair (.int .i64) (.int .i64))), .cell (.int .i64)], [0], [.cell .str], [.box (.pair (.sl false (.int .u8)) (.pair (.int .i64) (.int .i64)))], T_spec_l01Text⟩
theorem ok_spec_l01Text : FnOk Tryd.prog fn_spec_l01Text := evF_ok mixed (allOk_cons ok_spec_l01Byte allOk_nil) m_spec_l01Text (by decide)
def F_spec_l02Spoilt : TF := ⟨(.seq (.reg none [.p (.mv 4 (.c (.string (ba [])))) .unit])
 (.seq (.join ⟨[(0, true), (1, true)], [.box (.pair (.sl false (.int .u8)) (.pair (.int .i64) (.int .i64))), .cell .str]⟩ (.seq (.reg none [.p (.mvA 6 0) .unit,
  .p (.callM 7 n_spec_l01Below [] (.ptrS (.t 6) 0) [((.c (.int .i64 12)), 0)]) .unit])
 (.block 0 (.seq (.reg none [.p (.bin 9 false .eql (.t 7) (.c (.int .i64 0))) .unit,
  .p (.mv 8 (.t 9)) .unit])
 (.cond (.t 8) (.seq (.reg none [.p (.mv 10 (.t 1)) .unit,
  .p (.mvA 11 0) .unit,
  .p (.callM 12 n_spec_l01Text [] (.ptrS (.t 11) 0) [((.c (.int .i64 1)), 0)]) .unit,
  .p (.bin 13 false .add (.t 10) (.t 12)) .unit,
  .p (.mv 4 (.t 13)) .unit])
 .ret) (.seq (.reg none [.p (.bin 15 false .eql (.t 7) (.c (.int .i64 1))) .unit,
  .p (.mv 14 (.t 15)) .unit])
 (.cond (.t 14) (.seq (.reg none [.p (.mv 16 (.t 1)) .unit,
  .p (.mvA 17 0) .unit,
  .p (.mv 18 (.t 1)) .unit,
  .p (.lenS 19 (.t 18)) .unit,
  .p (.bin 20 false .add (.t 19) (.c (.int .i64 1))) .unit,
  .p (.callM 21 n_spec_l01Below [] (.ptrS (.t 17) 0) [((.t 20), 0)]) .unit,
  .p (.slcS 22 (.t 16) none (some (.t 21))) .unit,
  .p (.mv 4 (.t 22)) .unit])
 .ret) (.seq (.join ⟨[(0, true), (1, true), (23, false)], [.box (.pair (.sl false (.int .u8)) (.pair (.int .i64) (.int .i64))), .cell .str, .cell .bool]⟩ (.seq (.reg none [.p (.bin 24 false .eql (.t 7) (.c (.int .i64 2))) .unit,
  .p (.mv 23 (.t 24)) .unit])
 (.cond (.t 23) .skip (.reg none [.p (.bin 25 false .eql (.t 7) (.c (.int .i64 3))) .unit,
  .p (.mv 23 (.t 25)) .unit]))))
 (.cond (.t 23) (.seq (.reg none [.p (.mv 26 (.t 1)) .unit,
  .p (.lenS 27 (.t 26)) .unit,
  .p (.bin 28 false .gtr (.t 27) (.c (.int .i64 0))) .unit])
 (.cond (.t 28) (.seq (.reg none [.p (.mvA 29 0) .unit,
  .p (.mv 30 (.t 1)) .unit,
  .p (.lenS 31 (.t 30)) .unit,
  .p (.callM 32 n_spec_l01Below [] (.ptrS (.t 29) 0) [((.t 31), 0)]) .unit,
  .p (.mv 5 (.t 32)) .unit])
 (.seq (.reg (some [[], [], [0, 1], [], [3], [2, 4], [], [], [7], [6, 8], [5, 9], [10, 4, 0, 1, 2, 3, 4, 5, 6, 7, 8, 9, 10]]) [.p (.mv 33 (.t 1)) .unit,
  .p (.mv 34 (.t 5)) .unit,
  .p (.slcS 35 (.t 33) none (some (.t 34))) .unit,
  .p (.mvA 36 0) .unit,
  .p (.callM 37 n_spec_l01Text [] (.ptrS (.t 36) 0) [((.c (.int .i64 1)), 0)]) .unit,
  .p (.bin 38 false .add (.t 35) (.t 37)) .unit,
  .p (.mv 39 (.t 1)) .unit,
  .p (.mv 40 (.t 5)) .unit,
  .p (.bin 41 false .add (.t 40) (.c (.int .i64 1))) .unit,
  .p (.slcS 42 (.t 39) (some (.t 41)) none) .unit,
  .p (.bin 43 false .add (.t 38) (.t 42)) .unit,
  .p (.mv 4 (.t 43)) .unit])
 .ret)) .skip)) .skip)))))))))
 (.seq (.reg none [.p (.mv 44 (.t 1)) .unit,
  .p (.mv 4 (.t 44)) .unit])
 .ret))),
 45, 2, [.t 4]⟩
theorem m_spec_l02Spoilt : mH Tryd.prog 77 [(1, 0, .v), (1, 1, (.ps 0 0)), (3, 1, .v), (3, 2, (.ps 0 0)), (5, 1, .v), (5, 5, (.ps 0 0)), (9, 0, .v), (9, 3, (.ps 0 0)), (10, 3, .v), (10, 4, (.ps 0 0))] = some (F_spec_l02Spoilt.code.x, F_spec_l02Spoilt.N, F_spec_l02Spoilt.np, F_spec_l02Spoilt.res) := by kernel_rfl
noncomputable def T_spec_l02Spoilt : (List (Int) × Int × Int) × List UInt8 → Option ((List UInt8) × List (Int) × Int × Int) := evF [fn_spec_l01Below, fn_spec_l01Text] F_spec_l02Spoilt [.box (.pair (.sl false (.int .u8)) (.pair (.int .i64) (.int .i64))), .cell .str] [0] [.cell .str] [.box (.pair (.sl false (.int .u8)) (.pair (.int .i64) (.int .i64)))]
noncomputable def fn_spec_l02Spoilt : TFn := ⟨77, [.box (.pair (.sl false (.int .u8)) (.pair (.int .i64) (.int .i64))), .cell .str], [0], [.cell .str], [.box (.pair (.sl false (.int .u8)) (.pair (.int .i64) (.int .i64)))], T_spec_l02Spoilt⟩
theorem ok_spec_l02Spoilt : FnOk Tryd.prog fn_spec_l02Spoilt := evF_ok mixed (allOk_cons ok_spec_l01Below (allOk_cons ok_spec_l01Text allOk_nil)) m_spec_l02Spoilt (by decide)
def F_spec_DrawReadWord : TF := ⟨(.seq (.reg none [.p (.mv 2 (.c (.string (ba [])))) .unit])
 (.seq (.reg none [.p (.mv 6 (.t 0)) .unit,
  .p (.callS 7 n_spec_l01New [(.t 6)]) .unit,
  .p (.mvT 3 7) .unit])
 (.seq (.reg none [.p (.mvA 9 3) .unit,
  .p (.callM 10 n_spec_l17AnyWord [] (.ptrS (.t 9) 3) []) .unit,
  .p (.callB 11 n_spec_WordText [((.t 10), 0)]) .unit,
  .p (.mv 8 (.t 11)) .unit,
  .p (.ext 12 (.t 8) 0) .unit,
  .p (.ext 13 (.t 8) 1) .unit,
  .p (.mv 4 (.t 12)) .unit,
  .p (.mv 5 (.t 13)) .unit])
 (.seq (.reg none [.p (.mvT 14 3) .unit,
  .p (.mv 15 (.t 4)) .unit,
  .p (.callM 16 n_spec_l02Spoilt [] (.tmpS 14) [((.t 15), 0)]) .unit,
  .p (.mv 2 (.t 16)) .unit])
 .ret)))),
 17, 1, [.t 2]⟩
theorem m_spec_DrawReadWord : mH Tryd.prog 29 [(1, 1, .z), (1, 2, .t), (2, 0, .v), (2, 1, (.ps 0 3)), (3, 0, .t), (3, 2, (.ms 0))] = some (F_spec_DrawReadWord.code.x, F_spec_DrawReadWord.N, F_spec_DrawReadWord.np, F_spec_DrawReadWord.res) := by kernel_rfl
noncomputable def T_spec_DrawReadWord : List (Int) → Option (List UInt8) := evF [fn_spec_l01New, fn_spec_l17AnyWord, fn_spec_WordText, fn_spec_l02Spoilt] F_spec_DrawReadWord [.cell (.sl false (.int .u8))] [] [.cell .str] []
noncomputable def fn_spec_DrawReadWord : TFn := ⟨29, [.cell (.sl false (.int .u8))], [], [.cell .str], [], T_spec_DrawReadWord⟩
theorem ok_spec_DrawReadWord : FnOk Tryd.prog fn_spec_DrawReadWord := evF_ok mixed (allOk_cons ok_spec_l01New (allOk_cons ok_spec_l17AnyWord (allOk_cons ok_spec_WordText (allOk_cons ok_spec_l02Spoilt allOk_nil)))) m_spec_DrawReadWord (by decide)
def F_spec_l05Take : TF := ⟨(.seq (.reg none [.p (.mv 4 (.c (.string (ba [])))) .unit])
 (.seq (.seq (.join ⟨[(0, true), (1, true), (22, false)], [.box (.pair .str (.pair (.int .i64) .bool)), .cell (.int .i64), .cell .bool]⟩ (.reg (some [[], [0], [1], [2], [3], [4], [4], [6, 4], [7, 4], [8, 4], [9, 4], [4], [11, 4], [12, 4], [13, 4], [10, 14, 4], [5, 15, 4], [4, 16]]) [.p (.mvA 5 0) .unit,
  .p (.nilck 6 (.t 5)) .unit,
  .p (.fadr 7 (.t 6) 2) .unit,
  .p (.load 8 (.t 7) 1 false) .unit,
  .p (.mv 9 (.t 8)) .unit,
  .g 9 false (some 10) (.mv 10 (.t 1)) .unit,
  .g 9 false (some 11) (.mvA 11 0) .unit,
  .g 9 false (some 12) (.nilck 12 (.t 11)) .unit,
  .g 9 false (some 13) (.fadr 13 (.t 12) 0) .unit,
  .g 9 false (some 14) (.load 14 (.t 13) 1 false) .unit,
  .g 9 false (some 15) (.lenS 15 (.t 14)) .unit,
  .g 9 false (some 16) (.mvA 16 0) .unit,
  .g 9 false (some 17) (.nilck 17 (.t 16)) .unit,
  .g 9 false (some 18) (.fadr 18 (.t 17) 1) .unit,
  .g 9 false (some 19) (.load 19 (.t 18) 1 false) .unit,
  .g 9 false (some 20) (.bin 20 false .sub (.t 15) (.t 19)) .unit,
  .g 9 false (some 21) (.bin 21 false .gtr (.t 10) (.t 20)) .unit,
  .p (.pick 22 (.t 9) (.c (.bool true)) (.t 21)) .unit]))
 (.cond (.t 22) (.seq (.reg none [.p (.mvA 23 0) .unit,
  .p (.nilck 24 (.t 23)) .unit,
  .p (.fadr 25 (.t 24) 2) .unit,
  .p (.store (.t 25) (.c (.bool true)) 1) .unit])
 (.seq (.reg none [.p (.mv 4 (.c (.string (ba [])))) .unit])
 .ret)) .skip))
 (.seq (.reg none [.p (.mvA 26 0) .unit,
  .p (.mvA 27 0) .unit,
  .p (.nilck 28 (.t 27)) .unit,
  .p (.fadr 29 (.t 28) 1) .unit,
  .p (.load 30 (.t 29) 1 false) .unit,
  .p (.mv 31 (.t 1)) .unit,
  .p (.bin 32 false .add (.t 30) (.t 31)) .unit,
  .p (.nilck 33 (.t 26)) .unit,
  .p (.fadr 34 (.t 33) 1) .unit,
  .p (.store (.t 34) (.t 32) 1) .unit])
 (.seq (.reg (some [[], [0], [1], [2], [], [4], [5], [6], [], [7, 8], [], [10], [11], [12], [3, 9, 13], [14, 0, 1, 2, 3, 4, 5, 6, 7, 8, 9, 10, 11, 12, 13, 14]]) [.p (.mvA 35 0) .unit,
  .p (.nilck 36 (.t 35)) .unit,
  .p (.fadr 37 (.t 36) 0) .unit,
  .p (.load 38 (.t 37) 1 false) .unit,
  .p (.mvA 39 0) .unit,
  .p (.nilck 40 (.t 39)) .unit,
  .p (.fadr 41 (.t 40) 1) .unit,
  .p (.load 42 (.t 41) 1 false) .unit,
  .p (.mv 43 (.t 1)) .unit,
  .p (.bin 44 false .sub (.t 42) (.t 43)) .unit,
  .p (.mvA 45 0) .unit,
  .p (.nilck 46 (.t 45)) .unit,
  .p (.fadr 47 (.t 46) 1) .unit,
  .p (.load 48 (.t 47) 1 false) .unit,
  .p (.slcS 49 (.t 38) (some (.t 44)) (some (.t 48))) .unit,
  .p (.mv 4 (.t 49)) .unit])
 .ret)))),
 50, 2, [.t 4]⟩
theorem m_spec_l05Take : mH Tryd.prog 96 [(1, 0, .v), (1, 6, .v), (1, 11, .v), (2, 0, .v), (4, 0, .v), (4, 1, .v), (5, 0, .v), (5, 4, .v), (5, 10, .v)] = some (F_spec_l05Take.code.x, F_spec_l05Take.N, F_spec_l05Take.np, F_spec_l05Take.res) := by kernel_rfl
noncomputable def T_spec_l05Take : (List UInt8 × Int × Bool) × Int → Option ((List UInt8) × List UInt8 × Int × Bool) := evF [] F_spec_l05Take [.box (.pair .str (.pair (.int .i64) .bool)), .cell (.int .i64)] [0] [.cell .str] [.box (.pair .str (.pair (.int .i64) .bool))]
noncomputable def fn_spec_l05Take : TFn := ⟨96, [.box (.pair .str (.pair (.int .i64) .bool)), .cell (.int .i64)], [0], [.cell .str], [.box (.pair .str (.pair (.int .i64) .bool))], T_spec_l05Take⟩
theorem ok_spec_l05Take : FnOk Tryd.prog fn_spec_l05Take := evF_ok mixed allOk_nil m_spec_l05Take (by decide)
def F_spec_l05One : TF := ⟨(.seq (.reg none [.p (.mv 2 (.c (.int .i64 0))) .unit])
 (.seq (.reg none [.p (.mvA 4 0) .unit,
  .p (.callM 5 n_spec_l05Take [] (.ptr (.t 4) 0) [((.c (.int .i64 1)), 0)]) .unit,
  .p (.mv 3 (.t 5)) .unit])
 (.seq (.seq (.reg none [.p (.mvA 6 0) .unit,
  .p (.nilck 7 (.t 6)) .unit,
  .p (.fadr 8 (.t 7) 2) .unit,
  .p (.load 9 (.t 8) 1 false) .unit])
 (.cond (.t 9) (.seq (.reg none [.p (.mv 2 (.c (.int .i64 0))) .unit])
 .ret) .skip))
 (.seq (.reg none [.p (.mv 10 (.t 3)) .unit,
  .p (.idx 11 (.t 10) (.c (.int .i64 0))) .unit,
  .p (.cvi 12 .i64 .u8 (.t 11)) .unit,
  .p (.mv 2 (.t 12)) .unit])
 .ret)))),
 13, 1, [.t 2]⟩
theorem m_spec_l05One : mH Tryd.prog 40 [(1, 0, .v), (1, 1, (.p 0 0)), (2, 0, .v)] = some (F_spec_l05One.code.x, F_spec_l05One.N, F_spec_l05One.np, F_spec_l05One.res) := by kernel_rfl
noncomputable def T_spec_l05One : List UInt8 × Int × Bool → Option ((Int) × List UInt8 × Int × Bool) := evF [fn_spec_l05Take] F_spec_l05One [.box (.pair .str (.pair (.int .i64) .bool))] [0] [.cell (.int .i64)] [.box (.pair .str (.pair (.int .i64) .bool))]
noncomputable def fn_spec_l05One : TFn := ⟨40, [.box (.pair .str (.pair (.int .i64) .bool))], [0], [.cell (.int .i64)], [.box (.pair .str (.pair (.int .i64) .bool))], T_spec_l05One⟩
theorem ok_spec_l05One : FnOk Tryd.prog fn_spec_l05One := evF_ok mixed (allOk_cons ok_spec_l05Take allOk_nil) m_spec_l05One (by decide)
def B_spec_ReadVar_1 : TC := (.seq (.seq (.join ⟨[(0, true), (1, true), (7, false), (8, false), (9, false), (25, false)], [.cell .str, .cell (.int .i64), .cell (.int .i64), .cell (.int .i64), .cell (.int .i64), .cell .bool]⟩ (.reg none [.p (.mv 16 (.t 9)) .unit,
  .p (.mv 17 (.t 0)) .unit,
  .p (.lenS 18 (.t 17)) .unit,
  .p (.bin 19 false .lss (.t 16) (.t 18)) .unit,
  .p (.mv 20 (.t 19)) .unit,
  .g 20 true (some 21) (.mv 21 (.t 9)) .unit,
  .g 20 true (some 22) (.mv 22 (.t 1)) .unit,
  .g 20 true (some 23) (.bin 23 false .add (.t 22) (.c (.int .i64 5))) .unit,
  .g 20 true (some 24) (.bin 24 false .lss (.t 21) (.t 23)) .unit,
  .p (.pick 25 (.t 20) (.t 24) (.c (.bool false))) .unit]))
 (.cond (.t 25) .skip (.exit 0)))
 (.seq (.block 1 (.seq (.reg none [.p (.mv 28 (.t 7)) .unit,
  .p (.mv 29 (.t 0)) .unit,
  .p (.mv 30 (.t 9)) .unit,
  .p (.idx 31 (.t 29) (.t 30)) .unit,
  .p (.cvi 32 .i64 .u8 (.t 31)) .unit,
  .p (.bin 33 false .rem (.t 32) (.c (.int .i64 128))) .unit,
  .p (.mv 34 (.t 8)) .unit,
  .p (.bin 35 false .mul (.t 33) (.t 34)) .unit,
  .p (.bin 36 false .add (.t 28) (.t 35)) .unit,
  .p (.mv 7 (.t 36)) .unit])
 (.seq (.reg none [.p (.mv 37 (.t 8)) .unit,
  .p (.bin 38 false .mul (.t 37) (.c (.int .i64 128))) .unit,
  .p (.mv 8 (.t 38)) .unit])
 (.seq (.reg none [.p (.mv 39 (.t 0)) .unit,
  .p (.mv 40 (.t 9)) .unit,
  .p (.idx 41 (.t 39) (.t 40)) .unit,
  .p (.bin 42 false .lss (.t 41) (.c (.int .u8 128))) .unit])
 (.cond (.t 42) (.seq (.seq (.join ⟨[(7, false), (9, false), (54, false)], [.cell (.int .i64), .cell (.int .i64), .cell .bool]⟩ (.reg (some [[], [0], [1], [2], [3, 2, 2], [2], [2], [2], [7, 2], [5, 6, 8, 2], [4, 9, 2], [2, 10]]) [.p (.mv 43 (.t 7)) .unit,
  .p (.bin 44 false .gtr (.t 43) (.c (.int .i64 1000000000))) .unit,
  .p (.mv 45 (.t 44)) .unit,
  .g 45 false (some 46) (.mv 46 (.t 7)) .unit,
  .g 45 false (some 47) (.callB 47 n_spec_l01Var [((.t 46), 0)]) .unit,
  .g 45 false (some 48) (.mv 48 (.t 0)) .unit,
  .g 45 false (some 49) (.mv 49 (.t 1)) .unit,
  .g 45 false (some 50) (.mv 50 (.t 9)) .unit,
  .g 45 false (some 51) (.bin 51 false .add (.t 50) (.c (.int .i64 1))) .unit,
  .g 45 false (some 52) (.slcS 52 (.t 48) (some (.t 49)) (some (.t 51))) .unit,
  .g 45 false (some 53) (.bin 53 false .neq (.t 47) (.t 52)) .unit,
  .p (.pick 54 (.t 45) (.c (.bool true)) (.t 53)) .unit]))
 (.cond (.t 54) (.seq (.reg none [.p (.mv 4 (.c (.int .i64 0))) .unit,
  .p (.mv 5 (.c (.int .i64 0))) .unit,
  .p (.mv 6 (.c (.bool false))) .unit])
 .ret) .skip))
 (.seq (.reg none [.p (.mv 55 (.t 7)) .unit,
  .p (.mv 56 (.t 9)) .unit,
  .p (.bin 57 false .add (.t 56) (.c (.int .i64 1))) .unit,
  .p (.mv 4 (.t 55)) .unit,
  .p (.mv 5 (.t 57)) .unit,
  .p (.mv 6 (.c (.bool true))) .unit])
 .ret)) .skip)))))
 (.reg none [.p (.mv 26 (.t 9)) .unit,
  .p (.bin 27 false .add (.t 26) (.c (.int .i64 1))) .unit,
  .p (.mv 9 (.t 27)) .unit])))
noncomputable def L_spec_ReadVar_1 : Nat → (List UInt8) × (Int) × (Int) × (Int) × Int → Option ((Unit) ⊕ ((Int) × (Int) × Bool)) := evL [fn_spec_l01In, fn_spec_l01Var] (finT [.t 4, .t 5, .t 6] [] [.cell (.int .i64), .cell (.int .i64), .cell .bool]) 0 ⟨[(0, true), (1, true), (7, false), (8, false), (9, false)], [.cell .str, .cell (.int .i64), .cell (.int .i64), .cell (.int .i64), .cell (.int .i64)]⟩ ⟨[], []⟩ B_spec_ReadVar_1
def F_spec_ReadVar : TF := ⟨(.seq (.reg none [.p (.mv 4 (.c (.int .i64 0))) .unit,
  .p (.mv 5 (.c (.int .i64 0))) .unit,
  .p (.mv 6 (.c (.bool false))) .unit])
 (.seq (.seq (.reg none [.p (.mv 10 (.t 1)) .unit,
  .p (.mv 11 (.t 0)) .unit,
  .p (.lenS 12 (.t 11)) .unit,
  .p (.callB 13 n_spec_l01In [((.t 10), 0), ((.c (.int .i64 0)), 0), ((.t 12), 0)]) .unit,
  .p (.un 14 .not (.t 13)) .unit])
 (.cond (.t 14) (.seq (.reg none [.p (.mv 4 (.c (.int .i64 0))) .unit,
  .p (.mv 5 (.c (.int .i64 0))) .unit,
  .p (.mv 6 (.c (.bool false))) .unit])
 .ret) .skip))
 (.seq (.reg none [.p (.mv 7 (.c (.int .i64 0))) .unit])
 (.seq (.reg none [.p (.mv 8 (.c (.int .i64 1))) .unit])
 (.seq (.seq (.reg none [.p (.mv 15 (.t 1)) .unit,
  .p (.mv 9 (.t 15)) .unit])
 (.jl 0 ⟨[(0, true), (1, true), (7, false), (8, false), (9, false)], [.cell .str, .cell (.int .i64), .cell (.int .i64), .cell (.int .i64), .cell (.int .i64)]⟩ ⟨[], []⟩ B_spec_ReadVar_1))
 (.seq (.reg none [.p (.mv 4 (.c (.int .i64 0))) .unit,
  .p (.mv 5 (.c (.int .i64 0))) .unit,
  .p (.mv 6 (.c (.bool false))) .unit])
 .ret)))))),
 58, 2, [.t 4, .t 5, .t 6]⟩
theorem m_spec_ReadVar : mH Tryd.prog 97 [] = some (F_spec_ReadVar.code.x, F_spec_ReadVar.N, F_spec_ReadVar.np, F_spec_ReadVar.res) := by kernel_rfl
noncomputable def T_spec_ReadVar : (List UInt8) × Int → Option ((Int) × (Int) × Bool) := evF [fn_spec_l01In, fn_spec_l01Var] F_spec_ReadVar [.cell .str, .cell (.int .i64)] [] [.cell (.int .i64), .cell (.int .i64), .cell .bool] []
noncomputable def fn_spec_ReadVar : TFn := ⟨97, [.cell .str, .cell (.int .i64)], [], [.cell (.int .i64), .cell (.int .i64), .cell .bool], [], T_spec_ReadVar⟩
theorem ok_spec_ReadVar : FnOk Tryd.prog fn_spec_ReadVar := evF_ok mixed (allOk_cons ok_spec_l01In (allOk_cons ok_spec_l01Var allOk_nil)) m_spec_ReadVar (by decide)
def F_spec_l05Var : TF := ⟨(.seq (.reg none [.p (.mv 2 (.c (.int .i64 0))) .unit])
 (.seq (.reg (some [[], [0], [1], [2], [], [4], [5], [6], [3, 7], [8], [9], [9], [9], [10, 8, 0, 1, 2, 3, 4, 5, 6, 7, 8, 9, 10], [11, 13, 0, 1, 2, 3, 4, 5, 6, 7, 8, 9, 10, 11, 13], [12, 14, 0, 1, 2, 3, 4, 5, 6, 7, 8, 9, 10, 11, 12, 13, 14]]) [.p (.mvA 7 0) .unit,
  .p (.nilck 8 (.t 7)) .unit,
  .p (.fadr 9 (.t 8) 0) .unit,
  .p (.load 10 (.t 9) 1 false) .unit,
  .p (.mvA 11 0) .unit,
  .p (.nilck 12 (.t 11)) .unit,
  .p (.fadr 13 (.t 12) 1) .unit,
  .p (.load 14 (.t 13) 1 false) .unit,
  .p (.callB 15 n_spec_ReadVar [((.t 10), 0), ((.t 14), 0)]) .unit,
  .p (.mv 6 (.t 15)) .unit,
  .p (.ext 16 (.t 6) 0) .unit,
  .p (.ext 17 (.t 6) 1) .unit,
  .p (.ext 18 (.t 6) 2) .unit,
  .p (.mv 3 (.t 16)) .unit,
  .p (.mv 4 (.t 17)) .unit,
  .p (.mv 5 (.t 18)) .unit])
 (.seq (.seq (.join ⟨[(0, true), (3, false), (4, false), (26, false)], [.box (.pair .str (.pair (.int .i64) .bool)), .cell (.int .i64), .cell (.int .i64), .cell .bool]⟩ (.reg none [.p (.mvA 19 0) .unit,
  .p (.nilck 20 (.t 19)) .unit,
  .p (.fadr 21 (.t 20) 2) .unit,
  .p (.load 22 (.t 21) 1 false) .unit,
  .p (.mv 23 (.t 22)) .unit,
  .g 23 false (some 24) (.mv 24 (.t 5)) .unit,
  .g 23 false (some 25) (.un 25 .not (.t 24)) .unit,
  .p (.pick 26 (.t 23) (.c (.bool true)) (.t 25)) .unit]))
 (.cond (.t 26) (.seq (.reg none [.p (.mvA 27 0) .unit,
  .p (.nilck 28 (.t 27)) .unit,
  .p (.fadr 29 (.t 28) 2) .unit,
  .p (.store (.t 29) (.c (.bool true)) 1) .unit])
 (.seq (.reg none [.p (.mv 2 (.c (.int .i64 0))) .unit])
 .ret)) .skip))
 (.seq (.reg none [.p (.mvA 30 0) .unit,
  .p (.mv 31 (.t 4)) .unit,
  .p (.nilck 32 (.t 30)) .unit,
  .p (.fadr 33 (.t 32) 1) .unit,
  .p (.store (.t 33) (.t 31) 1) .unit])
 (.seq (.reg none [.p (.mv 34 (.t 3)) .unit,
  .p (.mv 2 (.t 34)) .unit])
 .ret))))),
 35, 1, [.t 2]⟩
theorem m_spec_l05Var : mH Tryd.prog 42 [(1, 0, .v), (1, 4, .v), (2, 0, .v), (3, 0, .v), (5, 0, .v)] = some (F_spec_l05Var.code.x, F_spec_l05Var.N, F_spec_l05Var.np, F_spec_l05Var.res) := by kernel_rfl
noncomputable def T_spec_l05Var : List UInt8 × Int × Bool → Option ((Int) × List UInt8 × Int × Bool) := evF [fn_spec_ReadVar] F_spec_l05Var [.box (.pair .str (.pair (.int .i64) .bool))] [0] [.cell (.int .i64)] [.box (.pair .str (.pair (.int .i64) .bool))]
noncomputable def fn_spec_l05Var : TFn := ⟨42, [.box (.pair .str (.pair (.int .i64) .bool))], [0], [.cell (.int .i64)], [.box (.pair .str (.pair (.int .i64) .bool))], T_spec_l05Var⟩
theorem ok_spec_l05Var : FnOk Tryd.prog fn_spec_l05Var := evF_ok mixed (allOk_cons ok_spec_ReadVar allOk_nil) m_spec_l05Var (by decide)
def F_spec_l05ReadShort : TF := ⟨(.seq (.reg none [.p (.mv 2 (.c (.string (ba [])))) .unit])
 (.seq (.reg none [.p (.mvA 4 0) .unit,
  .p (.callM 5 n_spec_l05Var [] (.ptr (.t 4) 0) []) .unit,
  .p (.mv 3 (.t 5)) .unit])
 (.seq (.reg none [.p (.mvA 6 0) .unit,
  .p (.mv 7 (.t 3)) .unit,
  .p (.callM 8 n_spec_l05Take [] (.ptr (.t 6) 0) [((.t 7), 0)]) .unit,
  .p (.mv 2 (.t 8)) .unit])
 .ret))),
 9, 1, [.t 2]⟩
theorem m_spec_l05ReadShort : mH Tryd.prog 41 [(1, 0, .v), (1, 1, (.p 0 0)), (2, 0, .v), (2, 2, (.p 0 0))] = some (F_spec_l05ReadShort.code.x, F_spec_l05ReadShort.N, F_spec_l05ReadShort.np, F_spec_l05ReadShort.res) := by kernel_rfl
noncomputable def T_spec_l05ReadShort : List UInt8 × Int × Bool → Option ((List UInt8) × List UInt8 × Int × Bool) := evF [fn_spec_l05Var, fn_spec_l05Take] F_spec_l05ReadShort [.box (.pair .str (.pair (.int .i64) .bool))] [0] [.cell .str] [.box (.pair .str (.pair (.int .i64) .bool))]
noncomputable def fn_spec_l05ReadShort : TFn := ⟨41, [.box (.pair .str (.pair (.int .i64) .bool))], [0], [.cell .str], [.box (.pair .str (.pair (.int .i64) .bool))], T_spec_l05ReadShort⟩
theorem ok_spec_l05ReadShort : FnOk Tryd.prog fn_spec_l05ReadShort := evF_ok mixed (allOk_cons ok_spec_l05Var (allOk_cons ok_spec_l05Take allOk_nil)) m_spec_l05ReadShort (by decide)
def B_spec_ReadWord_1 : TC := (.seq (.seq (.join ⟨[(0, true), (2, false), (4, false), (5, false), (6, false), (7, false), (34, false)], [.cell .str, .box (.pair (.int .i64) (.pair .str (.pair (.sl true .str) .str))), .box (.pair .str (.pair (.int .i64) .bool)), .box (.pair (.int .i64) (.pair .str (.pair (.sl true .str) .str))), .cell (.int .i64), .cell (.int .i64), .cell .bool]⟩ (.reg none [.p (.mv 21 (.t 7)) .unit,
  .p (.mv 22 (.t 6)) .unit,
  .p (.bin 23 false .lss (.t 21) (.t 22)) .unit,
  .p (.mv 24 (.t 23)) .unit,
  .g 24 true (some 25) (.mv 25 (.t 7)) .unit,
  .g 24 true (some 26) (.bin 26 false .lss (.t 25) (.c (.int .i64 20))) .unit,
  .p (.pick 27 (.t 24) (.t 26) (.c (.bool false))) .unit,
  .p (.mv 28 (.t 27)) .unit,
  .g 28 true (some 29) (.mvA 29 4) .unit,
  .g 28 true (some 30) (.nilck 30 (.t 29)) .unit,
  .g 28 true (some 31) (.fadr 31 (.t 30) 2) .unit,
  .g 28 true (some 32) (.load 32 (.t 31) 1 false) .unit,
  .g 28 true (some 33) (.un 33 .not (.t 32)) .unit,
  .p (.pick 34 (.t 28) (.t 33) (.c (.bool false))) .unit]))
 (.cond (.t 34) .skip (.exit 0)))
 (.seq (.block 1 (.reg (some [[], [0], [], [2], [3], [1, 4, 3], [0, 1, 2, 3, 4, 5], [6, 5, 5, 0, 1, 2, 3, 4, 5]]) [.p (.fadr 37 (.t 5) 2) .unit,
  .p (.load 38 (.t 37) 1 false) .unit,
  .p (.mvA 39 4) .unit,
  .p (.callM 40 n_spec_l05ReadShort [] (.ptr (.t 39) 4) []) .unit,
  .p (.bldS 41 1 [(.lit (.string (ba [])))] [⟨0, 1, (.t 40)⟩]) .str,
  .p (.appC 42 1 16 38 (.t 41) false) .str,
  .p (.fadr 43 (.t 5) 2) .unit,
  .p (.storeT (.t 43) 42 1) .unit]))
 (.reg none [.p (.mv 35 (.t 7)) .unit,
  .p (.bin 36 false .add (.t 35) (.c (.int .i64 1))) .unit,
  .p (.mv 7 (.t 36)) .unit])))
noncomputable def L_spec_ReadWord_1 : Nat → (List UInt8) × (Int × List UInt8 × List (List UInt8) × List UInt8) × (List UInt8 × Int × Bool) × (Int × List UInt8 × List (List UInt8) × List UInt8) × (Int) × Int → Option (((List UInt8) × (Int × List UInt8 × List (List UInt8) × List UInt8) × (List UInt8 × Int × Bool) × Int × List UInt8 × List (List UInt8) × List UInt8) ⊕ ((Int × List UInt8 × List (List UInt8) × List UInt8) × Bool)) := evL [fn_spec_l05One, fn_spec_l05ReadShort, fn_spec_l05Var, fn_spec_WordText] (finT [.c 2 4 true, .t 3] [] [.agg (.pair (.int .i64) (.pair .str (.pair (.sl true .str) .str))), .cell .bool]) 0 ⟨[(0, true), (2, false), (4, false), (5, false), (6, false), (7, false)], [.cell .str, .box (.pair (.int .i64) (.pair .str (.pair (.sl true .str) .str))), .box (.pair .str (.pair (.int .i64) .bool)), .box (.pair (.int .i64) (.pair .str (.pair (.sl true .str) .str))), .cell (.int .i64), .cell (.int .i64)]⟩ ⟨[(0, true), (2, false), (4, false), (5, false)], [.cell .str, .box (.pair (.int .i64) (.pair .str (.pair (.sl true .str) .str))), .box (.pair .str (.pair (.int .i64) .bool)), .box (.pair (.int .i64) (.pair .str (.pair (.sl true .str) .str)))]⟩ B_spec_ReadWord_1
def F_spec_ReadWord : TF := ⟨(.seq (.reg none [.p (.alloc 2 [(.lit (.int .i64 0)), (.lit (.string (ba []))), (.sl true 1 []), (.lit (.string (ba [])))]) .unit,
  .p (.mv 3 (.c (.bool false))) .unit])
 (.seq (.reg none [.p (.mv 10 (.t 0)) .unit,
  .p (.bld 11 [(.lit (.string (ba []))), (.lit (.int .i64 0)), (.lit (.bool false))] [⟨0, 1, (.t 10)⟩]) .unit,
  .p (.box 12 (.t 11)) .unit,
  .p (.mvT 4 12) .unit])
 (.seq (.reg none [.p (.mvA 13 4) .unit,
  .p (.callM 14 n_spec_l05One [] (.ptr (.t 13) 4) []) .unit,
  .p (.bld 15 [(.lit (.int .i64 0)), (.lit (.string (ba []))), (.sl true 1 []), (.lit (.string (ba [])))] [⟨0, 1, (.t 14)⟩]) .unit,
  .p (.alloc 5 [(.lit (.int .i64 0)), (.lit (.string (ba []))), (.sl true 1 []), (.lit (.string (ba [])))]) .unit,
  .p (.storeT (.t 5) 15 4) .unit])
 (.seq (.reg none [.p (.mvA 16 4) .unit,
  .p (.callM 17 n_spec_l05ReadShort [] (.ptr (.t 16) 4) []) .unit,
  .p (.fadr 18 (.t 5) 1) .unit,
  .p (.store (.t 18) (.t 17) 1) .unit])
 (.seq (.reg none [.p (.mvA 19 4) .unit,
  .p (.callM 20 n_spec_l05Var [] (.ptr (.t 19) 4) []) .unit,
  .p (.mv 6 (.t 20)) .unit])
 (.seq (.seq (.reg none [.p (.mv 7 (.c (.int .i64 0))) .unit])
 (.jl 0 ⟨[(0, true), (2, false), (4, false), (5, false), (6, false), (7, false)], [.cell .str, .box (.pair (.int .i64) (.pair .str (.pair (.sl true .str) .str))), .box (.pair .str (.pair (.int .i64) .bool)), .box (.pair (.int .i64) (.pair .str (.pair (.sl true .str) .str))), .cell (.int .i64), .cell (.int .i64)]⟩ ⟨[(0, true), (2, false), (4, false), (5, false)], [.cell .str, .box (.pair (.int .i64) (.pair .str (.pair (.sl true .str) .str))), .box (.pair .str (.pair (.int .i64) .bool)), .box (.pair (.int .i64) (.pair .str (.pair (.sl true .str) .str)))]⟩ B_spec_ReadWord_1))
 (.seq (.reg none [.p (.mvA 44 4) .unit,
  .p (.callM 45 n_spec_l05ReadShort [] (.ptr (.t 44) 4) []) .unit,
  .p (.fadr 46 (.t 5) 3) .unit,
  .p (.store (.t 46) (.t 45) 1) .unit])
 (.seq (.reg none [.p (.load 48 (.t 5) 4 true) .unit,
  .p (.callB 49 n_spec_WordText [((.t 48), 0)]) .unit,
  .p (.mv 47 (.t 49)) .unit,
  .p (.ext 50 (.t 47) 0) .unit,
  .p (.ext 51 (.t 47) 1) .unit,
  .p (.mv 8 (.t 50)) .unit,
  .p (.mv 9 (.t 51)) .unit])
 (.seq (.seq (.join ⟨[(2, false), (5, false), (64, false)], [.box (.pair (.int .i64) (.pair .str (.pair (.sl true .str) .str))), .box (.pair (.int .i64) (.pair .str (.pair (.sl true .str) .str))), .cell .bool]⟩ (.reg none [.p (.mvT 52 4) .unit,
  .p (.nilck 53 (.t 52)) .unit,
  .p (.fadr 54 (.t 53) 2) .unit,
  .p (.load 55 (.t 54) 1 false) .unit,
  .p (.mv 56 (.t 55)) .unit,
  .g 56 false (some 57) (.mv 57 (.t 9)) .unit,
  .g 56 false (some 58) (.un 58 .not (.t 57)) .unit,
  .p (.pick 59 (.t 56) (.c (.bool true)) (.t 58)) .unit,
  .p (.mv 60 (.t 59)) .unit,
  .g 60 false (some 61) (.mv 61 (.t 8)) .unit,
  .g 60 false (some 62) (.mv 62 (.t 0)) .unit,
  .g 60 false (some 63) (.bin 63 false .neq (.t 61) (.t 62)) .unit,
  .p (.pick 64 (.t 60) (.c (.bool true)) (.t 63)) .unit]))
 (.cond (.t 64) (.seq (.reg none [.p (.bld 65 [(.lit (.int .i64 0)), (.lit (.string (ba []))), (.sl true 1 []), (.lit (.string (ba [])))] []) .unit,
  .p (.storeT (.t 2) 65 4) .unit,
  .p (.mv 3 (.c (.bool false))) .unit])
 .ret) .skip))
 (.seq (.reg none [.p (.loadT 66 (.t 5) 4 true) .unit,
  .p (.storeT (.t 2) 66 4) .unit,
  .p (.mv 3 (.c (.bool true))) .unit])
 .ret)))))))))),
 67, 1, [.c 2 4 true, .t 3]⟩
theorem m_spec_ReadWord : mH Tryd.prog 8 [(1, 3, .t), (2, 0, .v), (2, 1, (.p 0 4)), (2, 4, .t), (3, 0, .v), (3, 1, (.p 0 4)), (4, 0, .v), (4, 1, (.p 0 4)), (6, 8, .v), (8, 2, .v), (8, 3, (.p 0 4)), (8, 5, .z), (8, 7, .t), (9, 0, .v), (9, 1, (.p 0 4)), (11, 0, .t), (12, 1, .t), (13, 0, .t), (13, 1, .t)] = some (F_spec_ReadWord.code.x, F_spec_ReadWord.N, F_spec_ReadWord.np, F_spec_ReadWord.res) := by kernel_rfl
noncomputable def T_spec_ReadWord : List UInt8 → Option ((Int × List UInt8 × List (List UInt8) × List UInt8) × Bool) := evF [fn_spec_l05One, fn_spec_l05ReadShort, fn_spec_l05Var, fn_spec_WordText] F_spec_ReadWord [.cell .str] [] [.agg (.pair (.int .i64) (.pair .str (.pair (.sl true .str) .str))), .cell .bool] []
noncomputable def fn_spec_ReadWord : TFn := ⟨8, [.cell .str], [], [.agg (.pair (.int .i64) (.pair .str (.pair (.sl true .str) .str))), .cell .bool], [], T_spec_ReadWord⟩
theorem ok_spec_ReadWord : FnOk Tryd.prog fn_spec_ReadWord := evF_ok mixed (allOk_cons ok_spec_l05One (allOk_cons ok_spec_l05ReadShort (allOk_cons ok_spec_l05Var (allOk_cons ok_spec_WordText allOk_nil)))) m_spec_ReadWord (by decide)
def F_laws_FnWords : TF := ⟨(.seq (.reg none [.p (.mv 2 (.c (.bool false))) .unit])
 (.seq (.seq (.reg none [.p (.mv 15 (.t 0)) .unit,
  .p (.callB 16 n_laws_big [((.t 15), 0)]) .unit])
 (.cond (.t 16) (.seq (.reg none [.p (.mv 2 (.c (.bool true))) .unit])
 .ret) .skip))
 (.seq (.reg none [.p (.mv 17 (.t 0)) .unit,
  .p (.callB 18 n_spec_DrawWordText [((.t 17), 0)]) .unit,
  .p (.alloc 3 [(.lit (.int .i64 0)), (.lit (.string (ba []))), (.sl true 1 []), (.lit (.string (ba [])))]) .unit,
  .p (.storeT (.t 3) 18 4) .unit])
 (.seq (.reg none [.p (.load 20 (.t 3) 4 true) .unit,
  .p (.callB 21 n_impl_WordText [((.t 20), 0)]) .unit,
  .p (.mv 19 (.t 21)) .unit,
  .p (.ext 22 (.t 19) 0) .unit,
  .p (.ext 23 (.t 19) 1) .unit,
  .p (.mv 4 (.t 22)) .unit,
  .p (.mv 5 (.t 23)) .unit])
 (.seq (.reg none [.p (.mv 25 (.t 4)) .unit,
  .p (.callB 26 n_impl_ReadWord [((.t 25), 0)]) .unit,
  .p (.mvT 24 26) .unit,
  .p (.extT 27 24 0) .unit,
  .p (.ext 28 (.t 24) 1) .unit,
  .p (.alloc 6 [(.lit (.int .i64 0)), (.lit (.string (ba []))), (.sl true 1 []), (.lit (.string (ba [])))]) .unit,
  .p (.storeT (.t 6) 27 4) .unit,
  .p (.mv 7 (.t 28)) .unit])
 (.seq (.seq (.join ⟨[(0, true), (74, false)], [.cell (.sl false (.int .u8)), .cell .bool]⟩ (.reg none [.p (.mv 29 (.t 5)) .unit,
  .p (.load 30 (.t 3) 4 true) .unit,
  .p (.callB 31 n_spec_WordOk [((.t 30), 0)]) .unit,
  .p (.bin 32 true .neq (.t 29) (.t 31)) .unit,
  .p (.mv 33 (.t 32)) .unit,
  .g 33 false (some 34) (.load 34 (.t 3) 4 true) .unit,
  .g 33 false (some 35) (.callB 35 n_impl_WordOk [((.t 34), 0)]) .unit,
  .g 33 false (some 36) (.mv 36 (.t 5)) .unit,
  .g 33 false (some 37) (.bin 37 true .neq (.t 35) (.t 36)) .unit,
  .p (.pick 38 (.t 33) (.c (.bool true)) (.t 37)) .unit,
  .p (.mv 39 (.t 38)) .unit,
  .g 39 false (some 40) (.mv 40 (.t 5)) .unit,
  .g 39 false (some 41) (.mv 41 (.t 40)) .unit,
  .g 41 true (some 42) (.mv 42 (.t 7)) .unit,
  .g 41 true (some 43) (.un 43 .not (.t 42)) .unit,
  .g 41 true (some 44) (.mv 44 (.t 43)) .unit,
  .g 44 false (some 45) (.fadr 45 (.t 6) 0) .unit,
  .g 44 false (some 46) (.load 46 (.t 45) 1 false) .unit,
  .g 44 false (some 47) (.fadr 47 (.t 3) 0) .unit,
  .g 44 false (some 48) (.load 48 (.t 47) 1 false) .unit,
  .g 44 false (some 49) (.bin 49 false .neq (.t 46) (.t 48)) .unit,
  .g 41 true (some 50) (.pick 50 (.t 44) (.c (.bool true)) (.t 49)) .unit,
  .g 41 true (some 51) (.mv 51 (.t 50)) .unit,
  .g 51 false (some 52) (.fadr 52 (.t 6) 1) .unit,
  .g 51 false (some 53) (.load 53 (.t 52) 1 false) .unit,
  .g 51 false (some 54) (.fadr 54 (.t 3) 1) .unit,
  .g 51 false (some 55) (.load 55 (.t 54) 1 false) .unit,
  .g 51 false (some 56) (.bin 56 false .neq (.t 53) (.t 55)) .unit,
  .g 41 true (some 57) (.pick 57 (.t 51) (.c (.bool true)) (.t 56)) .unit,
  .g 41 true (some 58) (.mv 58 (.t 57)) .unit,
  .g 58 false (some 59) (.fadr 59 (.t 6) 2) .unit,
  .g 58 false (some 60) (.load 60 (.t 59) 1 false) .unit,
  .g 58 false (some 61) (.fadr 61 (.t 3) 2) .unit,
  .g 58 false (some 62) (.load 62 (.t 61) 1 false) .unit,
  .g 58 false (some 63) (.callB 63 n_laws_sameTexts [((.t 60), 0), ((.t 62), 0)]) .unit,
  .g 58 false (some 64) (.un 64 .not (.t 63)) .unit,
  .g 41 true (some 65) (.pick 65 (.t 58) (.c (.bool true)) (.t 64)) .unit,
  .g 41 true (some 66) (.mv 66 (.t 65)) .unit,
  .g 66 false (some 67) (.fadr 67 (.t 6) 3) .unit,
  .g 66 false (some 68) (.load 68 (.t 67) 1 false) .unit,
  .g 66 false (some 69) (.fadr 69 (.t 3) 3) .unit,
  .g 66 false (some 70) (.load 70 (.t 69) 1 false) .unit,
  .g 66 false (some 71) (.bin 71 false .neq (.t 68) (.t 70)) .unit,
  .g 41 true (some 72) (.pick 72 (.t 66) (.c (.bool true)) (.t 71)) .unit,
  .g 39 false (some 73) (.pick 73 (.t 41) (.t 72) (.c (.bool false))) .unit,
  .p (.pick 74 (.t 39) (.c (.bool true)) (.t 73)) .unit]))
 (.cond (.t 74) (.seq (.reg none [.p (.mv 2 (.c (.bool false))) .unit])
 .ret) .skip))
 (.seq (.reg none [.p (.mv 75 (.t 0)) .unit,
  .p (.callB 76 n_spec_DrawReadWord [((.t 75), 0)]) .unit,
  .p (.mv 8 (.t 76)) .unit])
 (.seq (.reg none [.p (.mv 78 (.t 8)) .unit,
  .p (.callB 79 n_impl_ReadWord [((.t 78), 0)]) .unit,
  .p (.mvT 77 79) .unit,
  .p (.extT 80 77 0) .unit,
  .p (.ext 81 (.t 77) 1) .unit,
  .p (.alloc 9 [(.lit (.int .i64 0)), (.lit (.string (ba []))), (.sl true 1 []), (.lit (.string (ba [])))]) .unit,
  .p (.storeT (.t 9) 80 4) .unit,
  .p (.mv 10 (.t 81)) .unit])
 (.seq (.reg none [.p (.mv 83 (.t 8)) .unit,
  .p (.callB 84 n_spec_ReadWord [((.t 83), 0)]) .unit,
  .p (.mvT 82 84) .unit,
  .p (.extT 85 82 0) .unit,
  .p (.ext 86 (.t 82) 1) .unit,
  .p (.alloc 11 [(.lit (.int .i64 0)), (.lit (.string (ba []))), (.sl true 1 []), (.lit (.string (ba [])))]) .unit,
  .p (.storeT (.t 11) 85 4) .unit,
  .p (.mv 12 (.t 86)) .unit])
 (.seq (.reg none [.p (.load 88 (.t 9) 4 true) .unit,
  .p (.callB 89 n_impl_WordText [((.t 88), 0)]) .unit,
  .p (.mv 87 (.t 89)) .unit,
  .p (.ext 90 (.t 87) 0) .unit,
  .p (.ext 91 (.t 87) 1) .unit,
  .p (.mv 13 (.t 90)) .unit,
  .p (.mv 14 (.t 91)) .unit])
 (.seq (.reg none [.p (.mv 92 (.t 10)) .unit,
  .p (.mv 93 (.t 12)) .unit,
  .p (.bin 94 true .eql (.t 92) (.t 93)) .unit,
  .p (.mv 95 (.t 94)) .unit,
  .g 95 true (some 96) (.mv 96 (.t 10)) .unit,
  .g 95 true (some 97) (.un 97 .not (.t 96)) .unit,
  .g 95 true (some 98) (.mv 98 (.t 97)) .unit,
  .g 98 false (some 99) (.mv 99 (.t 13)) .unit,
  .g 98 false (some 100) (.mv 100 (.t 8)) .unit,
  .g 98 false (some 101) (.bin 101 false .eql (.t 99) (.t 100)) .unit,
  .g 95 true (some 102) (.pick 102 (.t 98) (.c (.bool true)) (.t 101)) .unit,
  .p (.pick 103 (.t 95) (.t 102) (.c (.bool false))) .unit,
  .p (.mv 2 (.t 103)) .unit])
 .ret))))))))))),
 104, 1, [.t 2]⟩
theorem m_laws_FnWords : mH Tryd.prog 5 [(3, 3, .t), (5, 2, .t), (5, 3, .t), (5, 6, .t), (9, 2, .t), (9, 3, .t), (9, 6, .t), (10, 2, .t), (10, 3, .t), (10, 6, .t)] = some (F_laws_FnWords.code.x, F_laws_FnWords.N, F_laws_FnWords.np, F_laws_FnWords.res) := by kernel_rfl
noncomputable def T_laws_FnWords : List (Int) → Option (Bool) := evF [fn_laws_big, fn_spec_DrawWordText, fn_impl_WordText, fn_impl_ReadWord, fn_spec_WordOk, fn_impl_WordOk, fn_laws_sameTexts, fn_spec_DrawReadWord, fn_spec_ReadWord] F_laws_FnWords [.cell (.sl false (.int .u8))] [] [.cell .bool] []
noncomputable def fn_laws_FnWords : TFn := ⟨5, [.cell (.sl false (.int .u8))], [], [.cell .bool], [], T_laws_FnWords⟩
theorem ok_laws_FnWords : FnOk Tryd.prog fn_laws_FnWords := evF_ok mixed (allOk_cons ok_laws_big (allOk_cons ok_spec_DrawWordText (allOk_cons ok_impl_WordText (allOk_cons ok_impl_ReadWord (allOk_cons ok_spec_WordOk (allOk_cons ok_impl_WordOk (allOk_cons ok_laws_sameTexts (allOk_cons ok_spec_DrawReadWord (allOk_cons ok_spec_ReadWord allOk_nil))))))))) m_laws_FnWords (by decide)

end Xs
end Go.Proofs.YtkjpdhdmjjepfaaDoor
