/- The typed code of the functions, printed by program. -/
import Derived.Test.YtfepabohinkpgaaT7
import Derived.Test.YtfepabohinkpgaaProg
import Derived.KernelRfl
import Derived.Test.YtfepabohinkpgaaDel
namespace Go.Proofs.Ytfepabohinkpgaa
open Go Vm
namespace Xs
theorem mixed : Try.prog.follows .mixedOrders = true := by kernel_rfl
abbrev n_laws_FnBoxDraws : Nat := 12
abbrev n_spec_BoxOk : Nat := 20
abbrev n_impl_BoxOk : Nat := 22
abbrev n_laws_big : Nat := 24
abbrev n_impl_Drop : Nat := 26
abbrev n_impl_Fetch : Nat := 27
abbrev n_spec_Drop : Nat := 50
abbrev n_spec_Fetch : Nat := 53
abbrev n_spec_DrawDrop : Nat := 54
abbrev n_spec_l01In : Nat := 67
abbrev n_impl_inRange : Nat := 71
abbrev n_spec_NameOk : Nat := 74
abbrev n_impl_NameOk : Nat := 76
abbrev n_impl_areShort : Nat := 77
abbrev n_spec_l01New : Nat := 78
abbrev n_spec_l01Below : Nat := 79
abbrev n_impl_copyBox : Nat := 81
abbrev n_slices_Delete___string_string_ : Nat := 82
abbrev n_slices_Clone___string_string_ : Nat := 101
abbrev n_spec_l18Copy : Nat := 105
abbrev n_spec_l18Box : Nat := 106
abbrev n_spec_l01Once : Nat := 107
abbrev n_spec_l01Long : Nat := 108
abbrev n_spec_l03Name : Nat := 109
abbrev n_spec_l01Byte : Nat := 121
abbrev n_spec_Decimal : Nat := 130
abbrev n_spec_l01Pick : Nat := 131
abbrev n_spec_l01Figure : Nat := 143
def F_laws_big : TF := ⟨(.seq (.reg none [.p (.mv 2 (.c (.bool false))) .unit])
 (.seq (.reg none [.p (.mv 3 (.t 0)) .unit,
  .p (.lenB 4 (.t 3)) .unit,
  .p (.bin 5 false .gtr (.t 4) (.c (.int .i64 1048576))) .unit,
  .p (.mv 2 (.t 5)) .unit])
 .ret)),
 6, 1, [.t 2]⟩
theorem m_laws_big : mH Try.prog 24 [] = some (F_laws_big.code.x, F_laws_big.N, F_laws_big.np, F_laws_big.res) := by kernel_rfl
noncomputable def T_laws_big : List (Int) → Option (Bool) := evF [] F_laws_big [.cell (.sl false (.int .u8))] [] [.cell .bool] []
noncomputable def fn_laws_big : TFn := ⟨24, [.cell (.sl false (.int .u8))], [], [.cell .bool], [], T_laws_big⟩
theorem ok_laws_big : FnOk Try.prog fn_laws_big := evF_ok mixed allOk_nil m_laws_big (by decide)
def B_spec_l01New_1 : TC := (.seq (.seq (.join ⟨[(0, true), (3, false), (4, false), (15, false)], [.cell (.sl false (.int .u8)), .cell (.int .i64), .cell (.int .i64), .cell .bool]⟩ (.reg none [.p (.mv 8 (.t 4)) .unit,
  .p (.mv 9 (.t 0)) .unit,
  .p (.lenB 10 (.t 9)) .unit,
  .p (.bin 11 false .lss (.t 8) (.t 10)) .unit,
  .p (.mv 12 (.t 11)) .unit,
  .g 12 true (some 13) (.mv 13 (.t 4)) .unit,
  .g 12 true (some 14) (.bin 14 false .lss (.t 13) (.c (.int .i64 4000))) .unit,
  .p (.pick 15 (.t 12) (.t 14) (.c (.bool false))) .unit]))
 (.cond (.t 15) .skip (.exit 0)))
 (.seq (.block 1 (.reg none [.p (.mv 18 (.t 3)) .unit,
  .p (.bin 19 false .mul (.t 18) (.c (.int .i64 131))) .unit,
  .p (.mv 20 (.t 0)) .unit,
  .p (.mv 21 (.t 4)) .unit,
  .p (.iadr 22 1 (.t 20) (.t 21)) .unit,
  .p (.load 23 (.t 22) 1 false) .unit,
  .p (.cvi 24 .i64 .u8 (.t 23)) .unit,
  .p (.bin 25 false .add (.t 19) (.t 24)) .unit,
  .p (.bin 26 false .add (.t 25) (.c (.int .i64 7))) .unit,
  .p (.bin 27 false .and (.t 26) (.c (.int .i64 1073741823))) .unit,
  .p (.mv 3 (.t 27)) .unit]))
 (.reg none [.p (.mv 16 (.t 4)) .unit,
  .p (.bin 17 false .add (.t 16) (.c (.int .i64 1))) .unit,
  .p (.mv 4 (.t 17)) .unit])))
noncomputable def L_spec_l01New_1 : Nat → (List (Int)) × (Int) × Int → Option (((List (Int)) × Int) ⊕ (List (Int) × Int × Int)) := evL [] (finT [.t 2] [] [.box (.pair (.sl false (.int .u8)) (.pair (.int .i64) (.int .i64)))]) 0 ⟨[(0, true), (3, false), (4, false)], [.cell (.sl false (.int .u8)), .cell (.int .i64), .cell (.int .i64)]⟩ ⟨[(0, true), (3, false)], [.cell (.sl false (.int .u8)), .cell (.int .i64)]⟩ B_spec_l01New_1
def F_spec_l01New : TF := ⟨(.seq (.reg none [.p (.mv 2 (.c (.pointer none))) .unit])
 (.seq (.reg none [.p (.mv 5 (.t 0)) .unit,
  .p (.lenB 6 (.t 5)) .unit,
  .p (.bin 7 false .add (.c (.int .i64 27101)) (.t 6)) .unit,
  .p (.mv 3 (.t 7)) .unit])
 (.seq (.seq (.reg none [.p (.mv 4 (.c (.int .i64 0))) .unit])
 (.jl 0 ⟨[(0, true), (3, false), (4, false)], [.cell (.sl false (.int .u8)), .cell (.int .i64), .cell (.int .i64)]⟩ ⟨[(0, true), (3, false)], [.cell (.sl false (.int .u8)), .cell (.int .i64)]⟩ B_spec_l01New_1))
 (.seq (.reg none [.p (.mv 28 (.t 0)) .unit,
  .p (.mv 29 (.t 3)) .unit,
  .p (.bld 30 [(.sl true 1 []), (.lit (.int .i64 0)), (.lit (.int .i64 0))] [⟨0, 1, (.t 28)⟩, ⟨2, 1, (.t 29)⟩]) .unit,
  .p (.box 31 (.t 30)) .unit,
  .p (.mvT 2 31) .unit])
 .ret)))),
 32, 1, [.t 2]⟩
theorem m_spec_l01New : mH Try.prog 78 [(6, 4, .t)] = some (F_spec_l01New.code.x, F_spec_l01New.N, F_spec_l01New.np, F_spec_l01New.res) := by kernel_rfl
noncomputable def T_spec_l01New : List (Int) → Option (List (Int) × Int × Int) := evF [] F_spec_l01New [.cell (.sl false (.int .u8))] [] [.box (.pair (.sl false (.int .u8)) (.pair (.int .i64) (.int .i64)))] []
noncomputable def fn_spec_l01New : TFn := ⟨78, [.cell (.sl false (.int .u8))], [], [.box (.pair (.sl false (.int .u8)) (.pair (.int .i64) (.int .i64)))], [], T_spec_l01New⟩
theorem ok_spec_l01New : FnOk Try.prog fn_spec_l01New := evF_ok mixed allOk_nil m_spec_l01New (by decide)
def F_spec_l01Byte : TF := ⟨(.seq (.reg none [.p (.mv 2 (.c (.int .i64 0))) .unit])
 (.seq (.reg none [.p (.mvA 4 0) .unit,
  .p (.mvA 5 0) .unit,
  .p (.nilck 6 (.t 5)) .unit,
  .p (.fadr 7 (.t 6) 2) .unit,
  .p (.load 8 (.t 7) 1 false) .unit,
  .p (.bin 9 false .mul (.t 8) (.c (.int .i64 6364136223846793005))) .unit,
  .p (.bin 10 false .add (.t 9) (.c (.int .i64 1442695040888963407))) .unit,
  .p (.nilck 11 (.t 4)) .unit,
  .p (.fadr 12 (.t 11) 2) .unit,
  .p (.store (.t 12) (.t 10) 1) .unit])
 (.seq (.reg (some [[], [0], [1], [2], [3], [], [5], [6], [7], [8], [4, 9], [10], [11, 0, 1, 2, 3, 4, 5, 6, 7, 8, 9, 10, 11]]) [.p (.mvA 13 0) .unit,
  .p (.nilck 14 (.t 13)) .unit,
  .p (.fadr 15 (.t 14) 2) .unit,
  .p (.load 16 (.t 15) 1 false) .unit,
  .p (.bin 17 false .shr (.t 16) (.c (.int .u64 33))) .unit,
  .p (.mvA 18 0) .unit,
  .p (.nilck 19 (.t 18)) .unit,
  .p (.fadr 20 (.t 19) 2) .unit,
  .p (.load 21 (.t 20) 1 false) .unit,
  .p (.bin 22 false .shr (.t 21) (.c (.int .u64 45))) .unit,
  .p (.bin 23 false .xor (.t 17) (.t 22)) .unit,
  .p (.bin 24 false .and (.t 23) (.c (.int .i64 255))) .unit,
  .p (.mv 3 (.t 24)) .unit])
 (.seq (.join ⟨[(0, true), (3, false)], [.box (.pair (.sl false (.int .u8)) (.pair (.int .i64) (.int .i64))), .cell (.int .i64)]⟩ (.seq (.reg (some [[], [0], [1], [2], [], [4], [5], [6], [7], [3, 8]]) [.p (.mvA 25 0) .unit,
  .p (.nilck 26 (.t 25)) .unit,
  .p (.fadr 27 (.t 26) 1) .unit,
  .p (.load 28 (.t 27) 1 false) .unit,
  .p (.mvA 29 0) .unit,
  .p (.nilck 30 (.t 29)) .unit,
  .p (.fadr 31 (.t 30) 0) .unit,
  .p (.load 32 (.t 31) 1 false) .unit,
  .p (.lenB 33 (.t 32)) .unit,
  .p (.bin 34 false .lss (.t 28) (.t 33)) .unit])
 (.cond (.t 34) (.seq (.reg (some [[], [], [1], [2], [3], [], [5], [6], [7], [4, 8], [9], [10], [0, 11], [12], [13, 0, 1, 2, 3, 4, 5, 6, 7, 8, 9, 10, 11, 12, 13]]) [.p (.mv 35 (.t 3)) .unit,
  .p (.mvA 36 0) .unit,
  .p (.nilck 37 (.t 36)) .unit,
  .p (.fadr 38 (.t 37) 0) .unit,
  .p (.load 39 (.t 38) 1 false) .unit,
  .p (.mvA 40 0) .unit,
  .p (.nilck 41 (.t 40)) .unit,
  .p (.fadr 42 (.t 41) 1) .unit,
  .p (.load 43 (.t 42) 1 false) .unit,
  .p (.iadr 44 1 (.t 39) (.t 43)) .unit,
  .p (.load 45 (.t 44) 1 false) .unit,
  .p (.cvi 46 .i64 .u8 (.t 45)) .unit,
  .p (.bin 47 false .add (.t 35) (.t 46)) .unit,
  .p (.bin 48 false .and (.t 47) (.c (.int .i64 255))) .unit,
  .p (.mv 3 (.t 48)) .unit])
 (.reg none [.p (.mvA 49 0) .unit,
  .p (.mvA 50 0) .unit,
  .p (.nilck 51 (.t 50)) .unit,
  .p (.fadr 52 (.t 51) 1) .unit,
  .p (.load 53 (.t 52) 1 false) .unit,
  .p (.bin 54 false .add (.t 53) (.c (.int .i64 1))) .unit,
  .p (.nilck 55 (.t 49)) .unit,
  .p (.fadr 56 (.t 55) 1) .unit,
  .p (.store (.t 56) (.t 54) 1) .unit])) .skip)))
 (.seq (.reg none [.p (.mv 57 (.t 3)) .unit,
  .p (.mv 2 (.t 57)) .unit])
 .ret))))),
 58, 1, [.t 2]⟩
theorem m_spec_l01Byte : mH Try.prog 121 [(1, 0, .v), (1, 1, .v), (2, 0, .v), (2, 5, .v), (3, 0, .v), (3, 4, .v), (4, 1, .v), (4, 5, .v), (5, 0, .v), (5, 1, .v)] = some (F_spec_l01Byte.code.x, F_spec_l01Byte.N, F_spec_l01Byte.np, F_spec_l01Byte.res) := by kernel_rfl
noncomputable def T_spec_l01Byte : List (Int) × Int × Int → Option ((Int) × List (Int) × Int × Int) := evF [] F_spec_l01Byte [.box (.pair (.sl false (.int .u8)) (.pair (.int .i64) (.int .i64)))] [0] [.cell (.int .i64)] [.box (.pair (.sl false (.int .u8)) (.pair (.int .i64) (.int .i64)))]
noncomputable def fn_spec_l01Byte : TFn := ⟨121, [.box (.pair (.sl false (.int .u8)) (.pair (.int .i64) (.int .i64)))], [0], [.cell (.int .i64)], [.box (.pair (.sl false (.int .u8)) (.pair (.int .i64) (.int .i64)))], T_spec_l01Byte⟩
theorem ok_spec_l01Byte : FnOk Try.prog fn_spec_l01Byte := evF_ok mixed allOk_nil m_spec_l01Byte (by decide)
def F_spec_l01Below : TF := ⟨(.seq (.reg none [.p (.mv 4 (.c (.int .i64 0))) .unit])
 (.seq (.seq (.reg none [.p (.mv 9 (.t 1)) .unit,
  .p (.bin 10 false .leq (.t 9) (.c (.int .i64 0))) .unit])
 (.cond (.t 10) (.seq (.reg none [.p (.mv 4 (.c (.int .i64 0))) .unit])
 .ret) .skip))
 (.seq (.seq (.reg none [.p (.mv 11 (.t 1)) .unit,
  .p (.bin 12 false .leq (.t 11) (.c (.int .i64 256))) .unit])
 (.cond (.t 12) (.seq (.reg none [.p (.mvA 13 0) .unit,
  .p (.callM 14 n_spec_l01Byte [] (.ptrS (.t 13) 0) []) .unit,
  .p (.mv 15 (.t 1)) .unit,
  .p (.bin 16 false .rem (.t 14) (.t 15)) .unit,
  .p (.mv 4 (.t 16)) .unit])
 .ret) .skip))
 (.seq (.reg none [.p (.mvA 17 0) .unit,
  .p (.callM 18 n_spec_l01Byte [] (.ptrS (.t 17) 0) []) .unit,
  .p (.mv 5 (.t 18)) .unit])
 (.seq (.reg none [.p (.mvA 19 0) .unit,
  .p (.callM 20 n_spec_l01Byte [] (.ptrS (.t 19) 0) []) .unit,
  .p (.mv 6 (.t 20)) .unit])
 (.seq (.reg none [.p (.mvA 21 0) .unit,
  .p (.callM 22 n_spec_l01Byte [] (.ptrS (.t 21) 0) []) .unit,
  .p (.mv 7 (.t 22)) .unit])
 (.seq (.reg none [.p (.mvA 23 0) .unit,
  .p (.callM 24 n_spec_l01Byte [] (.ptrS (.t 23) 0) []) .unit,
  .p (.mv 8 (.t 24)) .unit])
 (.seq (.reg none [.p (.mv 25 (.t 5)) .unit,
  .p (.bin 26 false .mul (.t 25) (.c (.int .i64 16777216))) .unit,
  .p (.mv 27 (.t 6)) .unit,
  .p (.bin 28 false .mul (.t 27) (.c (.int .i64 65536))) .unit,
  .p (.bin 29 false .add (.t 26) (.t 28)) .unit,
  .p (.mv 30 (.t 7)) .unit,
  .p (.bin 31 false .mul (.t 30) (.c (.int .i64 256))) .unit,
  .p (.bin 32 false .add (.t 29) (.t 31)) .unit,
  .p (.mv 33 (.t 8)) .unit,
  .p (.bin 34 false .add (.t 32) (.t 33)) .unit,
  .p (.mv 35 (.t 1)) .unit,
  .p (.bin 36 false .rem (.t 34) (.t 35)) .unit,
  .p (.mv 4 (.t 36)) .unit])
 .ret)))))))),
 37, 2, [.t 4]⟩
theorem m_spec_l01Below : mH Try.prog 79 [(4, 0, .v), (4, 1, (.ps 0 0)), (5, 0, .v), (5, 1, (.ps 0 0)), (6, 0, .v), (6, 1, (.ps 0 0)), (7, 0, .v), (7, 1, (.ps 0 0)), (8, 0, .v), (8, 1, (.ps 0 0))] = some (F_spec_l01Below.code.x, F_spec_l01Below.N, F_spec_l01Below.np, F_spec_l01Below.res) := by kernel_rfl
noncomputable def T_spec_l01Below : (List (Int) × Int × Int) × Int → Option ((Int) × List (Int) × Int × Int) := evF [fn_spec_l01Byte] F_spec_l01Below [.box (.pair (.sl false (.int .u8)) (.pair (.int .i64) (.int .i64))), .cell (.int .i64)] [0] [.cell (.int .i64)] [.box (.pair (.sl false (.int .u8)) (.pair (.int .i64) (.int .i64)))]
noncomputable def fn_spec_l01Below : TFn := ⟨79, [.box (.pair (.sl false (.int .u8)) (.pair (.int .i64) (.int .i64))), .cell (.int .i64)], [0], [.cell (.int .i64)], [.box (.pair (.sl false (.int .u8)) (.pair (.int .i64) (.int .i64)))], T_spec_l01Below⟩
theorem ok_spec_l01Below : FnOk Try.prog fn_spec_l01Below := evF_ok mixed (allOk_cons ok_spec_l01Byte allOk_nil) m_spec_l01Below (by decide)
def F_spec_l01Figure : TF := ⟨(.seq (.reg none [.p (.mv 2 (.c (.int .u8 0))) .unit])
 (.seq (.seq (.reg none [.p (.mv 3 (.t 0)) .unit,
  .p (.bin 4 false .lss (.t 3) (.c (.int .i64 10))) .unit])
 (.cond (.t 4) (.seq (.reg none [.p (.mv 5 (.t 0)) .unit,
  .p (.bin 6 false .add (.c (.int .i64 48)) (.t 5)) .unit,
  .p (.cvi 7 .u8 .i64 (.t 6)) .unit,
  .p (.mv 2 (.t 7)) .unit])
 .ret) .skip))
 (.seq (.reg none [.p (.mv 8 (.t 0)) .unit,
  .p (.bin 9 false .add (.c (.int .i64 97)) (.t 8)) .unit,
  .p (.bin 10 false .sub (.t 9) (.c (.int .i64 10))) .unit,
  .p (.cvi 11 .u8 .i64 (.t 10)) .unit,
  .p (.mv 2 (.t 11)) .unit])
 .ret))),
 12, 1, [.t 2]⟩
theorem m_spec_l01Figure : mH Try.prog 143 [] = some (F_spec_l01Figure.code.x, F_spec_l01Figure.N, F_spec_l01Figure.np, F_spec_l01Figure.res) := by kernel_rfl
noncomputable def T_spec_l01Figure : Int → Option (Int) := evF [] F_spec_l01Figure [.cell (.int .i64)] [] [.cell (.int .u8)] []
noncomputable def fn_spec_l01Figure : TFn := ⟨143, [.cell (.int .i64)], [], [.cell (.int .u8)], [], T_spec_l01Figure⟩
theorem ok_spec_l01Figure : FnOk Try.prog fn_spec_l01Figure := evF_ok mixed allOk_nil m_spec_l01Figure (by decide)
def B_spec_Decimal_1 : TC := (.seq (.seq (.reg none [.p (.mv 10 (.t 0)) .unit,
  .p (.bin 11 false .neq (.t 10) (.c (.int .i64 0))) .unit])
 (.cond (.t 11) .skip (.exit 0)))
 (.block 1 (.seq (.reg none [.p (.mv 12 (.t 0)) .unit,
  .p (.bin 13 false .rem (.t 12) (.c (.int .i64 10))) .unit,
  .p (.mv 5 (.t 13)) .unit])
 (.seq (.join ⟨[(0, false), (3, false), (4, false), (5, false)], [.cell (.int .i64), .cell .bool, .cell .str, .cell (.int .i64)]⟩ (.seq (.reg none [.p (.mv 14 (.t 5)) .unit,
  .p (.bin 15 false .lss (.t 14) (.c (.int .i64 0))) .unit])
 (.cond (.t 15) (.reg none [.p (.mv 16 (.t 5)) .unit,
  .p (.un 17 .neg (.t 16)) .unit,
  .p (.mv 5 (.t 17)) .unit]) .skip)))
 (.seq (.reg none [.p (.mv 18 (.t 5)) .unit,
  .p (.callB 19 n_spec_l01Figure [((.t 18), 0)]) .unit,
  .p (.bldS 20 1 [(.lit (.int .u8 0))] [⟨0, 1, (.t 19)⟩]) (.int .u8),
  .p (.b2s 21 (.t 20)) .unit,
  .p (.mv 22 (.t 4)) .unit,
  .p (.bin 23 false .add (.t 21) (.t 22)) .unit,
  .p (.mv 4 (.t 23)) .unit])
 (.reg none [.p (.mv 24 (.t 0)) .unit,
  .p (.bin 25 false .quo (.t 24) (.c (.int .i64 10))) .unit,
  .p (.mv 0 (.t 25)) .unit]))))))
noncomputable def L_spec_Decimal_1 : Nat → (Int) × (Bool) × List UInt8 → Option (((Bool) × List UInt8) ⊕ (List UInt8)) := evL [fn_spec_l01Figure] (finT [.t 2] [] [.cell .str]) 0 ⟨[(0, false), (3, false), (4, false)], [.cell (.int .i64), .cell .bool, .cell .str]⟩ ⟨[(3, false), (4, false)], [.cell .bool, .cell .str]⟩ B_spec_Decimal_1
def F_spec_Decimal : TF := ⟨(.seq (.reg none [.p (.mv 2 (.c (.string (ba [])))) .unit])
 (.seq (.seq (.reg none [.p (.mv 6 (.t 0)) .unit,
  .p (.bin 7 false .eql (.t 6) (.c (.int .i64 0))) .unit])
 (.cond (.t 7) (.seq (.reg none [.p (.mv 2 (.c (.string (ba [48])))) .unit])
 .ret) .skip))
 (.seq (.reg none [.p (.mv 8 (.t 0)) .unit,
  .p (.bin 9 false .lss (.t 8) (.c (.int .i64 0))) .unit,
  .p (.mv 3 (.t 9)) .unit])
 (.seq (.reg none [.p (.mv 4 (.c (.string (ba [])))) .unit])
 (.seq (.jl 0 ⟨[(0, false), (3, false), (4, false)], [.cell (.int .i64), .cell .bool, .cell .str]⟩ ⟨[(3, false), (4, false)], [.cell .bool, .cell .str]⟩ B_spec_Decimal_1)
 (.seq (.seq (.reg none [.p (.mv 26 (.t 3)) .unit])
 (.cond (.t 26) (.seq (.reg none [.p (.mv 27 (.t 4)) .unit,
  .p (.bin 28 false .add (.c (.string (ba [45]))) (.t 27)) .unit,
  .p (.mv 2 (.t 28)) .unit])
 .ret) .skip))
 (.seq (.reg none [.p (.mv 29 (.t 4)) .unit,
  .p (.mv 2 (.t 29)) .unit])
 .ret))))))),
 30, 1, [.t 2]⟩
theorem m_spec_Decimal : mH Try.prog 130 [] = some (F_spec_Decimal.code.x, F_spec_Decimal.N, F_spec_Decimal.np, F_spec_Decimal.res) := by kernel_rfl
noncomputable def T_spec_Decimal : Int → Option (List UInt8) := evF [fn_spec_l01Figure] F_spec_Decimal [.cell (.int .i64)] [] [.cell .str] []
noncomputable def fn_spec_Decimal : TFn := ⟨130, [.cell (.int .i64)], [], [.cell .str], [], T_spec_Decimal⟩
theorem ok_spec_Decimal : FnOk Try.prog fn_spec_Decimal := evF_ok mixed (allOk_cons ok_spec_l01Figure allOk_nil) m_spec_Decimal (by decide)
def F_spec_l01Pick : TF := ⟨(.seq (.reg none [.p (.mv 4 (.c (.string (ba [])))) .unit])
 (.seq (.reg none [.p (.mv 5 (.t 1)) .unit,
  .p (.mvA 6 0) .unit,
  .p (.mv 7 (.t 1)) .unit,
  .p (.lenB 8 (.t 7)) .unit,
  .p (.callM 9 n_spec_l01Below [] (.ptrS (.t 6) 0) [((.t 8), 0)]) .unit,
  .p (.iadr 10 1 (.t 5) (.t 9)) .unit,
  .p (.load 11 (.t 10) 1 false) .unit,
  .p (.mv 4 (.t 11)) .unit])
 .ret)),
 12, 2, [.t 4]⟩
theorem m_spec_l01Pick : mH Try.prog 131 [(1, 1, .v), (1, 4, (.ps 0 0))] = some (F_spec_l01Pick.code.x, F_spec_l01Pick.N, F_spec_l01Pick.np, F_spec_l01Pick.res) := by kernel_rfl
noncomputable def T_spec_l01Pick : (List (Int) × Int × Int) × List (List UInt8) → Option ((List UInt8) × List (Int) × Int × Int) := evF [fn_spec_l01Below] F_spec_l01Pick [.box (.pair (.sl false (.int .u8)) (.pair (.int .i64) (.int .i64))), .cell (.sl false .str)] [0] [.cell .str] [.box (.pair (.sl false (.int .u8)) (.pair (.int .i64) (.int .i64)))]
noncomputable def fn_spec_l01Pick : TFn := ⟨131, [.box (.pair (.sl false (.int .u8)) (.pair (.int .i64) (.int .i64))), .cell (.sl false .str)], [0], [.cell .str], [.box (.pair (.sl false (.int .u8)) (.pair (.int .i64) (.int .i64)))], T_spec_l01Pick⟩
theorem ok_spec_l01Pick : FnOk Try.prog fn_spec_l01Pick := evF_ok mixed (allOk_cons ok_spec_l01Below allOk_nil) m_spec_l01Pick (by decide)
def F_spec_l03Name : TF := ⟨(.seq (.reg none [.p (.mv 2 (.c (.string (ba [])))) .unit])
 (.seq (.reg none [.p (.mvA 3 0) .unit,
  .p (.bldZ 4 5 [(.lit (.string (ba [])))] [⟨0, 1, (.c (.string (ba [97, 110, 110])))⟩, ⟨1, 1, (.c (.string (ba [98, 111, 98])))⟩, ⟨2, 1, (.c (.string (ba [99, 121])))⟩, ⟨3, 1, (.c (.string (ba [100, 52])))⟩, ⟨4, 1, (.c (.string (ba [101, 118, 101])))⟩]) .str,
  .p (.callM 5 n_spec_l01Pick [] (.ptrS (.t 3) 0) [((.t 4), 0)]) .unit,
  .p (.mv 2 (.t 5)) .unit])
 .ret)),
 6, 1, [.t 2]⟩
theorem m_spec_l03Name : mH Try.prog 109 [(1, 0, .v), (1, 1, .z), (1, 2, (.ps 0 0))] = some (F_spec_l03Name.code.x, F_spec_l03Name.N, F_spec_l03Name.np, F_spec_l03Name.res) := by kernel_rfl
noncomputable def T_spec_l03Name : List (Int) × Int × Int → Option ((List UInt8) × List (Int) × Int × Int) := evF [fn_spec_l01Pick] F_spec_l03Name [.box (.pair (.sl false (.int .u8)) (.pair (.int .i64) (.int .i64)))] [0] [.cell .str] [.box (.pair (.sl false (.int .u8)) (.pair (.int .i64) (.int .i64)))]
noncomputable def fn_spec_l03Name : TFn := ⟨109, [.box (.pair (.sl false (.int .u8)) (.pair (.int .i64) (.int .i64)))], [0], [.cell .str], [.box (.pair (.sl false (.int .u8)) (.pair (.int .i64) (.int .i64)))], T_spec_l03Name⟩
theorem ok_spec_l03Name : FnOk Try.prog fn_spec_l03Name := evF_ok mixed (allOk_cons ok_spec_l01Pick allOk_nil) m_spec_l03Name (by decide)
def F_spec_l18Copy : TF := ⟨(.seq (.reg none [.p (.box 1 (.t 0)) .unit,
  .p (.alloc 2 [(.lit (.string (ba []))), (.sl true 1 []), (.lit (.bool false))]) .unit])
 (.seq (.reg none [.p (.bldS 3 0 [(.lit (.string (ba [])))] []) .str,
  .p (.fadr 4 (.t 1) 1) .unit,
  .p (.load 5 (.t 4) 1 false) .unit,
  .p (.app 6 1 16 (.t 3) (.t 5)) .str,
  .p (.fadr 7 (.t 1) 1) .unit,
  .p (.storeT (.t 7) 6 1) .unit])
 (.seq (.reg none [.p (.loadT 8 (.t 1) 3 true) .unit,
  .p (.storeT (.t 2) 8 3) .unit])
 .ret))),
 9, 1, [.c 2 3 true]⟩
theorem m_spec_l18Copy : mH Try.prog 105 [(1, 5, .t), (2, 0, .t), (2, 1, .t)] = some (F_spec_l18Copy.code.x, F_spec_l18Copy.N, F_spec_l18Copy.np, F_spec_l18Copy.res) := by kernel_rfl
noncomputable def T_spec_l18Copy : List UInt8 × List (List UInt8) × Bool → Option (List UInt8 × List (List UInt8) × Bool) := evF [] F_spec_l18Copy [.agg (.pair .str (.pair (.sl false .str) .bool))] [] [.agg (.pair .str (.pair (.sl true .str) .bool))] []
noncomputable def fn_spec_l18Copy : TFn := ⟨105, [.agg (.pair .str (.pair (.sl false .str) .bool))], [], [.agg (.pair .str (.pair (.sl true .str) .bool))], [], T_spec_l18Copy⟩
theorem ok_spec_l18Copy : FnOk Try.prog fn_spec_l18Copy := evF_ok mixed allOk_nil m_spec_l18Copy (by decide)
def F_spec_l01In : TF := ⟨(.seq (.reg none [.p (.mv 6 (.c (.bool false))) .unit])
 (.seq (.reg none [.p (.mv 7 (.t 0)) .unit,
  .p (.mv 8 (.t 1)) .unit,
  .p (.bin 9 false .geq (.t 7) (.t 8)) .unit,
  .p (.mv 10 (.t 9)) .unit,
  .g 10 true (some 11) (.mv 11 (.t 0)) .unit,
  .g 10 true (some 12) (.mv 12 (.t 2)) .unit,
  .g 10 true (some 13) (.bin 13 false .leq (.t 11) (.t 12)) .unit,
  .p (.pick 14 (.t 10) (.t 13) (.c (.bool false))) .unit,
  .p (.mv 6 (.t 14)) .unit])
 .ret)),
 15, 3, [.t 6]⟩
theorem m_spec_l01In : mH Try.prog 67 [] = some (F_spec_l01In.code.x, F_spec_l01In.N, F_spec_l01In.np, F_spec_l01In.res) := by kernel_rfl
noncomputable def T_spec_l01In : (Int) × (Int) × Int → Option (Bool) := evF [] F_spec_l01In [.cell (.int .i64), .cell (.int .i64), .cell (.int .i64)] [] [.cell .bool] []
noncomputable def fn_spec_l01In : TFn := ⟨67, [.cell (.int .i64), .cell (.int .i64), .cell (.int .i64)], [], [.cell .bool], [], T_spec_l01In⟩
theorem ok_spec_l01In : FnOk Try.prog fn_spec_l01In := evF_ok mixed allOk_nil m_spec_l01In (by decide)
def B_spec_NameOk_1 : TC := (.seq (.seq (.reg none [.p (.mv 18 (.t 3)) .unit,
  .p (.mv 19 (.t 0)) .unit,
  .p (.lenS 20 (.t 19)) .unit,
  .p (.bin 21 false .lss (.t 18) (.t 20)) .unit])
 (.cond (.t 21) .skip (.exit 0)))
 (.seq (.block 1 (.seq (.join ⟨[(0, true), (3, false), (45, false)], [.cell .str, .cell (.int .i64), .cell .bool]⟩ (.reg none [.p (.mv 24 (.t 0)) .unit,
  .p (.mv 25 (.t 3)) .unit,
  .p (.idx 26 (.t 24) (.t 25)) .unit,
  .p (.bin 27 false .lss (.t 26) (.c (.int .u8 97))) .unit,
  .p (.mv 28 (.t 27)) .unit,
  .g 28 false (some 29) (.mv 29 (.t 0)) .unit,
  .g 28 false (some 30) (.mv 30 (.t 3)) .unit,
  .g 28 false (some 31) (.idx 31 (.t 29) (.t 30)) .unit,
  .g 28 false (some 32) (.bin 32 false .gtr (.t 31) (.c (.int .u8 122))) .unit,
  .p (.pick 33 (.t 28) (.c (.bool true)) (.t 32)) .unit,
  .p (.mv 34 (.t 33)) .unit,
  .g 34 true (some 35) (.mv 35 (.t 0)) .unit,
  .g 34 true (some 36) (.mv 36 (.t 3)) .unit,
  .g 34 true (some 37) (.idx 37 (.t 35) (.t 36)) .unit,
  .g 34 true (some 38) (.bin 38 false .lss (.t 37) (.c (.int .u8 48))) .unit,
  .g 34 true (some 39) (.mv 39 (.t 38)) .unit,
  .g 39 false (some 40) (.mv 40 (.t 0)) .unit,
  .g 39 false (some 41) (.mv 41 (.t 3)) .unit,
  .g 39 false (some 42) (.idx 42 (.t 40) (.t 41)) .unit,
  .g 39 false (some 43) (.bin 43 false .gtr (.t 42) (.c (.int .u8 57))) .unit,
  .g 34 true (some 44) (.pick 44 (.t 39) (.c (.bool true)) (.t 43)) .unit,
  .p (.pick 45 (.t 34) (.t 44) (.c (.bool false))) .unit]))
 (.cond (.t 45) (.seq (.reg none [.p (.mv 2 (.c (.bool false))) .unit])
 .ret) .skip)))
 (.reg none [.p (.mv 22 (.t 3)) .unit,
  .p (.bin 23 false .add (.t 22) (.c (.int .i64 1))) .unit,
  .p (.mv 3 (.t 23)) .unit])))
noncomputable def L_spec_NameOk_1 : Nat → (List UInt8) × Int → Option ((Unit) ⊕ (Bool)) := evL [fn_spec_l01In] (finT [.t 2] [] [.cell .bool]) 0 ⟨[(0, true), (3, false)], [.cell .str, .cell (.int .i64)]⟩ ⟨[], []⟩ B_spec_NameOk_1
def F_spec_NameOk : TF := ⟨(.seq (.reg none [.p (.mv 2 (.c (.bool false))) .unit])
 (.seq (.seq (.join ⟨[(0, true), (17, false)], [.cell .str, .cell .bool]⟩ (.reg none [.p (.mv 4 (.t 0)) .unit,
  .p (.lenS 5 (.t 4)) .unit,
  .p (.callB 6 n_spec_l01In [((.t 5), 0), ((.c (.int .i64 1)), 0), ((.c (.int .i64 12)), 0)]) .unit,
  .p (.un 7 .not (.t 6)) .unit,
  .p (.mv 8 (.t 7)) .unit,
  .g 8 false (some 9) (.mv 9 (.t 0)) .unit,
  .g 8 false (some 10) (.idx 10 (.t 9) (.c (.int .i64 0))) .unit,
  .g 8 false (some 11) (.bin 11 false .lss (.t 10) (.c (.int .u8 97))) .unit,
  .p (.pick 12 (.t 8) (.c (.bool true)) (.t 11)) .unit,
  .p (.mv 13 (.t 12)) .unit,
  .g 13 false (some 14) (.mv 14 (.t 0)) .unit,
  .g 13 false (some 15) (.idx 15 (.t 14) (.c (.int .i64 0))) .unit,
  .g 13 false (some 16) (.bin 16 false .gtr (.t 15) (.c (.int .u8 122))) .unit,
  .p (.pick 17 (.t 13) (.c (.bool true)) (.t 16)) .unit]))
 (.cond (.t 17) (.seq (.reg none [.p (.mv 2 (.c (.bool false))) .unit])
 .ret) .skip))
 (.seq (.seq (.reg none [.p (.mv 3 (.c (.int .i64 0))) .unit])
 (.jl 0 ⟨[(0, true), (3, false)], [.cell .str, .cell (.int .i64)]⟩ ⟨[], []⟩ B_spec_NameOk_1))
 (.seq (.reg none [.p (.mv 2 (.c (.bool true))) .unit])
 .ret)))),
 46, 1, [.t 2]⟩
theorem m_spec_NameOk : mH Try.prog 74 [] = some (F_spec_NameOk.code.x, F_spec_NameOk.N, F_spec_NameOk.np, F_spec_NameOk.res) := by kernel_rfl
noncomputable def T_spec_NameOk : List UInt8 → Option (Bool) := evF [fn_spec_l01In] F_spec_NameOk [.cell .str] [] [.cell .bool] []
noncomputable def fn_spec_NameOk : TFn := ⟨74, [.cell .str], [], [.cell .bool], [], T_spec_NameOk⟩
theorem ok_spec_NameOk : FnOk Try.prog fn_spec_NameOk := evF_ok mixed (allOk_cons ok_spec_l01In allOk_nil) m_spec_NameOk (by decide)
def B_spec_BoxOk_1 : TC := (.seq (.seq (.reg none [.p (.mv 24 (.t 3)) .unit,
  .p (.fadr 25 (.t 1) 1) .unit,
  .p (.load 26 (.t 25) 1 false) .unit,
  .p (.lenB 27 (.t 26)) .unit,
  .p (.bin 28 false .lss (.t 24) (.t 27)) .unit])
 (.cond (.t 28) .skip (.exit 0)))
 (.seq (.block 1 (.seq (.reg none [.p (.fadr 31 (.t 1) 1) .unit,
  .p (.load 32 (.t 31) 1 false) .unit,
  .p (.mv 33 (.t 3)) .unit,
  .p (.iadr 34 1 (.t 32) (.t 33)) .unit,
  .p (.load 35 (.t 34) 1 false) .unit,
  .p (.lenS 36 (.t 35)) .unit,
  .p (.bin 37 false .gtr (.t 36) (.c (.int .i64 60))) .unit])
 (.cond (.t 37) (.seq (.reg none [.p (.mv 2 (.c (.bool false))) .unit])
 .ret) .skip)))
 (.reg none [.p (.mv 29 (.t 3)) .unit,
  .p (.bin 30 false .add (.t 29) (.c (.int .i64 1))) .unit,
  .p (.mv 3 (.t 30)) .unit])))
noncomputable def L_spec_BoxOk_1 : Nat → (List UInt8 × List (List UInt8) × Bool) × Int → Option ((Unit) ⊕ (Bool)) := evL [fn_spec_NameOk] (finT [.t 2] [] [.cell .bool]) 0 ⟨[(1, false), (3, false)], [.box (.pair .str (.pair (.sl false .str) .bool)), .cell (.int .i64)]⟩ ⟨[], []⟩ B_spec_BoxOk_1
def F_spec_BoxOk : TF := ⟨(.seq (.reg none [.p (.box 1 (.t 0)) .unit,
  .p (.mv 2 (.c (.bool false))) .unit])
 (.seq (.seq (.join ⟨[(1, false), (23, false)], [.box (.pair .str (.pair (.sl false .str) .bool)), .cell .bool]⟩ (.reg none [.p (.fadr 4 (.t 1) 0) .unit,
  .p (.load 5 (.t 4) 1 false) .unit,
  .p (.callB 6 n_spec_NameOk [((.t 5), 0)]) .unit,
  .p (.un 7 .not (.t 6)) .unit,
  .p (.mv 8 (.t 7)) .unit,
  .g 8 false (some 9) (.fadr 9 (.t 1) 1) .unit,
  .g 8 false (some 10) (.load 10 (.t 9) 1 false) .unit,
  .g 8 false (some 11) (.lenB 11 (.t 10)) .unit,
  .g 8 false (some 12) (.bin 12 false .gtr (.t 11) (.c (.int .i64 5))) .unit,
  .p (.pick 13 (.t 8) (.c (.bool true)) (.t 12)) .unit,
  .p (.mv 14 (.t 13)) .unit,
  .g 14 false (some 15) (.fadr 15 (.t 1) 2) .unit,
  .g 14 false (some 16) (.load 16 (.t 15) 1 false) .unit,
  .g 14 false (some 17) (.mv 17 (.t 16)) .unit,
  .g 17 true (some 18) (.fadr 18 (.t 1) 1) .unit,
  .g 17 true (some 19) (.load 19 (.t 18) 1 false) .unit,
  .g 17 true (some 20) (.lenB 20 (.t 19)) .unit,
  .g 17 true (some 21) (.bin 21 false .gtr (.t 20) (.c (.int .i64 0))) .unit,
  .g 14 false (some 22) (.pick 22 (.t 17) (.t 21) (.c (.bool false))) .unit,
  .p (.pick 23 (.t 14) (.c (.bool true)) (.t 22)) .unit]))
 (.cond (.t 23) (.seq (.reg none [.p (.mv 2 (.c (.bool false))) .unit])
 .ret) .skip))
 (.seq (.seq (.reg none [.p (.mv 3 (.c (.int .i64 0))) .unit])
 (.jl 0 ⟨[(1, false), (3, false)], [.box (.pair .str (.pair (.sl false .str) .bool)), .cell (.int .i64)]⟩ ⟨[], []⟩ B_spec_BoxOk_1))
 (.seq (.reg none [.p (.mv 2 (.c (.bool true))) .unit])
 .ret)))),
 38, 1, [.t 2]⟩
theorem m_spec_BoxOk : mH Try.prog 20 [] = some (F_spec_BoxOk.code.x, F_spec_BoxOk.N, F_spec_BoxOk.np, F_spec_BoxOk.res) := by kernel_rfl
noncomputable def T_spec_BoxOk : List UInt8 × List (List UInt8) × Bool → Option (Bool) := evF [fn_spec_NameOk] F_spec_BoxOk [.agg (.pair .str (.pair (.sl false .str) .bool))] [] [.cell .bool] []
noncomputable def fn_spec_BoxOk : TFn := ⟨20, [.agg (.pair .str (.pair (.sl false .str) .bool))], [], [.cell .bool], [], T_spec_BoxOk⟩
theorem ok_spec_BoxOk : FnOk Try.prog fn_spec_BoxOk := evF_ok mixed (allOk_cons ok_spec_NameOk allOk_nil) m_spec_BoxOk (by decide)
def F_spec_Drop : TF := ⟨(.seq (.reg none [.p (.box 2 (.t 0)) .unit,
  .p (.alloc 4 [(.lit (.string (ba []))), (.sl true 1 []), (.lit (.bool false))]) .unit])
 (.seq (.reg none [.p (.load 6 (.t 2) 3 true) .unit,
  .p (.callB 7 n_spec_l18Copy [((.t 6), 0)]) .unit,
  .p (.alloc 5 [(.lit (.string (ba []))), (.sl true 1 []), (.lit (.bool false))]) .unit,
  .p (.storeT (.t 5) 7 3) .unit])
 (.seq (.seq (.join ⟨[(1, true), (2, false), (4, false), (5, false), (19, false)], [.cell .str, .box (.pair .str (.pair (.sl false .str) .bool)), .box (.pair .str (.pair (.sl true .str) .bool)), .box (.pair .str (.pair (.sl true .str) .bool)), .cell .bool]⟩ (.reg none [.p (.load 8 (.t 2) 3 true) .unit,
  .p (.callB 9 n_spec_BoxOk [((.t 8), 0)]) .unit,
  .p (.un 10 .not (.t 9)) .unit,
  .p (.mv 11 (.t 10)) .unit,
  .g 11 false (some 12) (.fadr 12 (.t 2) 2) .unit,
  .g 11 false (some 13) (.load 13 (.t 12) 1 false) .unit,
  .p (.pick 14 (.t 11) (.c (.bool true)) (.t 13)) .unit,
  .p (.mv 15 (.t 14)) .unit,
  .g 15 false (some 16) (.mv 16 (.t 1)) .unit,
  .g 15 false (some 17) (.lenS 17 (.t 16)) .unit,
  .g 15 false (some 18) (.bin 18 false .gtr (.t 17) (.c (.int .i64 60))) .unit,
  .p (.pick 19 (.t 15) (.c (.bool true)) (.t 18)) .unit]))
 (.cond (.t 19) (.seq (.reg none [.p (.loadT 20 (.t 5) 3 true) .unit,
  .p (.storeT (.t 4) 20 3) .unit])
 .ret) .skip))
 (.seq (.seq (.reg none [.p (.fadr 21 (.t 2) 1) .unit,
  .p (.load 22 (.t 21) 1 false) .unit,
  .p (.lenB 23 (.t 22)) .unit,
  .p (.bin 24 false .eql (.t 23) (.c (.int .i64 5))) .unit])
 (.cond (.t 24) (.seq (.reg none [.p (.fadr 25 (.t 2) 0) .unit,
  .p (.load 26 (.t 25) 1 false) .unit,
  .p (.bld 27 [(.lit (.string (ba []))), (.sl true 1 []), (.lit (.bool false))] [⟨0, 1, (.t 26)⟩, ⟨2, 1, (.c (.bool true))⟩]) .unit,
  .p (.storeT (.t 4) 27 3) .unit])
 .ret) .skip))
 (.seq (.reg none [.p (.fadr 28 (.t 5) 1) .unit,
  .p (.loadT 29 (.t 28) 1 false) .unit,
  .p (.mv 30 (.t 1)) .unit,
  .p (.bldZ 31 1 [(.lit (.string (ba [])))] [⟨0, 1, (.t 30)⟩]) .str,
  .p (.app 32 1 16 (.t 29) (.t 31)) .str,
  .p (.fadr 33 (.t 5) 1) .unit,
  .p (.storeT (.t 33) 32 1) .unit])
 (.seq (.reg none [.p (.loadT 34 (.t 5) 3 true) .unit,
  .p (.storeT (.t 4) 34 3) .unit])
 .ret)))))),
 35, 2, [.c 4 3 true]⟩
theorem m_spec_Drop : mH Try.prog 50 [(1, 3, .t), (3, 0, .t), (3, 1, .t), (5, 3, .t), (6, 1, .t), (6, 3, .z), (6, 6, .t), (7, 0, .t), (7, 1, .t)] = some (F_spec_Drop.code.x, F_spec_Drop.N, F_spec_Drop.np, F_spec_Drop.res) := by kernel_rfl
noncomputable def T_spec_Drop : (List UInt8 × List (List UInt8) × Bool) × List UInt8 → Option (List UInt8 × List (List UInt8) × Bool) := evF [fn_spec_l18Copy, fn_spec_BoxOk] F_spec_Drop [.agg (.pair .str (.pair (.sl false .str) .bool)), .cell .str] [] [.agg (.pair .str (.pair (.sl true .str) .bool))] []
noncomputable def fn_spec_Drop : TFn := ⟨50, [.agg (.pair .str (.pair (.sl false .str) .bool)), .cell .str], [], [.agg (.pair .str (.pair (.sl true .str) .bool))], [], T_spec_Drop⟩
theorem ok_spec_Drop : FnOk Try.prog fn_spec_Drop := evF_ok mixed (allOk_cons ok_spec_l18Copy (allOk_cons ok_spec_BoxOk allOk_nil)) m_spec_Drop (by decide)
def F_spec_l01Once : TF := ⟨(.seq (.reg none [.p (.mv 4 (.c (.bool false))) .unit])
 (.seq (.reg none [.p (.mvA 5 0) .unit,
  .p (.mv 6 (.t 1)) .unit,
  .p (.callM 7 n_spec_l01Below [] (.ptrS (.t 5) 0) [((.t 6), 0)]) .unit,
  .p (.bin 8 false .eql (.t 7) (.c (.int .i64 0))) .unit,
  .p (.mv 4 (.t 8)) .unit])
 .ret)),
 9, 2, [.t 4]⟩
theorem m_spec_l01Once : mH Try.prog 107 [(1, 0, .v), (1, 2, (.ps 0 0))] = some (F_spec_l01Once.code.x, F_spec_l01Once.N, F_spec_l01Once.np, F_spec_l01Once.res) := by kernel_rfl
noncomputable def T_spec_l01Once : (List (Int) × Int × Int) × Int → Option ((Bool) × List (Int) × Int × Int) := evF [fn_spec_l01Below] F_spec_l01Once [.box (.pair (.sl false (.int .u8)) (.pair (.int .i64) (.int .i64))), .cell (.int .i64)] [0] [.cell .bool] [.box (.pair (.sl false (.int .u8)) (.pair (.int .i64) (.int .i64)))]
noncomputable def fn_spec_l01Once : TFn := ⟨107, [.box (.pair (.sl false (.int .u8)) (.pair (.int .i64) (.int .i64))), .cell (.int .i64)], [0], [.cell .bool], [.box (.pair (.sl false (.int .u8)) (.pair (.int .i64) (.int .i64)))], T_spec_l01Once⟩
theorem ok_spec_l01Once : FnOk Try.prog fn_spec_l01Once := evF_ok mixed (allOk_cons ok_spec_l01Below allOk_nil) m_spec_l01Once (by decide)
def F_spec_Fetch : TF := ⟨(.seq (.reg none [.p (.box 1 (.t 0)) .unit,
  .p (.alloc 2 [(.lit (.string (ba []))), (.sl true 1 []), (.lit (.bool false))]) .unit,
  .p (.mv 3 (.c (.string (ba [])))) .unit,
  .p (.mv 4 (.c (.bool false))) .unit])
 (.seq (.seq (.join ⟨[(1, false), (2, false), (15, false)], [.box (.pair .str (.pair (.sl false .str) .bool)), .box (.pair .str (.pair (.sl true .str) .bool)), .cell .bool]⟩ (.reg none [.p (.load 7 (.t 1) 3 true) .unit,
  .p (.callB 8 n_spec_BoxOk [((.t 7), 0)]) .unit,
  .p (.un 9 .not (.t 8)) .unit,
  .p (.mv 10 (.t 9)) .unit,
  .g 10 false (some 11) (.fadr 11 (.t 1) 1) .unit,
  .g 10 false (some 12) (.load 12 (.t 11) 1 false) .unit,
  .g 10 false (some 13) (.lenB 13 (.t 12)) .unit,
  .g 10 false (some 14) (.bin 14 false .eql (.t 13) (.c (.int .i64 0))) .unit,
  .p (.pick 15 (.t 10) (.c (.bool true)) (.t 14)) .unit]))
 (.cond (.t 15) (.seq (.reg none [.p (.load 16 (.t 1) 3 true) .unit,
  .p (.callB 17 n_spec_l18Copy [((.t 16), 0)]) .unit,
  .p (.storeT (.t 2) 17 3) .unit,
  .p (.mv 3 (.c (.string (ba [])))) .unit,
  .p (.mv 4 (.c (.bool false))) .unit])
 .ret) .skip))
 (.seq (.reg none [.p (.load 18 (.t 1) 3 true) .unit,
  .p (.callB 19 n_spec_l18Copy [((.t 18), 0)]) .unit,
  .p (.alloc 5 [(.lit (.string (ba []))), (.sl true 1 []), (.lit (.bool false))]) .unit,
  .p (.storeT (.t 5) 19 3) .unit])
 (.seq (.reg none [.p (.fadr 20 (.t 5) 1) .unit,
  .p (.load 21 (.t 20) 1 false) .unit,
  .p (.iadr 22 1 (.t 21) (.c (.int .i64 0))) .unit,
  .p (.load 23 (.t 22) 1 false) .unit,
  .p (.mv 6 (.t 23)) .unit])
 (.seq (.reg none [.p (.bldS 24 0 [(.lit (.string (ba [])))] []) .str,
  .p (.fadr 25 (.t 5) 1) .unit,
  .p (.loadT 26 (.t 25) 1 false) .unit,
  .p (.cutT 27 1 26 (some (.c (.int .i64 1))) none) .unit,
  .p (.app 28 1 16 (.t 24) (.t 27)) .str,
  .p (.fadr 29 (.t 5) 1) .unit,
  .p (.storeT (.t 29) 28 1) .unit])
 (.seq (.reg none [.p (.loadT 30 (.t 5) 3 true) .unit,
  .p (.mv 31 (.t 6)) .unit,
  .p (.storeT (.t 2) 30 3) .unit,
  .p (.mv 3 (.t 31)) .unit,
  .p (.mv 4 (.c (.bool true))) .unit])
 .ret)))))),
 32, 1, [.c 2 3 true, .t 3, .t 4]⟩
theorem m_spec_Fetch : mH Try.prog 53 [(2, 2, .t), (3, 3, .t), (5, 2, .t), (5, 3, .t), (5, 6, .t), (6, 0, .t), (6, 2, .t)] = some (F_spec_Fetch.code.x, F_spec_Fetch.N, F_spec_Fetch.np, F_spec_Fetch.res) := by kernel_rfl
noncomputable def T_spec_Fetch : List UInt8 × List (List UInt8) × Bool → Option ((List UInt8 × List (List UInt8) × Bool) × (List UInt8) × Bool) := evF [fn_spec_BoxOk, fn_spec_l18Copy] F_spec_Fetch [.agg (.pair .str (.pair (.sl false .str) .bool))] [] [.agg (.pair .str (.pair (.sl true .str) .bool)), .cell .str, .cell .bool] []
noncomputable def fn_spec_Fetch : TFn := ⟨53, [.agg (.pair .str (.pair (.sl false .str) .bool))], [], [.agg (.pair .str (.pair (.sl true .str) .bool)), .cell .str, .cell .bool], [], T_spec_Fetch⟩
theorem ok_spec_Fetch : FnOk Try.prog fn_spec_Fetch := evF_ok mixed (allOk_cons ok_spec_BoxOk (allOk_cons ok_spec_l18Copy allOk_nil)) m_spec_Fetch (by decide)
def B_spec_l01Long_1 : TC := (.seq (.seq (.reg none [.p (.mv 9 (.t 6)) .unit,
  .p (.mv 10 (.t 0)) .unit,
  .p (.bin 11 false .lss (.t 9) (.t 10)) .unit])
 (.cond (.t 11) .skip (.exit 0)))
 (.seq (.block 1 (.reg none [.p (.mvA 14 5) .unit,
  .p (.mv 15 (.t 6)) .unit,
  .p (.mv 16 (.t 1)) .unit,
  .p (.iadr 17 1 (.t 14) (.t 15)) .unit,
  .p (.store (.t 17) (.t 16) 1) .unit]))
 (.reg none [.p (.mv 12 (.t 6)) .unit,
  .p (.bin 13 false .add (.t 12) (.c (.int .i64 1))) .unit,
  .p (.mv 6 (.t 13)) .unit])))
noncomputable def L_spec_l01Long_1 : Nat → (Int) × (Int) × (List (Int)) × Int → Option ((List (Int)) ⊕ (List UInt8)) := evL [] (finT [.t 4] [] [.cell .str]) 0 ⟨[(0, true), (1, true), (5, false), (6, false)], [.cell (.int .i64), .cell (.int .u8), .cell (.sl true (.int .u8)), .cell (.int .i64)]⟩ ⟨[(5, false)], [.cell (.sl true (.int .u8))]⟩ B_spec_l01Long_1
def F_spec_l01Long : TF := ⟨(.seq (.reg none [.p (.mv 4 (.c (.string (ba [])))) .unit])
 (.seq (.reg none [.p (.mv 7 (.t 0)) .unit,
  .p (.mkS 8 1 [(.lit (.int .u8 0))] (.t 7) (.t 7)) (.int .u8),
  .p (.mvT 5 8) .unit])
 (.seq (.seq (.reg none [.p (.mv 6 (.c (.int .i64 0))) .unit])
 (.jl 0 ⟨[(0, true), (1, true), (5, false), (6, false)], [.cell (.int .i64), .cell (.int .u8), .cell (.sl true (.int .u8)), .cell (.int .i64)]⟩ ⟨[(5, false)], [.cell (.sl true (.int .u8))]⟩ B_spec_l01Long_1))
 (.seq (.reg none [.p (.mvT 18 5) .unit,
  .p (.b2s 19 (.t 18)) .unit,
  .p (.mv 4 (.t 19)) .unit])
 .ret)))),
 20, 2, [.t 4]⟩
theorem m_spec_l01Long : mH Try.prog 108 [(1, 2, .t), (5, 0, .v), (6, 0, .t)] = some (F_spec_l01Long.code.x, F_spec_l01Long.N, F_spec_l01Long.np, F_spec_l01Long.res) := by kernel_rfl
noncomputable def T_spec_l01Long : (Int) × Int → Option (List UInt8) := evF [] F_spec_l01Long [.cell (.int .i64), .cell (.int .u8)] [] [.cell .str] []
noncomputable def fn_spec_l01Long : TFn := ⟨108, [.cell (.int .i64), .cell (.int .u8)], [], [.cell .str], [], T_spec_l01Long⟩
theorem ok_spec_l01Long : FnOk Try.prog fn_spec_l01Long := evF_ok mixed allOk_nil m_spec_l01Long (by decide)
def B_spec_l18Box_1 : TC := (.seq (.seq (.reg none [.p (.mv 10 (.t 4)) .unit,
  .p (.mvA 11 0) .unit,
  .p (.callM 12 n_spec_l01Below [] (.ptrS (.t 11) 0) [((.c (.int .i64 8)), 0)]) .unit,
  .p (.bin 13 false .lss (.t 10) (.t 12)) .unit])
 (.cond (.t 13) .skip (.exit 0)))
 (.seq (.join ⟨[(0, true), (2, false), (3, false), (4, false)], [.box (.pair (.sl false (.int .u8)) (.pair (.int .i64) (.int .i64))), .box (.pair .str (.pair (.sl true .str) .bool)), .box (.pair .str (.pair (.sl true .str) .bool)), .cell (.int .i64)]⟩ (.block 1 (.seq (.reg (some [[], [], [1], [0, 2, 2], [3, 3, 0, 1, 2, 3]]) [.p (.load 16 (.t 3) 3 true) .unit,
  .p (.mvA 17 0) .unit,
  .p (.callM 18 n_spec_l03Name [] (.ptrS (.t 17) 0) []) .unit,
  .p (.callB 19 n_spec_Drop [((.t 16), 0), ((.t 18), 0)]) .unit,
  .p (.storeT (.t 3) 19 3) .unit])
 (.seq (.reg none [.p (.mvA 20 0) .unit,
  .p (.callM 21 n_spec_l01Once [] (.ptrS (.t 20) 0) [((.c (.int .i64 4)), 0)]) .unit])
 (.cond (.t 21) (.reg none [.p (.load 23 (.t 3) 3 true) .unit,
  .p (.callB 24 n_spec_Fetch [((.t 23), 0)]) .unit,
  .p (.mvT 22 24) .unit,
  .p (.extT 25 22 0) .unit,
  .p (.ext 26 (.t 22) 1) .unit,
  .p (.ext 27 (.t 22) 2) .unit,
  .p (.storeT (.t 3) 25 3) .unit]) .skip)))))
 (.reg none [.p (.mv 14 (.t 4)) .unit,
  .p (.bin 15 false .add (.t 14) (.c (.int .i64 1))) .unit,
  .p (.mv 4 (.t 15)) .unit])))
noncomputable def L_spec_l18Box_1 : Nat → (List (Int) × Int × Int) × (List UInt8 × List (List UInt8) × Bool) × (List UInt8 × List (List UInt8) × Bool) × Int → Option (((List (Int) × Int × Int) × (List UInt8 × List (List UInt8) × Bool) × List UInt8 × List (List UInt8) × Bool) ⊕ ((List UInt8 × List (List UInt8) × Bool) × List (Int) × Int × Int)) := evL [fn_spec_l01Below, fn_spec_Decimal, fn_spec_l03Name, fn_spec_Drop, fn_spec_l01Once, fn_spec_Fetch, fn_spec_l01Pick, fn_spec_l01Long] (finT [.c 2 3 true] [0] [.agg (.pair .str (.pair (.sl true .str) .bool)), .box (.pair (.sl false (.int .u8)) (.pair (.int .i64) (.int .i64)))]) 0 ⟨[(0, true), (2, false), (3, false), (4, false)], [.box (.pair (.sl false (.int .u8)) (.pair (.int .i64) (.int .i64))), .box (.pair .str (.pair (.sl true .str) .bool)), .box (.pair .str (.pair (.sl true .str) .bool)), .cell (.int .i64)]⟩ ⟨[(0, true), (2, false), (3, false)], [.box (.pair (.sl false (.int .u8)) (.pair (.int .i64) (.int .i64))), .box (.pair .str (.pair (.sl true .str) .bool)), .box (.pair .str (.pair (.sl true .str) .bool))]⟩ B_spec_l18Box_1
def B_spec_l18Box_2 : TC := (.seq (.seq (.reg none [.p (.fadr 57 (.t 3) 1) .unit,
  .p (.load 58 (.t 57) 1 false) .unit,
  .p (.lenB 59 (.t 58)) .unit,
  .p (.bin 60 false .leq (.t 59) (.c (.int .i64 5))) .unit])
 (.cond (.t 60) .skip (.exit 3)))
 (.block 4 (.reg none [.p (.bldS 61 0 [(.lit (.string (ba [])))] []) .str,
  .p (.fadr 62 (.t 3) 1) .unit,
  .p (.load 63 (.t 62) 1 false) .unit,
  .p (.app 64 1 16 (.t 61) (.t 63)) .str,
  .p (.bldS 65 1 [(.lit (.string (ba [])))] [⟨0, 1, (.c (.string (ba [120])))⟩]) .str,
  .p (.app 66 1 16 (.t 64) (.t 65)) .str,
  .p (.fadr 67 (.t 3) 1) .unit,
  .p (.storeT (.t 67) 66 1) .unit])))
noncomputable def L_spec_l18Box_2 : Nat → (List (Int) × Int × Int) × (List UInt8 × List (List UInt8) × Bool) × List UInt8 × List (List UInt8) × Bool → Option (((List (Int) × Int × Int) × (List UInt8 × List (List UInt8) × Bool) × List UInt8 × List (List UInt8) × Bool) ⊕ ((List UInt8 × List (List UInt8) × Bool) × List (Int) × Int × Int)) := evL [fn_spec_l01Below, fn_spec_Decimal, fn_spec_l03Name, fn_spec_Drop, fn_spec_l01Once, fn_spec_Fetch, fn_spec_l01Pick, fn_spec_l01Long] (finT [.c 2 3 true] [0] [.agg (.pair .str (.pair (.sl true .str) .bool)), .box (.pair (.sl false (.int .u8)) (.pair (.int .i64) (.int .i64)))]) 3 ⟨[(0, true), (2, false), (3, false)], [.box (.pair (.sl false (.int .u8)) (.pair (.int .i64) (.int .i64))), .box (.pair .str (.pair (.sl true .str) .bool)), .box (.pair .str (.pair (.sl true .str) .bool))]⟩ ⟨[(0, true), (2, false), (3, false)], [.box (.pair (.sl false (.int .u8)) (.pair (.int .i64) (.int .i64))), .box (.pair .str (.pair (.sl true .str) .bool)), .box (.pair .str (.pair (.sl true .str) .bool))]⟩ B_spec_l18Box_2
def F_spec_l18Box : TF := ⟨(.seq (.reg none [.p (.alloc 2 [(.lit (.string (ba []))), (.sl true 1 []), (.lit (.bool false))]) .unit])
 (.seq (.reg none [.p (.mvA 5 0) .unit,
  .p (.callM 6 n_spec_l01Below [] (.ptrS (.t 5) 0) [((.c (.int .i64 5)), 0)]) .unit,
  .p (.callB 7 n_spec_Decimal [((.t 6), 0)]) .unit,
  .p (.bin 8 false .add (.c (.string (ba [99]))) (.t 7)) .unit,
  .p (.bld 9 [(.lit (.string (ba []))), (.sl true 1 []), (.lit (.bool false))] [⟨0, 1, (.t 8)⟩]) .unit,
  .p (.alloc 3 [(.lit (.string (ba []))), (.sl true 1 []), (.lit (.bool false))]) .unit,
  .p (.storeT (.t 3) 9 3) .unit])
 (.seq (.seq (.reg none [.p (.mv 4 (.c (.int .i64 0))) .unit])
 (.jl 0 ⟨[(0, true), (2, false), (3, false), (4, false)], [.box (.pair (.sl false (.int .u8)) (.pair (.int .i64) (.int .i64))), .box (.pair .str (.pair (.sl true .str) .bool)), .box (.pair .str (.pair (.sl true .str) .bool)), .cell (.int .i64)]⟩ ⟨[(0, true), (2, false), (3, false)], [.box (.pair (.sl false (.int .u8)) (.pair (.int .i64) (.int .i64))), .box (.pair .str (.pair (.sl true .str) .bool)), .box (.pair .str (.pair (.sl true .str) .bool))]⟩ B_spec_l18Box_1))
 (.seq (.join ⟨[(0, true), (2, false), (3, false)], [.box (.pair (.sl false (.int .u8)) (.pair (.int .i64) (.int .i64))), .box (.pair .str (.pair (.sl true .str) .bool)), .box (.pair .str (.pair (.sl true .str) .bool))]⟩ (.seq (.reg none [.p (.mvA 28 0) .unit,
  .p (.callM 29 n_spec_l01Below [] (.ptrS (.t 28) 0) [((.c (.int .i64 16)), 0)]) .unit])
 (.block 2 (.seq (.reg none [.p (.bin 31 false .eql (.t 29) (.c (.int .i64 0))) .unit,
  .p (.mv 30 (.t 31)) .unit])
 (.cond (.t 30) (.reg none [.p (.mvA 32 0) .unit,
  .p (.bldZ 33 2 [(.lit (.string (ba [])))] [⟨0, 1, (.c (.string (ba [])))⟩, ⟨1, 1, (.c (.string (ba [67])))⟩]) .str,
  .p (.callM 34 n_spec_l01Pick [] (.ptrS (.t 32) 0) [((.t 33), 0)]) .unit,
  .p (.fadr 35 (.t 3) 0) .unit,
  .p (.store (.t 35) (.t 34) 1) .unit]) (.seq (.reg none [.p (.bin 37 false .eql (.t 29) (.c (.int .i64 1))) .unit,
  .p (.mv 36 (.t 37)) .unit])
 (.cond (.t 36) (.reg none [.p (.fadr 38 (.t 3) 2) .unit,
  .p (.load 39 (.t 38) 1 false) .unit,
  .p (.un 40 .not (.t 39)) .unit,
  .p (.fadr 41 (.t 3) 2) .unit,
  .p (.store (.t 41) (.t 40) 1) .unit]) (.seq (.reg none [.p (.bin 43 false .eql (.t 29) (.c (.int .i64 2))) .unit,
  .p (.mv 42 (.t 43)) .unit])
 (.cond (.t 42) (.reg none [.p (.bldS 44 0 [(.lit (.string (ba [])))] []) .str,
  .p (.fadr 45 (.t 3) 1) .unit,
  .p (.load 46 (.t 45) 1 false) .unit,
  .p (.app 47 1 16 (.t 44) (.t 46)) .str,
  .p (.mvA 48 0) .unit,
  .p (.callM 49 n_spec_l01Below [] (.ptrS (.t 48) 0) [((.c (.int .i64 2)), 0)]) .unit,
  .p (.bin 50 false .add (.c (.int .i64 60)) (.t 49)) .unit,
  .p (.callB 51 n_spec_l01Long [((.t 50), 0), ((.c (.int .u8 65)), 0)]) .unit,
  .p (.bldS 52 1 [(.lit (.string (ba [])))] [⟨0, 1, (.t 51)⟩]) .str,
  .p (.app 53 1 16 (.t 47) (.t 52)) .str,
  .p (.fadr 54 (.t 3) 1) .unit,
  .p (.storeT (.t 54) 53 1) .unit]) (.seq (.reg none [.p (.bin 56 false .eql (.t 29) (.c (.int .i64 3))) .unit,
  .p (.mv 55 (.t 56)) .unit])
 (.cond (.t 55) (.jl 3 ⟨[(0, true), (2, false), (3, false)], [.box (.pair (.sl false (.int .u8)) (.pair (.int .i64) (.int .i64))), .box (.pair .str (.pair (.sl true .str) .bool)), .box (.pair .str (.pair (.sl true .str) .bool))]⟩ ⟨[(0, true), (2, false), (3, false)], [.box (.pair (.sl false (.int .u8)) (.pair (.int .i64) (.int .i64))), .box (.pair .str (.pair (.sl true .str) .bool)), .box (.pair .str (.pair (.sl true .str) .bool))]⟩ B_spec_l18Box_2) .skip)))))))))))
 (.seq (.reg none [.p (.loadT 68 (.t 3) 3 true) .unit,
  .p (.storeT (.t 2) 68 3) .unit])
 .ret))))),
 69, 1, [.c 2 3 true]⟩
theorem m_spec_l18Box : mH Try.prog 106 [(1, 0, .v), (1, 1, (.ps 0 0)), (1, 6, .t), (3, 1, .v), (3, 2, (.ps 0 0)), (5, 1, .v), (5, 2, (.ps 0 0)), (5, 4, .t), (6, 0, .v), (6, 1, (.ps 0 0)), (7, 2, .t), (7, 3, .t), (7, 6, .t), (8, 0, .v), (8, 1, (.ps 0 0)), (10, 0, .v), (10, 1, .z), (10, 2, (.ps 0 0)), (14, 4, .v), (14, 5, (.ps 0 0)), (14, 11, .t), (17, 7, .t), (18, 0, .t), (18, 1, .t)] = some (F_spec_l18Box.code.x, F_spec_l18Box.N, F_spec_l18Box.np, F_spec_l18Box.res) := by kernel_rfl
noncomputable def T_spec_l18Box : List (Int) × Int × Int → Option ((List UInt8 × List (List UInt8) × Bool) × List (Int) × Int × Int) := evF [fn_spec_l01Below, fn_spec_Decimal, fn_spec_l03Name, fn_spec_Drop, fn_spec_l01Once, fn_spec_Fetch, fn_spec_l01Pick, fn_spec_l01Long] F_spec_l18Box [.box (.pair (.sl false (.int .u8)) (.pair (.int .i64) (.int .i64)))] [0] [.agg (.pair .str (.pair (.sl true .str) .bool))] [.box (.pair (.sl false (.int .u8)) (.pair (.int .i64) (.int .i64)))]
noncomputable def fn_spec_l18Box : TFn := ⟨106, [.box (.pair (.sl false (.int .u8)) (.pair (.int .i64) (.int .i64)))], [0], [.agg (.pair .str (.pair (.sl true .str) .bool))], [.box (.pair (.sl false (.int .u8)) (.pair (.int .i64) (.int .i64)))], T_spec_l18Box⟩
theorem ok_spec_l18Box : FnOk Try.prog fn_spec_l18Box := evF_ok mixed (allOk_cons ok_spec_l01Below (allOk_cons ok_spec_Decimal (allOk_cons ok_spec_l03Name (allOk_cons ok_spec_Drop (allOk_cons ok_spec_l01Once (allOk_cons ok_spec_Fetch (allOk_cons ok_spec_l01Pick (allOk_cons ok_spec_l01Long allOk_nil)))))))) m_spec_l18Box (by decide)
def F_spec_DrawDrop : TF := ⟨(.seq (.reg none [.p (.alloc 2 [(.lit (.string (ba []))), (.sl true 1 []), (.lit (.bool false))]) .unit,
  .p (.mv 3 (.c (.string (ba [])))) .unit])
 (.seq (.reg none [.p (.mv 6 (.t 0)) .unit,
  .p (.callS 7 n_spec_l01New [(.t 6)]) .unit,
  .p (.mvT 4 7) .unit])
 (.seq (.reg none [.p (.mvA 8 4) .unit,
  .p (.callM 9 n_spec_l18Box [] (.ptrS (.t 8) 4) []) .unit,
  .p (.alloc 5 [(.lit (.string (ba []))), (.sl true 1 []), (.lit (.bool false))]) .unit,
  .p (.storeT (.t 5) 9 3) .unit])
 (.seq (.seq (.reg none [.p (.mvA 10 4) .unit,
  .p (.callM 11 n_spec_l01Once [] (.ptrS (.t 10) 4) [((.c (.int .i64 10)), 0)]) .unit])
 (.cond (.t 11) (.seq (.reg (some [[], [], [1], [2], [3, 2], [0, 4, 0], [4, 5, 0, 1, 2, 3, 4, 5]]) [.p (.loadT 12 (.t 5) 3 true) .unit,
  .p (.mvT 13 4) .unit,
  .p (.callM 14 n_spec_l01Below [] (.tmpS 13) [((.c (.int .i64 2)), 0)]) .unit,
  .p (.bin 15 false .add (.c (.int .i64 60)) (.t 14)) .unit,
  .p (.callB 16 n_spec_l01Long [((.t 15), 0), ((.c (.int .u8 65)), 0)]) .unit,
  .p (.storeT (.t 2) 12 3) .unit,
  .p (.mv 3 (.t 16)) .unit])
 .ret) .skip))
 (.seq (.reg (some [[], [], [1], [0, 2, 0], [2, 3, 0, 1, 2, 3]]) [.p (.loadT 17 (.t 5) 3 true) .unit,
  .p (.mvT 18 4) .unit,
  .p (.callM 19 n_spec_l03Name [] (.tmpS 18) []) .unit,
  .p (.storeT (.t 2) 17 3) .unit,
  .p (.mv 3 (.t 19)) .unit])
 .ret))))),
 20, 1, [.c 2 3 true, .t 3]⟩
theorem m_spec_DrawDrop : mH Try.prog 54 [(1, 1, .z), (1, 2, .t), (2, 0, .v), (2, 1, (.ps 0 4)), (2, 3, .t), (3, 0, .v), (3, 1, (.ps 0 4)), (4, 0, .t), (4, 1, .t), (4, 2, (.ms 0)), (4, 5, .t), (5, 0, .t), (5, 1, .t), (5, 2, (.ms 0)), (5, 3, .t)] = some (F_spec_DrawDrop.code.x, F_spec_DrawDrop.N, F_spec_DrawDrop.np, F_spec_DrawDrop.res) := by kernel_rfl
noncomputable def T_spec_DrawDrop : List (Int) → Option ((List UInt8 × List (List UInt8) × Bool) × List UInt8) := evF [fn_spec_l01New, fn_spec_l18Box, fn_spec_l01Once, fn_spec_l01Below, fn_spec_l01Long, fn_spec_l03Name] F_spec_DrawDrop [.cell (.sl false (.int .u8))] [] [.agg (.pair .str (.pair (.sl true .str) .bool)), .cell .str] []
noncomputable def fn_spec_DrawDrop : TFn := ⟨54, [.cell (.sl false (.int .u8))], [], [.agg (.pair .str (.pair (.sl true .str) .bool)), .cell .str], [], T_spec_DrawDrop⟩
theorem ok_spec_DrawDrop : FnOk Try.prog fn_spec_DrawDrop := evF_ok mixed (allOk_cons ok_spec_l01New (allOk_cons ok_spec_l18Box (allOk_cons ok_spec_l01Once (allOk_cons ok_spec_l01Below (allOk_cons ok_spec_l01Long (allOk_cons ok_spec_l03Name allOk_nil)))))) m_spec_DrawDrop (by decide)
def F_slices_Clone___string_string_ : TF := ⟨(.seq (.reg none [.p (.mvN 2 1) .unit])
 (.seq (.seq (.nq [.p (.mv 3 (.t 0)) .unit] 4 false (.t 3))
 (.cond (.t 4) (.seq (.reg none [.p (.mvN 2 1) .unit])
 .ret) .skip))
 (.seq (.reg none [.p (.bldS 5 0 [(.lit (.string (ba [])))] []) .str,
  .p (.mv 6 (.t 0)) .unit,
  .p (.app 7 1 16 (.t 5) (.t 6)) .str,
  .p (.mvT 2 7) .unit])
 .ret))),
 8, 1, [.t 2]⟩
theorem m_slices_Clone___string_string_ : mH Try.prog 101 [(3, 3, .t)] = some (F_slices_Clone___string_string_.code.x, F_slices_Clone___string_string_.N, F_slices_Clone___string_string_.np, F_slices_Clone___string_string_.res) := by kernel_rfl
noncomputable def T_slices_Clone___string_string_ : List (List UInt8) → Option (List (List UInt8)) := evF [] F_slices_Clone___string_string_ [.cell (.sl false .str)] [] [.cell (.sl true .str)] []
noncomputable def fn_slices_Clone___string_string_ : TFn := ⟨101, [.cell (.sl false .str)], [], [.cell (.sl true .str)], [], T_slices_Clone___string_string_⟩
theorem ok_slices_Clone___string_string_ : FnOk Try.prog fn_slices_Clone___string_string_ := evF_ok mixed allOk_nil m_slices_Clone___string_string_ (by decide)
def F_impl_copyBox : TF := ⟨(.seq (.reg none [.p (.box 1 (.t 0)) .unit,
  .p (.alloc 2 [(.lit (.string (ba []))), (.sl true 1 []), (.lit (.bool false))]) .unit])
 (.seq (.reg none [.p (.fadr 3 (.t 1) 1) .unit,
  .p (.load 4 (.t 3) 1 false) .unit,
  .p (.callB 5 n_slices_Clone___string_string_ [((.t 4), 0)]) .unit,
  .p (.fadr 6 (.t 1) 1) .unit,
  .p (.storeT (.t 6) 5 1) .unit])
 (.seq (.reg none [.p (.loadT 7 (.t 1) 3 true) .unit,
  .p (.storeT (.t 2) 7 3) .unit])
 .ret))),
 8, 1, [.c 2 3 true]⟩
theorem m_impl_copyBox : mH Try.prog 81 [(1, 4, .t), (2, 0, .t), (2, 1, .t)] = some (F_impl_copyBox.code.x, F_impl_copyBox.N, F_impl_copyBox.np, F_impl_copyBox.res) := by kernel_rfl
noncomputable def T_impl_copyBox : List UInt8 × List (List UInt8) × Bool → Option (List UInt8 × List (List UInt8) × Bool) := evF [fn_slices_Clone___string_string_] F_impl_copyBox [.agg (.pair .str (.pair (.sl false .str) .bool))] [] [.agg (.pair .str (.pair (.sl true .str) .bool))] []
noncomputable def fn_impl_copyBox : TFn := ⟨81, [.agg (.pair .str (.pair (.sl false .str) .bool))], [], [.agg (.pair .str (.pair (.sl true .str) .bool))], [], T_impl_copyBox⟩
theorem ok_impl_copyBox : FnOk Try.prog fn_impl_copyBox := evF_ok mixed (allOk_cons ok_slices_Clone___string_string_ allOk_nil) m_impl_copyBox (by decide)
def F_impl_inRange : TF := ⟨(.seq (.reg none [.p (.mv 6 (.c (.bool false))) .unit])
 (.seq (.reg none [.p (.mv 7 (.t 0)) .unit,
  .p (.mv 8 (.t 1)) .unit,
  .p (.bin 9 false .geq (.t 7) (.t 8)) .unit,
  .p (.mv 10 (.t 9)) .unit,
  .g 10 true (some 11) (.mv 11 (.t 0)) .unit,
  .g 10 true (some 12) (.mv 12 (.t 2)) .unit,
  .g 10 true (some 13) (.bin 13 false .leq (.t 11) (.t 12)) .unit,
  .p (.pick 14 (.t 10) (.t 13) (.c (.bool false))) .unit,
  .p (.mv 6 (.t 14)) .unit])
 .ret)),
 15, 3, [.t 6]⟩
theorem m_impl_inRange : mH Try.prog 71 [] = some (F_impl_inRange.code.x, F_impl_inRange.N, F_impl_inRange.np, F_impl_inRange.res) := by kernel_rfl
noncomputable def T_impl_inRange : (Int) × (Int) × Int → Option (Bool) := evF [] F_impl_inRange [.cell (.int .i64), .cell (.int .i64), .cell (.int .i64)] [] [.cell .bool] []
noncomputable def fn_impl_inRange : TFn := ⟨71, [.cell (.int .i64), .cell (.int .i64), .cell (.int .i64)], [], [.cell .bool], [], T_impl_inRange⟩
theorem ok_impl_inRange : FnOk Try.prog fn_impl_inRange := evF_ok mixed allOk_nil m_impl_inRange (by decide)
def B_impl_NameOk_1 : TC := (.seq (.seq (.reg none [.p (.mv 5 (.t 3)) .unit,
  .p (.mv 6 (.t 0)) .unit,
  .p (.lenS 7 (.t 6)) .unit,
  .p (.bin 8 false .lss (.t 5) (.t 7)) .unit])
 (.cond (.t 8) .skip (.exit 0)))
 (.seq (.block 1 (.seq (.join ⟨[(0, true), (3, false), (4, false)], [.cell .str, .cell (.int .i64), .cell .bool]⟩ (.reg none [.p (.mv 11 (.t 0)) .unit,
  .p (.mv 12 (.t 3)) .unit,
  .p (.idx 13 (.t 11) (.t 12)) .unit,
  .p (.bin 14 false .geq (.t 13) (.c (.int .u8 97))) .unit,
  .p (.mv 15 (.t 14)) .unit,
  .g 15 true (some 16) (.mv 16 (.t 0)) .unit,
  .g 15 true (some 17) (.mv 17 (.t 3)) .unit,
  .g 15 true (some 18) (.idx 18 (.t 16) (.t 17)) .unit,
  .g 15 true (some 19) (.bin 19 false .leq (.t 18) (.c (.int .u8 122))) .unit,
  .p (.pick 20 (.t 15) (.t 19) (.c (.bool false))) .unit,
  .p (.mv 4 (.t 20)) .unit]))
 (.seq (.join ⟨[(0, true), (3, false), (38, false)], [.cell .str, .cell (.int .i64), .cell .bool]⟩ (.reg none [.p (.mv 21 (.t 4)) .unit,
  .p (.un 22 .not (.t 21)) .unit,
  .p (.mv 23 (.t 22)) .unit,
  .g 23 true (some 24) (.mv 24 (.t 3)) .unit,
  .g 23 true (some 25) (.bin 25 false .eql (.t 24) (.c (.int .i64 0))) .unit,
  .g 23 true (some 26) (.mv 26 (.t 25)) .unit,
  .g 26 false (some 27) (.mv 27 (.t 0)) .unit,
  .g 26 false (some 28) (.mv 28 (.t 3)) .unit,
  .g 26 false (some 29) (.idx 29 (.t 27) (.t 28)) .unit,
  .g 26 false (some 30) (.bin 30 false .lss (.t 29) (.c (.int .u8 48))) .unit,
  .g 23 true (some 31) (.pick 31 (.t 26) (.c (.bool true)) (.t 30)) .unit,
  .g 23 true (some 32) (.mv 32 (.t 31)) .unit,
  .g 32 false (some 33) (.mv 33 (.t 0)) .unit,
  .g 32 false (some 34) (.mv 34 (.t 3)) .unit,
  .g 32 false (some 35) (.idx 35 (.t 33) (.t 34)) .unit,
  .g 32 false (some 36) (.bin 36 false .gtr (.t 35) (.c (.int .u8 57))) .unit,
  .g 23 true (some 37) (.pick 37 (.t 32) (.c (.bool true)) (.t 36)) .unit,
  .p (.pick 38 (.t 23) (.t 37) (.c (.bool false))) .unit]))
 (.cond (.t 38) (.seq (.reg none [.p (.mv 2 (.c (.bool false))) .unit])
 .ret) .skip))))
 (.reg none [.p (.mv 9 (.t 3)) .unit,
  .p (.bin 10 false .add (.t 9) (.c (.int .i64 1))) .unit,
  .p (.mv 3 (.t 10)) .unit])))
noncomputable def L_impl_NameOk_1 : Nat → (List UInt8) × Int → Option ((List UInt8) ⊕ (Bool)) := evL [fn_impl_inRange] (finT [.t 2] [] [.cell .bool]) 0 ⟨[(0, true), (3, false)], [.cell .str, .cell (.int .i64)]⟩ ⟨[(0, true)], [.cell .str]⟩ B_impl_NameOk_1
def F_impl_NameOk : TF := ⟨(.seq (.reg none [.p (.mv 2 (.c (.bool false))) .unit])
 (.seq (.seq (.reg none [.p (.mv 3 (.c (.int .i64 0))) .unit])
 (.jl 0 ⟨[(0, true), (3, false)], [.cell .str, .cell (.int .i64)]⟩ ⟨[(0, true)], [.cell .str]⟩ B_impl_NameOk_1))
 (.seq (.reg none [.p (.mv 39 (.t 0)) .unit,
  .p (.lenS 40 (.t 39)) .unit,
  .p (.callB 41 n_impl_inRange [((.t 40), 0), ((.c (.int .i64 1)), 0), ((.c (.int .i64 12)), 0)]) .unit,
  .p (.mv 2 (.t 41)) .unit])
 .ret))),
 42, 1, [.t 2]⟩
theorem m_impl_NameOk : mH Try.prog 76 [] = some (F_impl_NameOk.code.x, F_impl_NameOk.N, F_impl_NameOk.np, F_impl_NameOk.res) := by kernel_rfl
noncomputable def T_impl_NameOk : List UInt8 → Option (Bool) := evF [fn_impl_inRange] F_impl_NameOk [.cell .str] [] [.cell .bool] []
noncomputable def fn_impl_NameOk : TFn := ⟨76, [.cell .str], [], [.cell .bool], [], T_impl_NameOk⟩
theorem ok_impl_NameOk : FnOk Try.prog fn_impl_NameOk := evF_ok mixed (allOk_cons ok_impl_inRange allOk_nil) m_impl_NameOk (by decide)
def B_impl_areShort_1 : TC := (.seq (.reg none [.p (.bin 8 false .lss (.t 7) (.t 6)) .unit])
 (.seq (.cond (.t 8) .skip (.exit 0))
 (.seq (.block 1 (.seq (.reg none [.p (.iadr 9 1 (.t 5) (.t 7)) .unit,
  .p (.load 10 (.t 9) 1 false) .unit,
  .p (.mv 4 (.t 10)) .unit])
 (.seq (.reg none [.p (.mv 11 (.t 4)) .unit,
  .p (.lenS 12 (.t 11)) .unit,
  .p (.bin 13 false .gtr (.t 12) (.c (.int .i64 60))) .unit])
 (.cond (.t 13) (.seq (.reg none [.p (.mv 2 (.c (.bool false))) .unit])
 .ret) .skip))))
 (.reg none [.p (.bin 14 false .add (.t 7) (.c (.int .i64 1))) .unit,
  .p (.mv 7 (.t 14)) .unit]))))
noncomputable def L_impl_areShort_1 : Nat → (List (List UInt8)) × (Int) × Int → Option ((Unit) ⊕ (Bool)) := evL [] (finT [.t 2] [] [.cell .bool]) 0 ⟨[(5, false), (6, false), (7, false)], [.cell (.sl false .str), .cell (.int .i64), .cell (.int .i64)]⟩ ⟨[], []⟩ B_impl_areShort_1
def F_impl_areShort : TF := ⟨(.seq (.reg none [.p (.mv 2 (.c (.bool false))) .unit])
 (.seq (.seq (.reg none [.p (.mv 5 (.t 0)) .unit,
  .p (.lenB 6 (.t 5)) .unit,
  .p (.mv 7 (.c (.int .i64 0))) .unit])
 (.jl 0 ⟨[(5, false), (6, false), (7, false)], [.cell (.sl false .str), .cell (.int .i64), .cell (.int .i64)]⟩ ⟨[], []⟩ B_impl_areShort_1))
 (.seq (.reg none [.p (.mv 2 (.c (.bool true))) .unit])
 .ret))),
 15, 1, [.t 2]⟩
theorem m_impl_areShort : mH Try.prog 77 [] = some (F_impl_areShort.code.x, F_impl_areShort.N, F_impl_areShort.np, F_impl_areShort.res) := by kernel_rfl
noncomputable def T_impl_areShort : List (List UInt8) → Option (Bool) := evF [] F_impl_areShort [.cell (.sl false .str)] [] [.cell .bool] []
noncomputable def fn_impl_areShort : TFn := ⟨77, [.cell (.sl false .str)], [], [.cell .bool], [], T_impl_areShort⟩
theorem ok_impl_areShort : FnOk Try.prog fn_impl_areShort := evF_ok mixed allOk_nil m_impl_areShort (by decide)
def F_impl_BoxOk : TF := ⟨(.seq (.reg none [.p (.box 1 (.t 0)) .unit,
  .p (.mv 2 (.c (.bool false))) .unit])
 (.seq (.reg none [.p (.fadr 3 (.t 1) 0) .unit,
  .p (.load 4 (.t 3) 1 false) .unit,
  .p (.callB 5 n_impl_NameOk [((.t 4), 0)]) .unit,
  .p (.mv 6 (.t 5)) .unit,
  .g 6 true (some 7) (.fadr 7 (.t 1) 1) .unit,
  .g 6 true (some 8) (.load 8 (.t 7) 1 false) .unit,
  .g 6 true (some 9) (.lenB 9 (.t 8)) .unit,
  .g 6 true (some 10) (.bin 10 false .leq (.t 9) (.c (.int .i64 5))) .unit,
  .p (.pick 11 (.t 6) (.t 10) (.c (.bool false))) .unit,
  .p (.mv 12 (.t 11)) .unit,
  .g 12 true (some 13) (.fadr 13 (.t 1) 1) .unit,
  .g 12 true (some 14) (.load 14 (.t 13) 1 false) .unit,
  .g 12 true (some 15) (.callB 15 n_impl_areShort [((.t 14), 0)]) .unit,
  .p (.pick 16 (.t 12) (.t 15) (.c (.bool false))) .unit,
  .p (.mv 17 (.t 16)) .unit,
  .g 17 true (some 18) (.fadr 18 (.t 1) 2) .unit,
  .g 17 true (some 19) (.load 19 (.t 18) 1 false) .unit,
  .g 17 true (some 20) (.mv 20 (.t 19)) .unit,
  .g 20 true (some 21) (.fadr 21 (.t 1) 1) .unit,
  .g 20 true (some 22) (.load 22 (.t 21) 1 false) .unit,
  .g 20 true (some 23) (.lenB 23 (.t 22)) .unit,
  .g 20 true (some 24) (.bin 24 false .gtr (.t 23) (.c (.int .i64 0))) .unit,
  .g 17 true (some 25) (.pick 25 (.t 20) (.t 24) (.c (.bool false))) .unit,
  .g 17 true (some 26) (.un 26 .not (.t 25)) .unit,
  .p (.pick 27 (.t 17) (.t 26) (.c (.bool false))) .unit,
  .p (.mv 2 (.t 27)) .unit])
 .ret)),
 28, 1, [.t 2]⟩
theorem m_impl_BoxOk : mH Try.prog 22 [] = some (F_impl_BoxOk.code.x, F_impl_BoxOk.N, F_impl_BoxOk.np, F_impl_BoxOk.res) := by kernel_rfl
noncomputable def T_impl_BoxOk : List UInt8 × List (List UInt8) × Bool → Option (Bool) := evF [fn_impl_NameOk, fn_impl_areShort] F_impl_BoxOk [.agg (.pair .str (.pair (.sl false .str) .bool))] [] [.cell .bool] []
noncomputable def fn_impl_BoxOk : TFn := ⟨22, [.agg (.pair .str (.pair (.sl false .str) .bool))], [], [.cell .bool], [], T_impl_BoxOk⟩
theorem ok_impl_BoxOk : FnOk Try.prog fn_impl_BoxOk := evF_ok mixed (allOk_cons ok_impl_NameOk (allOk_cons ok_impl_areShort allOk_nil)) m_impl_BoxOk (by decide)
def F_impl_Drop : TF := ⟨(.seq (.reg none [.p (.box 2 (.t 0)) .unit,
  .p (.alloc 4 [(.lit (.string (ba []))), (.sl true 1 []), (.lit (.bool false))]) .unit])
 (.seq (.reg none [.p (.load 6 (.t 2) 3 true) .unit,
  .p (.callB 7 n_impl_copyBox [((.t 6), 0)]) .unit,
  .p (.alloc 5 [(.lit (.string (ba []))), (.sl true 1 []), (.lit (.bool false))]) .unit,
  .p (.storeT (.t 5) 7 3) .unit])
 (.seq (.seq (.join ⟨[(1, true), (2, false), (4, false), (5, false), (19, false)], [.cell .str, .box (.pair .str (.pair (.sl false .str) .bool)), .box (.pair .str (.pair (.sl true .str) .bool)), .box (.pair .str (.pair (.sl true .str) .bool)), .cell .bool]⟩ (.reg none [.p (.fadr 8 (.t 2) 2) .unit,
  .p (.load 9 (.t 8) 1 false) .unit,
  .p (.mv 10 (.t 9)) .unit,
  .g 10 false (some 11) (.mv 11 (.t 1)) .unit,
  .g 10 false (some 12) (.lenS 12 (.t 11)) .unit,
  .g 10 false (some 13) (.bin 13 false .gtr (.t 12) (.c (.int .i64 60))) .unit,
  .p (.pick 14 (.t 10) (.c (.bool true)) (.t 13)) .unit,
  .p (.mv 15 (.t 14)) .unit,
  .g 15 false (some 16) (.load 16 (.t 2) 3 true) .unit,
  .g 15 false (some 17) (.callB 17 n_impl_BoxOk [((.t 16), 0)]) .unit,
  .g 15 false (some 18) (.un 18 .not (.t 17)) .unit,
  .p (.pick 19 (.t 15) (.c (.bool true)) (.t 18)) .unit]))
 (.cond (.t 19) (.seq (.reg none [.p (.loadT 20 (.t 5) 3 true) .unit,
  .p (.storeT (.t 4) 20 3) .unit])
 .ret) .skip))
 (.seq (.seq (.reg none [.p (.fadr 21 (.t 5) 1) .unit,
  .p (.load 22 (.t 21) 1 false) .unit,
  .p (.lenB 23 (.t 22)) .unit,
  .p (.bin 24 false .eql (.t 23) (.c (.int .i64 5))) .unit])
 (.cond (.t 24) (.seq (.reg none [.p (.fadr 25 (.t 2) 0) .unit,
  .p (.load 26 (.t 25) 1 false) .unit,
  .p (.bld 27 [(.lit (.string (ba []))), (.sl true 1 []), (.lit (.bool false))] [⟨0, 1, (.t 26)⟩, ⟨2, 1, (.c (.bool true))⟩]) .unit,
  .p (.storeT (.t 4) 27 3) .unit])
 .ret) .skip))
 (.seq (.reg none [.p (.fadr 28 (.t 5) 1) .unit,
  .p (.loadT 29 (.t 28) 1 false) .unit,
  .p (.mv 30 (.t 1)) .unit,
  .p (.bldZ 31 1 [(.lit (.string (ba [])))] [⟨0, 1, (.t 30)⟩]) .str,
  .p (.app 32 1 16 (.t 29) (.t 31)) .str,
  .p (.fadr 33 (.t 5) 1) .unit,
  .p (.storeT (.t 33) 32 1) .unit])
 (.seq (.reg none [.p (.loadT 34 (.t 5) 3 true) .unit,
  .p (.storeT (.t 4) 34 3) .unit])
 .ret)))))),
 35, 2, [.c 4 3 true]⟩
theorem m_impl_Drop : mH Try.prog 26 [(1, 3, .t), (3, 0, .t), (3, 1, .t), (5, 3, .t), (6, 1, .t), (6, 3, .z), (6, 6, .t), (7, 0, .t), (7, 1, .t)] = some (F_impl_Drop.code.x, F_impl_Drop.N, F_impl_Drop.np, F_impl_Drop.res) := by kernel_rfl
noncomputable def T_impl_Drop : (List UInt8 × List (List UInt8) × Bool) × List UInt8 → Option (List UInt8 × List (List UInt8) × Bool) := evF [fn_impl_copyBox, fn_impl_BoxOk] F_impl_Drop [.agg (.pair .str (.pair (.sl false .str) .bool)), .cell .str] [] [.agg (.pair .str (.pair (.sl true .str) .bool))] []
noncomputable def fn_impl_Drop : TFn := ⟨26, [.agg (.pair .str (.pair (.sl false .str) .bool)), .cell .str], [], [.agg (.pair .str (.pair (.sl true .str) .bool))], [], T_impl_Drop⟩
theorem ok_impl_Drop : FnOk Try.prog fn_impl_Drop := evF_ok mixed (allOk_cons ok_impl_copyBox (allOk_cons ok_impl_BoxOk allOk_nil)) m_impl_Drop (by decide)
def F_impl_Fetch : TF := ⟨(.seq (.reg none [.p (.box 1 (.t 0)) .unit,
  .p (.alloc 2 [(.lit (.string (ba []))), (.sl true 1 []), (.lit (.bool false))]) .unit,
  .p (.mv 3 (.c (.string (ba [])))) .unit,
  .p (.mv 4 (.c (.bool false))) .unit])
 (.seq (.reg none [.p (.load 6 (.t 1) 3 true) .unit,
  .p (.callB 7 n_impl_copyBox [((.t 6), 0)]) .unit,
  .p (.alloc 5 [(.lit (.string (ba []))), (.sl true 1 []), (.lit (.bool false))]) .unit,
  .p (.storeT (.t 5) 7 3) .unit])
 (.seq (.seq (.join ⟨[(1, false), (2, false), (5, false), (16, false)], [.box (.pair .str (.pair (.sl false .str) .bool)), .box (.pair .str (.pair (.sl true .str) .bool)), .box (.pair .str (.pair (.sl true .str) .bool)), .cell .bool]⟩ (.reg none [.p (.fadr 8 (.t 1) 1) .unit,
  .p (.load 9 (.t 8) 1 false) .unit,
  .p (.lenB 10 (.t 9)) .unit,
  .p (.bin 11 false .eql (.t 10) (.c (.int .i64 0))) .unit,
  .p (.mv 12 (.t 11)) .unit,
  .g 12 false (some 13) (.load 13 (.t 1) 3 true) .unit,
  .g 12 false (some 14) (.callB 14 n_impl_BoxOk [((.t 13), 0)]) .unit,
  .g 12 false (some 15) (.un 15 .not (.t 14)) .unit,
  .p (.pick 16 (.t 12) (.c (.bool true)) (.t 15)) .unit]))
 (.cond (.t 16) (.seq (.reg none [.p (.loadT 17 (.t 5) 3 true) .unit,
  .p (.storeT (.t 2) 17 3) .unit,
  .p (.mv 3 (.c (.string (ba [])))) .unit,
  .p (.mv 4 (.c (.bool false))) .unit])
 .ret) .skip))
 (.seq (.reg none [.p (.fadr 18 (.t 5) 1) .unit,
  .p (.loadT 19 (.t 18) 1 false) .unit,
  .p (.callM 20 n_slices_Delete___string_string_ [] (.tmp 19) [((.c (.int .i64 0)), 0), ((.c (.int .i64 1)), 0)]) .unit,
  .p (.fadr 21 (.t 5) 1) .unit,
  .p (.storeT (.t 21) 20 1) .unit])
 (.seq (.reg (some [[], [], [1], [2], [3], [0, 0], [4, 5, 0, 1, 2, 3, 4, 5], [6, 0, 1, 2, 3, 4, 5, 6]]) [.p (.loadT 22 (.t 5) 3 true) .unit,
  .p (.fadr 23 (.t 1) 1) .unit,
  .p (.load 24 (.t 23) 1 false) .unit,
  .p (.iadr 25 1 (.t 24) (.c (.int .i64 0))) .unit,
  .p (.load 26 (.t 25) 1 false) .unit,
  .p (.storeT (.t 2) 22 3) .unit,
  .p (.mv 3 (.t 26)) .unit,
  .p (.mv 4 (.c (.bool true))) .unit])
 .ret))))),
 27, 1, [.c 2 3 true, .t 3, .t 4]⟩
theorem m_impl_Fetch : mH Try.prog 27 [(1, 3, .t), (3, 0, .t), (3, 1, .t), (4, 1, .t), (4, 2, (.m 0)), (4, 4, .t), (5, 0, .t), (5, 5, .t)] = some (F_impl_Fetch.code.x, F_impl_Fetch.N, F_impl_Fetch.np, F_impl_Fetch.res) := by kernel_rfl
noncomputable def T_impl_Fetch : List UInt8 × List (List UInt8) × Bool → Option ((List UInt8 × List (List UInt8) × Bool) × (List UInt8) × Bool) := evF [fn_impl_copyBox, fn_impl_BoxOk, fn_slices_Delete___string_string_] F_impl_Fetch [.agg (.pair .str (.pair (.sl false .str) .bool))] [] [.agg (.pair .str (.pair (.sl true .str) .bool)), .cell .str, .cell .bool] []
noncomputable def fn_impl_Fetch : TFn := ⟨27, [.agg (.pair .str (.pair (.sl false .str) .bool))], [], [.agg (.pair .str (.pair (.sl true .str) .bool)), .cell .str, .cell .bool], [], T_impl_Fetch⟩
theorem ok_impl_Fetch : FnOk Try.prog fn_impl_Fetch := evF_ok mixed (allOk_cons ok_impl_copyBox (allOk_cons ok_impl_BoxOk (allOk_cons ok_slices_Delete___string_string_ allOk_nil))) m_impl_Fetch (by decide)
def F_laws_FnBoxDraws : TF := ⟨(.seq (.reg none [.p (.mv 2 (.c (.bool false))) .unit])
 (.seq (.seq (.reg none [.p (.mv 12 (.t 0)) .unit,
  .p (.callB 13 n_laws_big [((.t 12), 0)]) .unit])
 (.cond (.t 13) (.seq (.reg none [.p (.mv 2 (.c (.bool true))) .unit])
 .ret) .skip))
 (.seq (.reg none [.p (.mv 15 (.t 0)) .unit,
  .p (.callB 16 n_spec_DrawDrop [((.t 15), 0)]) .unit,
  .p (.mvT 14 16) .unit,
  .p (.extT 17 14 0) .unit,
  .p (.ext 18 (.t 14) 1) .unit,
  .p (.alloc 3 [(.lit (.string (ba []))), (.sl true 1 []), (.lit (.bool false))]) .unit,
  .p (.storeT (.t 3) 17 3) .unit,
  .p (.mv 4 (.t 18)) .unit])
 (.seq (.reg none [.p (.load 19 (.t 3) 3 true) .unit,
  .p (.mv 20 (.t 4)) .unit,
  .p (.callB 21 n_impl_Drop [((.t 19), 0), ((.t 20), 0)]) .unit,
  .p (.alloc 5 [(.lit (.string (ba []))), (.sl true 1 []), (.lit (.bool false))]) .unit,
  .p (.storeT (.t 5) 21 3) .unit])
 (.seq (.reg none [.p (.load 23 (.t 3) 3 true) .unit,
  .p (.callB 24 n_impl_Fetch [((.t 23), 0)]) .unit,
  .p (.mvT 22 24) .unit,
  .p (.extT 25 22 0) .unit,
  .p (.ext 26 (.t 22) 1) .unit,
  .p (.ext 27 (.t 22) 2) .unit,
  .p (.alloc 6 [(.lit (.string (ba []))), (.sl true 1 []), (.lit (.bool false))]) .unit,
  .p (.storeT (.t 6) 25 3) .unit,
  .p (.mv 7 (.t 26)) .unit,
  .p (.mv 8 (.t 27)) .unit])
 (.seq (.reg none [.p (.load 29 (.t 3) 3 true) .unit,
  .p (.callB 30 n_spec_Fetch [((.t 29), 0)]) .unit,
  .p (.mvT 28 30) .unit,
  .p (.extT 31 28 0) .unit,
  .p (.ext 32 (.t 28) 1) .unit,
  .p (.ext 33 (.t 28) 2) .unit,
  .p (.alloc 9 [(.lit (.string (ba []))), (.sl true 1 []), (.lit (.bool false))]) .unit,
  .p (.storeT (.t 9) 31 3) .unit,
  .p (.mv 10 (.t 32)) .unit,
  .p (.mv 11 (.t 33)) .unit])
 (.seq (.seq (.join ⟨[(3, false), (4, false), (5, false), (6, false), (66, false)], [.box (.pair .str (.pair (.sl true .str) .bool)), .cell .str, .box (.pair .str (.pair (.sl true .str) .bool)), .box (.pair .str (.pair (.sl true .str) .bool)), .cell .bool]⟩ (.reg (some [[], [], [0, 1], [2], [3], [3], [4, 5, 3], [3, 6], [7, 3], [8], [9, 8, 8], [8], [11, 10, 8], [10, 12, 8], [8, 13], [14, 12], [15], [16, 15], [17, 15], [15], [19, 15], [20, 15], [18, 21, 15], [15, 22], [23, 15], [24], [25, 24], [24], [24], [27, 28, 24, 24], [29, 24], [26, 30, 24], [24, 31]]) [.p (.mv 34 (.t 8)) .unit,
  .p (.mv 35 (.t 11)) .unit,
  .p (.bin 36 true .neq (.t 34) (.t 35)) .unit,
  .p (.mv 37 (.t 36)) .unit,
  .g 37 false (some 38) (.mv 38 (.t 7)) .unit,
  .g 37 false (some 39) (.mv 39 (.t 10)) .unit,
  .g 37 false (some 40) (.bin 40 false .neq (.t 38) (.t 39)) .unit,
  .p (.pick 41 (.t 37) (.c (.bool true)) (.t 40)) .unit,
  .p (.mv 42 (.t 41)) .unit,
  .g 42 false (some 43) (.load 43 (.t 3) 3 true) .unit,
  .g 42 false (some 44) (.callB 44 n_impl_BoxOk [((.t 43), 0)]) .unit,
  .g 42 false (some 45) (.load 45 (.t 3) 3 true) .unit,
  .g 42 false (some 46) (.callB 46 n_spec_BoxOk [((.t 45), 0)]) .unit,
  .g 42 false (some 47) (.bin 47 true .neq (.t 44) (.t 46)) .unit,
  .p (.pick 48 (.t 42) (.c (.bool true)) (.t 47)) .unit,
  .p (.mv 49 (.t 48)) .unit,
  .g 49 false (some 50) (.fadr 50 (.t 6) 1) .unit,
  .g 49 false (some 51) (.load 51 (.t 50) 1 false) .unit,
  .g 49 false (some 52) (.lenB 52 (.t 51)) .unit,
  .g 49 false (some 53) (.fadr 53 (.t 9) 1) .unit,
  .g 49 false (some 54) (.load 54 (.t 53) 1 false) .unit,
  .g 49 false (some 55) (.lenB 55 (.t 54)) .unit,
  .g 49 false (some 56) (.bin 56 false .neq (.t 52) (.t 55)) .unit,
  .p (.pick 57 (.t 49) (.c (.bool true)) (.t 56)) .unit,
  .p (.mv 58 (.t 57)) .unit,
  .g 58 false (some 59) (.fadr 59 (.t 5) 2) .unit,
  .g 58 false (some 60) (.load 60 (.t 59) 1 false) .unit,
  .g 58 false (some 61) (.load 61 (.t 3) 3 true) .unit,
  .g 58 false (some 62) (.mv 62 (.t 4)) .unit,
  .g 58 false (some 63) (.callB 63 n_spec_Drop [((.t 61), 0), ((.t 62), 0)]) .unit,
  .g 58 false (some 64) (.fld 64 (.t 63) 2 1 false) .unit,
  .g 58 false (some 65) (.bin 65 true .neq (.t 60) (.t 64)) .unit,
  .p (.pick 66 (.t 58) (.c (.bool true)) (.t 65)) .unit]))
 (.cond (.t 66) (.seq (.reg none [.p (.mv 2 (.c (.bool false))) .unit])
 .ret) .skip))
 (.seq (.reg none [.p (.load 67 (.t 3) 3 true) .unit,
  .p (.callB 68 n_spec_BoxOk [((.t 67), 0)]) .unit,
  .p (.un 69 .not (.t 68)) .unit,
  .p (.mv 70 (.t 69)) .unit,
  .g 70 false (some 71) (.load 71 (.t 5) 3 true) .unit,
  .g 70 false (some 72) (.callB 72 n_impl_BoxOk [((.t 71), 0)]) .unit,
  .g 70 false (some 73) (.mv 73 (.t 72)) .unit,
  .g 73 true (some 74) (.load 74 (.t 6) 3 true) .unit,
  .g 73 true (some 75) (.callB 75 n_impl_BoxOk [((.t 74), 0)]) .unit,
  .g 70 false (some 76) (.pick 76 (.t 73) (.t 75) (.c (.bool false))) .unit,
  .g 70 false (some 77) (.mv 77 (.t 76)) .unit,
  .g 77 true (some 78) (.fadr 78 (.t 5) 2) .unit,
  .g 77 true (some 79) (.load 79 (.t 78) 1 false) .unit,
  .g 77 true (some 80) (.mv 80 (.t 79)) .unit,
  .g 80 false (some 81) (.fadr 81 (.t 5) 1) .unit,
  .g 80 false (some 82) (.load 82 (.t 81) 1 false) .unit,
  .g 80 false (some 83) (.lenB 83 (.t 82)) .unit,
  .g 80 false (some 84) (.fadr 84 (.t 3) 1) .unit,
  .g 80 false (some 85) (.load 85 (.t 84) 1 false) .unit,
  .g 80 false (some 86) (.lenB 86 (.t 85)) .unit,
  .g 80 false (some 87) (.bin 87 false .add (.t 86) (.c (.int .i64 1))) .unit,
  .g 80 false (some 88) (.bin 88 false .eql (.t 83) (.t 87)) .unit,
  .g 77 true (some 89) (.pick 89 (.t 80) (.c (.bool true)) (.t 88)) .unit,
  .g 77 true (some 90) (.mv 90 (.t 89)) .unit,
  .g 90 false (some 91) (.mv 91 (.t 4)) .unit,
  .g 90 false (some 92) (.lenS 92 (.t 91)) .unit,
  .g 90 false (some 93) (.bin 93 false .gtr (.t 92) (.c (.int .i64 60))) .unit,
  .g 77 true (some 94) (.pick 94 (.t 90) (.c (.bool true)) (.t 93)) .unit,
  .g 70 false (some 95) (.pick 95 (.t 77) (.t 94) (.c (.bool false))) .unit,
  .p (.pick 96 (.t 70) (.c (.bool true)) (.t 95)) .unit,
  .p (.mv 2 (.t 96)) .unit])
 .ret)))))))),
 97, 1, [.t 2]⟩
theorem m_laws_FnBoxDraws : mH Try.prog 12 [(3, 2, .t), (3, 3, .t), (3, 6, .t), (4, 4, .t), (5, 2, .t), (5, 3, .t), (5, 7, .t), (6, 2, .t), (6, 3, .t), (6, 7, .t)] = some (F_laws_FnBoxDraws.code.x, F_laws_FnBoxDraws.N, F_laws_FnBoxDraws.np, F_laws_FnBoxDraws.res) := by kernel_rfl
noncomputable def T_laws_FnBoxDraws : List (Int) → Option (Bool) := evF [fn_laws_big, fn_spec_DrawDrop, fn_impl_Drop, fn_impl_Fetch, fn_spec_Fetch, fn_impl_BoxOk, fn_spec_BoxOk, fn_spec_Drop] F_laws_FnBoxDraws [.cell (.sl false (.int .u8))] [] [.cell .bool] []
noncomputable def fn_laws_FnBoxDraws : TFn := ⟨12, [.cell (.sl false (.int .u8))], [], [.cell .bool], [], T_laws_FnBoxDraws⟩
theorem ok_laws_FnBoxDraws : FnOk Try.prog fn_laws_FnBoxDraws := evF_ok mixed (allOk_cons ok_laws_big (allOk_cons ok_spec_DrawDrop (allOk_cons ok_impl_Drop (allOk_cons ok_impl_Fetch (allOk_cons ok_spec_Fetch (allOk_cons ok_impl_BoxOk (allOk_cons ok_spec_BoxOk (allOk_cons ok_spec_Drop allOk_nil)))))))) m_laws_FnBoxDraws (by decide)

end Xs
end Go.Proofs.Ytfepabohinkpgaa
