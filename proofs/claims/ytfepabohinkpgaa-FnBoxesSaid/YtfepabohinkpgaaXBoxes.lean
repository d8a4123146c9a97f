/- The typed code of the functions, printed by program. -/
import Derived.Test.YtfepabohinkpgaaT7
import Derived.Test.YtfepabohinkpgaaProg
import Derived.KernelRfl
import Derived.Test.YtfepabohinkpgaaDel
namespace Go.Proofs.Ytfepabohinkpgaa
open Go Vm
namespace Xs
theorem mixed : Try.prog.follows .mixedOrders = true := by kernel_rfl
abbrev n_laws_FnBoxes : Nat := 5
abbrev n_impl_BoxOk : Nat := 22
abbrev n_laws_big : Nat := 24
abbrev n_spec_DrawTexts : Nat := 25
abbrev n_impl_Drop : Nat := 26
abbrev n_impl_Fetch : Nat := 27
abbrev n_impl_inRange : Nat := 71
abbrev n_impl_NameOk : Nat := 76
abbrev n_impl_areShort : Nat := 77
abbrev n_spec_l01New : Nat := 78
abbrev n_spec_l01Below : Nat := 79
abbrev n_spec_l01Text : Nat := 80
abbrev n_impl_copyBox : Nat := 81
abbrev n_slices_Delete___string_string_ : Nat := 82
abbrev n_slices_Clone___string_string_ : Nat := 101
abbrev n_spec_l01Byte : Nat := 121
def F_laws_big : TF := ⟨(.seq (.reg none [.p (.mv 2 (.c (.bool false))) .unit])
 (.seq (.reg none [.p (.mv 3 (.t 0)) .unit,
  .p (.lenB 4 (.t 3)) .unit,
  .p (.bin 5 false .gtr (.t 4) (.c (.int .i64 1048576))) .unit,
  .p (.mv 2 (.t 5)) .unit])
 .ret)),
 6, 1, [.t 2]⟩
theorem m_laws_big : mH Try.prog 24 [] = some (F_laws_big.code.x, F_laws_big.N, F_laws_big.np, F_laws_big.res) := by kernel_rfl
noncomputable def T_laws_big : List (Int) → Option (Bool) := evF [] F_laws_big [.cell (.sl false (.int .u8))] [] [.cell .bool] []
noncomputable def fn_laws_big : TFn := ⟨24, [.cell (.sl false (.int .u8))], [], [.cell .bool], [], T_laws_big⟩
theorem ok_laws_big : FnOk Try.prog fn_laws_big := evF_ok mixed allOk_nil m_laws_big (by decide)
def B_spec_l01New_1 : TC := (.seq (.seq (.join ⟨[(0, true), (3, false), (4, false), (15, false)], [.cell (.sl false (.int .u8)), .cell (.int .i64), .cell (.int .i64), .cell .bool]⟩ (.reg none [.p (.mv 8 (.t 4)) .unit,
  .p (.mv 9 (.t 0)) .unit,
  .p (.lenB 10 (.t 9)) .unit,
  .p (.bin 11 false .lss (.t 8) (.t 10)) .unit,
  .p (.mv 12 (.t 11)) .unit,
  .g 12 true (some 13) (.mv 13 (.t 4)) .unit,
  .g 12 true (some 14) (.bin 14 false .lss (.t 13) (.c (.int .i64 4000))) .unit,
  .p (.pick 15 (.t 12) (.t 14) (.c (.bool false))) .unit]))
 (.cond (.t 15) .skip (.exit 0)))
 (.seq (.block 1 (.reg none [.p (.mv 18 (.t 3)) .unit,
  .p (.bin 19 false .mul (.t 18) (.c (.int .i64 131))) .unit,
  .p (.mv 20 (.t 0)) .unit,
  .p (.mv 21 (.t 4)) .unit,
  .p (.iadr 22 1 (.t 20) (.t 21)) .unit,
  .p (.load 23 (.t 22) 1 false) .unit,
  .p (.cvi 24 .i64 .u8 (.t 23)) .unit,
  .p (.bin 25 false .add (.t 19) (.t 24)) .unit,
  .p (.bin 26 false .add (.t 25) (.c (.int .i64 7))) .unit,
  .p (.bin 27 false .and (.t 26) (.c (.int .i64 1073741823))) .unit,
  .p (.mv 3 (.t 27)) .unit]))
 (.reg none [.p (.mv 16 (.t 4)) .unit,
  .p (.bin 17 false .add (.t 16) (.c (.int .i64 1))) .unit,
  .p (.mv 4 (.t 17)) .unit])))
noncomputable def L_spec_l01New_1 : Nat → (List (Int)) × (Int) × Int → Option (((List (Int)) × Int) ⊕ (List (Int) × Int × Int)) := evL [] (finT [.t 2] [] [.box (.pair (.sl false (.int .u8)) (.pair (.int .i64) (.int .i64)))]) 0 ⟨[(0, true), (3, false), (4, false)], [.cell (.sl false (.int .u8)), .cell (.int .i64), .cell (.int .i64)]⟩ ⟨[(0, true), (3, false)], [.cell (.sl false (.int .u8)), .cell (.int .i64)]⟩ B_spec_l01New_1
def F_spec_l01New : TF := ⟨(.seq (.reg none [.p (.mv 2 (.c (.pointer none))) .unit])
 (.seq (.reg none [.p (.mv 5 (.t 0)) .unit,
  .p (.lenB 6 (.t 5)) .unit,
  .p (.bin 7 false .add (.c (.int .i64 27101)) (.t 6)) .unit,
  .p (.mv 3 (.t 7)) .unit])
 (.seq (.seq (.reg none [.p (.mv 4 (.c (.int .i64 0))) .unit])
 (.jl 0 ⟨[(0, true), (3, false), (4, false)], [.cell (.sl false (.int .u8)), .cell (.int .i64), .cell (.int .i64)]⟩ ⟨[(0, true), (3, false)], [.cell (.sl false (.int .u8)), .cell (.int .i64)]⟩ B_spec_l01New_1))
 (.seq (.reg none [.p (.mv 28 (.t 0)) .unit,
  .p (.mv 29 (.t 3)) .unit,
  .p (.bld 30 [(.sl true 1 []), (.lit (.int .i64 0)), (.lit (.int .i64 0))] [⟨0, 1, (.t 28)⟩, ⟨2, 1, (.t 29)⟩]) .unit,
  .p (.box 31 (.t 30)) .unit,
  .p (.mvT 2 31) .unit])
 .ret)))),
 32, 1, [.t 2]⟩
theorem m_spec_l01New : mH Try.prog 78 [(6, 4, .t)] = some (F_spec_l01New.code.x, F_spec_l01New.N, F_spec_l01New.np, F_spec_l01New.res) := by kernel_rfl
noncomputable def T_spec_l01New : List (Int) → Option (List (Int) × Int × Int) := evF [] F_spec_l01New [.cell (.sl false (.int .u8))] [] [.box (.pair (.sl false (.int .u8)) (.pair (.int .i64) (.int .i64)))] []
noncomputable def fn_spec_l01New : TFn := ⟨78, [.cell (.sl false (.int .u8))], [], [.box (.pair (.sl false (.int .u8)) (.pair (.int .i64) (.int .i64)))], [], T_spec_l01New⟩
theorem ok_spec_l01New : FnOk Try.prog fn_spec_l01New := evF_ok mixed allOk_nil m_spec_l01New (by decide)
def F_spec_l01Byte : TF := ⟨(.seq (.reg none [.p (.mv 2 (.c (.int .i64 0))) .unit])
 (.seq (.reg none [.p (.mvA 4 0) .unit,
  .p (.mvA 5 0) .unit,
  .p (.nilck 6 (.t 5)) .unit,
  .p (.fadr 7 (.t 6) 2) .unit,
  .p (.load 8 (.t 7) 1 false) .unit,
  .p (.bin 9 false .mul (.t 8) (.c (.int .i64 6364136223846793005))) .unit,
  .p (.bin 10 false .add (.t 9) (.c (.int .i64 1442695040888963407))) .unit,
  .p (.nilck 11 (.t 4)) .unit,
  .p (.fadr 12 (.t 11) 2) .unit,
  .p (.store (.t 12) (.t 10) 1) .unit])
 (.seq (.reg (some [[], [0], [1], [2], [3], [], [5], [6], [7], [8], [4, 9], [10], [11, 0, 1, 2, 3, 4, 5, 6, 7, 8, 9, 10, 11]]) [.p (.mvA 13 0) .unit,
  .p (.nilck 14 (.t 13)) .unit,
  .p (.fadr 15 (.t 14) 2) .unit,
  .p (.load 16 (.t 15) 1 false) .unit,
  .p (.bin 17 false .shr (.t 16) (.c (.int .u64 33))) .unit,
  .p (.mvA 18 0) .unit,
  .p (.nilck 19 (.t 18)) .unit,
  .p (.fadr 20 (.t 19) 2) .unit,
  .p (.load 21 (.t 20) 1 false) .unit,
  .p (.bin 22 false .shr (.t 21) (.c (.int .u64 45))) .unit,
  .p (.bin 23 false .xor (.t 17) (.t 22)) .unit,
  .p (.bin 24 false .and (.t 23) (.c (.int .i64 255))) .unit,
  .p (.mv 3 (.t 24)) .unit])
 (.seq (.join ⟨[(0, true), (3, false)], [.box (.pair (.sl false (.int .u8)) (.pair (.int .i64) (.int .i64))), .cell (.int .i64)]⟩ (.seq (.reg (some [[], [0], [1], [2], [], [4], [5], [6], [7], [3, 8]]) [.p (.mvA 25 0) .unit,
  .p (.nilck 26 (.t 25)) .unit,
  .p (.fadr 27 (.t 26) 1) .unit,
  .p (.load 28 (.t 27) 1 false) .unit,
  .p (.mvA 29 0) .unit,
  .p (.nilck 30 (.t 29)) .unit,
  .p (.fadr 31 (.t 30) 0) .unit,
  .p (.load 32 (.t 31) 1 false) .unit,
  .p (.lenB 33 (.t 32)) .unit,
  .p (.bin 34 false .lss (.t 28) (.t 33)) .unit])
 (.cond (.t 34) (.seq (.reg (some [[], [], [1], [2], [3], [], [5], [6], [7], [4, 8], [9], [10], [0, 11], [12], [13, 0, 1, 2, 3, 4, 5, 6, 7, 8, 9, 10, 11, 12, 13]]) [.p (.mv 35 (.t 3)) .unit,
  .p (.mvA 36 0) .unit,
  .p (.nilck 37 (.t 36)) .unit,
  .p (.fadr 38 (.t 37) 0) .unit,
  .p (.load 39 (.t 38) 1 false) .unit,
  .p (.mvA 40 0) .unit,
  .p (.nilck 41 (.t 40)) .unit,
  .p (.fadr 42 (.t 41) 1) .unit,
  .p (.load 43 (.t 42) 1 false) .unit,
  .p (.iadr 44 1 (.t 39) (.t 43)) .unit,
  .p (.load 45 (.t 44) 1 false) .unit,
  .p (.cvi 46 .i64 .u8 (.t 45)) .unit,
  .p (.bin 47 false .add (.t 35) (.t 46)) .unit,
  .p (.bin 48 false .and (.t 47) (.c (.int .i64 255))) .unit,
  .p (.mv 3 (.t 48)) .unit])
 (.reg none [.p (.mvA 49 0) .unit,
  .p (.mvA 50 0) .unit,
  .p (.nilck 51 (.t 50)) .unit,
  .p (.fadr 52 (.t 51) 1) .unit,
  .p (.load 53 (.t 52) 1 false) .unit,
  .p (.bin 54 false .add (.t 53) (.c (.int .i64 1))) .unit,
  .p (.nilck 55 (.t 49)) .unit,
  .p (.fadr 56 (.t 55) 1) .unit,
  .p (.store (.t 56) (.t 54) 1) .unit])) .skip)))
 (.seq (.reg none [.p (.mv 57 (.t 3)) .unit,
  .p (.mv 2 (.t 57)) .unit])
 .ret))))),
 58, 1, [.t 2]⟩
theorem m_spec_l01Byte : mH Try.prog 121 [(1, 0, .v), (1, 1, .v), (2, 0, .v), (2, 5, .v), (3, 0, .v), (3, 4, .v), (4, 1, .v), (4, 5, .v), (5, 0, .v), (5, 1, .v)] = some (F_spec_l01Byte.code.x, F_spec_l01Byte.N, F_spec_l01Byte.np, F_spec_l01Byte.res) := by kernel_rfl
noncomputable def T_spec_l01Byte : List (Int) × Int × Int → Option ((Int) × List (Int) × Int × Int) := evF [] F_spec_l01Byte [.box (.pair (.sl false (.int .u8)) (.pair (.int .i64) (.int .i64)))] [0] [.cell (.int .i64)] [.box (.pair (.sl false (.int .u8)) (.pair (.int .i64) (.int .i64)))]
noncomputable def fn_spec_l01Byte : TFn := ⟨121, [.box (.pair (.sl false (.int .u8)) (.pair (.int .i64) (.int .i64)))], [0], [.cell (.int .i64)], [.box (.pair (.sl false (.int .u8)) (.pair (.int .i64) (.int .i64)))], T_spec_l01Byte⟩
theorem ok_spec_l01Byte : FnOk Try.prog fn_spec_l01Byte := evF_ok mixed allOk_nil m_spec_l01Byte (by decide)
def F_spec_l01Below : TF := ⟨(.seq (.reg none [.p (.mv 4 (.c (.int .i64 0))) .unit])
 (.seq (.seq (.reg none [.p (.mv 9 (.t 1)) .unit,
  .p (.bin 10 false .leq (.t 9) (.c (.int .i64 0))) .unit])
 (.cond (.t 10) (.seq (.reg none [.p (.mv 4 (.c (.int .i64 0))) .unit])
 .ret) .skip))
 (.seq (.seq (.reg none [.p (.mv 11 (.t 1)) .unit,
  .p (.bin 12 false .leq (.t 11) (.c (.int .i64 256))) .unit])
 (.cond (.t 12) (.seq (.reg none [.p (.mvA 13 0) .unit,
  .p (.callM 14 n_spec_l01Byte [] (.ptrS (.t 13) 0) []) .unit,
  .p (.mv 15 (.t 1)) .unit,
  .p (.bin 16 false .rem (.t 14) (.t 15)) .unit,
  .p (.mv 4 (.t 16)) .unit])
 .ret) .skip))
 (.seq (.reg none [.p (.mvA 17 0) .unit,
  .p (.callM 18 n_spec_l01Byte [] (.ptrS (.t 17) 0) []) .unit,
  .p (.mv 5 (.t 18)) .unit])
 (.seq (.reg none [.p (.mvA 19 0) .unit,
  .p (.callM 20 n_spec_l01Byte [] (.ptrS (.t 19) 0) []) .unit,
  .p (.mv 6 (.t 20)) .unit])
 (.seq (.reg none [.p (.mvA 21 0) .unit,
  .p (.callM 22 n_spec_l01Byte [] (.ptrS (.t 21) 0) []) .unit,
  .p (.mv 7 (.t 22)) .unit])
 (.seq (.reg none [.p (.mvA 23 0) .unit,
  .p (.callM 24 n_spec_l01Byte [] (.ptrS (.t 23) 0) []) .unit,
  .p (.mv 8 (.t 24)) .unit])
 (.seq (.reg none [.p (.mv 25 (.t 5)) .unit,
  .p (.bin 26 false .mul (.t 25) (.c (.int .i64 16777216))) .unit,
  .p (.mv 27 (.t 6)) .unit,
  .p (.bin 28 false .mul (.t 27) (.c (.int .i64 65536))) .unit,
  .p (.bin 29 false .add (.t 26) (.t 28)) .unit,
  .p (.mv 30 (.t 7)) .unit,
  .p (.bin 31 false .mul (.t 30) (.c (.int .i64 256))) .unit,
  .p (.bin 32 false .add (.t 29) (.t 31)) .unit,
  .p (.mv 33 (.t 8)) .unit,
  .p (.bin 34 false .add (.t 32) (.t 33)) .unit,
  .p (.mv 35 (.t 1)) .unit,
  .p (.bin 36 false .rem (.t 34) (.t 35)) .unit,
  .p (.mv 4 (.t 36)) .unit])
 .ret)))))))),
 37, 2, [.t 4]⟩
theorem m_spec_l01Below : mH Try.prog 79 [(4, 0, .v), (4, 1, (.ps 0 0)), (5, 0, .v), (5, 1, (.ps 0 0)), (6, 0, .v), (6, 1, (.ps 0 0)), (7, 0, .v), (7, 1, (.ps 0 0)), (8, 0, .v), (8, 1, (.ps 0 0))] = some (F_spec_l01Below.code.x, F_spec_l01Below.N, F_spec_l01Below.np, F_spec_l01Below.res) := by kernel_rfl
noncomputable def T_spec_l01Below : (List (Int) × Int × Int) × Int → Option ((Int) × List (Int) × Int × Int) := evF [fn_spec_l01Byte] F_spec_l01Below [.box (.pair (.sl false (.int .u8)) (.pair (.int .i64) (.int .i64))), .cell (.int .i64)] [0] [.cell (.int .i64)] [.box (.pair (.sl false (.int .u8)) (.pair (.int .i64) (.int .i64)))]
noncomputable def fn_spec_l01Below : TFn := ⟨79, [.box (.pair (.sl false (.int .u8)) (.pair (.int .i64) (.int .i64))), .cell (.int .i64)], [0], [.cell (.int .i64)], [.box (.pair (.sl false (.int .u8)) (.pair (.int .i64) (.int .i64)))], T_spec_l01Below⟩
theorem ok_spec_l01Below : FnOk Try.prog fn_spec_l01Below := evF_ok mixed (allOk_cons ok_spec_l01Byte allOk_nil) m_spec_l01Below (by decide)
def B_spec_l01Text_1 : TC := (.seq (.seq (.reg none [.p (.mv 10 (.t 6)) .unit,
  .p (.mv 11 (.t 1)) .unit,
  .p (.bin 12 false .lss (.t 10) (.t 11)) .unit])
 (.cond (.t 12) .skip (.exit 0)))
 (.seq (.block 1 (.reg none [.p (.mvT 15 5) .unit,
  .p (.mvA 16 0) .unit,
  .p (.callM 17 n_spec_l01Byte [] (.ptrS (.t 16) 0) []) .unit,
  .p (.cvi 18 .u8 .i64 (.t 17)) .unit,
  .p (.bldS 19 1 [(.lit (.int .u8 0))] [⟨0, 1, (.t 18)⟩]) (.int .u8),
  .p (.app 20 1 1 (.t 15) (.t 19)) (.int .u8),
  .p (.mvT 5 20) .unit]))
 (.reg none [.p (.mv 13 (.t 6)) .unit,
  .p (.bin 14 false .add (.t 13) (.c (.int .i64 1))) .unit,
  .p (.mv 6 (.t 14)) .unit])))
noncomputable def L_spec_l01Text_1 : Nat → (List (Int) × Int × Int) × (Int) × (List (Int)) × Int → Option (((List (Int) × Int × Int) × List (Int)) ⊕ ((List UInt8) × List (Int) × Int × Int)) := evL [fn_spec_l01Byte] (finT [.t 4] [0] [.cell .str, .box (.pair (.sl false (.int .u8)) (.pair (.int .i64) (.int .i64)))]) 0 ⟨[(0, true), (1, false), (5, false), (6, false)], [.box (.pair (.sl false (.int .u8)) (.pair (.int .i64) (.int .i64))), .cell (.int .i64), .cell (.sl true (.int .u8)), .cell (.int .i64)]⟩ ⟨[(0, true), (5, false)], [.box (.pair (.sl false (.int .u8)) (.pair (.int .i64) (.int .i64))), .cell (.sl true (.int .u8))]⟩ B_spec_l01Text_1
def F_spec_l01Text : TF := ⟨(.seq (.reg none [.p (.mv 4 (.c (.string (ba [])))) .unit])
 (.seq (.join ⟨[(0, true), (1, false)], [.box (.pair (.sl false (.int .u8)) (.pair (.int .i64) (.int .i64))), .cell (.int .i64)]⟩ (.seq (.reg none [.p (.mv 7 (.t 1)) .unit,
  .p (.bin 8 false .gtr (.t 7) (.c (.int .i64 5000))) .unit])
 (.cond (.t 8) (.reg none [.p (.mv 1 (.c (.int .i64 5000))) .unit]) .skip)))
 (.seq (.reg none [.p (.bldS 9 0 [(.lit (.int .u8 0))] []) (.int .u8),
  .p (.mvT 5 9) .unit])
 (.seq (.seq (.reg none [.p (.mv 6 (.c (.int .i64 0))) .unit])
 (.jl 0 ⟨[(0, true), (1, false), (5, false), (6, false)], [.box (.pair (.sl false (.int .u8)) (.pair (.int .i64) (.int .i64))), .cell (.int .i64), .cell (.sl true (.int .u8)), .cell (.int .i64)]⟩ ⟨[(0, true), (5, false)], [.box (.pair (.sl false (.int .u8)) (.pair (.int .i64) (.int .i64))), .cell (.sl true (.int .u8))]⟩ B_spec_l01Text_1))
 (.seq (.reg none [.p (.mvT 21 5) .unit,
  .p (.b2s 22 (.t 21)) .unit,
  .p (.mv 4 (.t 22)) .unit])
 .ret))))),
 23, 2, [.t 4]⟩
theorem m_spec_l01Text : mH Try.prog 80 [(3, 1, .t), (7, 0, .t), (7, 1, .v), (7, 2, (.ps 0 0)), (7, 6, .t), (8, 0, .t)] = some (F_spec_l01Text.code.x, F_spec_l01Text.N, F_spec_l01Text.np, F_spec_l01Text.res) := by kernel_rfl
noncomputable def T_spec_l01Text : (List (Int) × Int × Int) × Int → Option ((List UInt8) × List (Int) × Int × Int) := evF [fn_spec_l01Byte] F_spec_l01Text [.box (.pair (.sl false (.int .u8)) (.pair (.int .i64) (.int .i64))), .cell (.int .i64)] [0] [.cell .str] [.box (.pair (.sl false (.int .u8)) (.pair (.int .i64) (.int .i64)))]
noncomputable def fn_spec_l01Text : TFn := ⟨80, [.box (.pair (.sl false (.int .u8)) (.pair (.int .i64) (.int .i64))), .cell (.int .i64)], [0], [.cell .str], [.box (.pair (.sl false (.int .u8)) (.pair (.int .i64) (.int .i64)))], T_spec_l01Text⟩
theorem ok_spec_l01Text : FnOk Try.prog fn_spec_l01Text := evF_ok mixed (allOk_cons ok_spec_l01Byte allOk_nil) m_spec_l01Text (by decide)
def B_spec_DrawTexts_1 : TC := (.seq (.seq (.reg none [.p (.mv 9 (.t 5)) .unit,
  .p (.mvA 10 3) .unit,
  .p (.callM 11 n_spec_l01Below [] (.ptrS (.t 10) 3) [((.c (.int .i64 9)), 0)]) .unit,
  .p (.bin 12 false .lss (.t 9) (.t 11)) .unit])
 (.cond (.t 12) .skip (.exit 0)))
 (.seq (.block 1 (.reg none [.p (.mvT 15 4) .unit,
  .p (.mvA 16 3) .unit,
  .p (.mvA 17 3) .unit,
  .p (.callM 18 n_spec_l01Below [] (.ptrS (.t 17) 3) [((.c (.int .i64 12)), 0)]) .unit,
  .p (.callM 19 n_spec_l01Text [] (.ptrS (.t 16) 3) [((.t 18), 0)]) .unit,
  .p (.bldS 20 1 [(.lit (.string (ba [])))] [⟨0, 1, (.t 19)⟩]) .str,
  .p (.app 21 1 16 (.t 15) (.t 20)) .str,
  .p (.mvT 4 21) .unit]))
 (.reg none [.p (.mv 13 (.t 5)) .unit,
  .p (.bin 14 false .add (.t 13) (.c (.int .i64 1))) .unit,
  .p (.mv 5 (.t 14)) .unit])))
noncomputable def L_spec_DrawTexts_1 : Nat → (List (Int) × Int × Int) × (List (List UInt8)) × Int → Option ((List (List UInt8)) ⊕ (List (List UInt8))) := evL [fn_spec_l01New, fn_spec_l01Below, fn_spec_l01Text] (finT [.t 2] [] [.cell (.sl true .str)]) 0 ⟨[(3, false), (4, false), (5, false)], [.box (.pair (.sl false (.int .u8)) (.pair (.int .i64) (.int .i64))), .cell (.sl true .str), .cell (.int .i64)]⟩ ⟨[(4, false)], [.cell (.sl true .str)]⟩ B_spec_DrawTexts_1
def F_spec_DrawTexts : TF := ⟨(.seq (.reg none [.p (.mvN 2 1) .unit])
 (.seq (.reg none [.p (.mv 6 (.t 0)) .unit,
  .p (.callS 7 n_spec_l01New [(.t 6)]) .unit,
  .p (.mvT 3 7) .unit])
 (.seq (.reg none [.p (.bldS 8 0 [(.lit (.string (ba [])))] []) .str,
  .p (.mvT 4 8) .unit])
 (.seq (.seq (.reg none [.p (.mv 5 (.c (.int .i64 0))) .unit])
 (.jl 0 ⟨[(3, false), (4, false), (5, false)], [.box (.pair (.sl false (.int .u8)) (.pair (.int .i64) (.int .i64))), .cell (.sl true .str), .cell (.int .i64)]⟩ ⟨[(4, false)], [.cell (.sl true .str)]⟩ B_spec_DrawTexts_1))
 (.seq (.reg none [.p (.mvT 22 4) .unit,
  .p (.mvT 2 22) .unit])
 .ret))))),
 23, 1, [.t 2]⟩
theorem m_spec_DrawTexts : mH Try.prog 25 [(1, 1, .z), (1, 2, .t), (2, 1, .t), (4, 1, .v), (4, 2, (.ps 0 3)), (6, 0, .t), (6, 1, .v), (6, 2, .v), (6, 3, (.ps 0 3)), (6, 4, (.ps 0 3)), (6, 7, .t), (7, 0, .t), (7, 1, .t)] = some (F_spec_DrawTexts.code.x, F_spec_DrawTexts.N, F_spec_DrawTexts.np, F_spec_DrawTexts.res) := by kernel_rfl
noncomputable def T_spec_DrawTexts : List (Int) → Option (List (List UInt8)) := evF [fn_spec_l01New, fn_spec_l01Below, fn_spec_l01Text] F_spec_DrawTexts [.cell (.sl false (.int .u8))] [] [.cell (.sl true .str)] []
noncomputable def fn_spec_DrawTexts : TFn := ⟨25, [.cell (.sl false (.int .u8))], [], [.cell (.sl true .str)], [], T_spec_DrawTexts⟩
theorem ok_spec_DrawTexts : FnOk Try.prog fn_spec_DrawTexts := evF_ok mixed (allOk_cons ok_spec_l01New (allOk_cons ok_spec_l01Below (allOk_cons ok_spec_l01Text allOk_nil))) m_spec_DrawTexts (by decide)
def F_slices_Clone___string_string_ : TF := ⟨(.seq (.reg none [.p (.mvN 2 1) .unit])
 (.seq (.seq (.nq [.p (.mv 3 (.t 0)) .unit] 4 false (.t 3))
 (.cond (.t 4) (.seq (.reg none [.p (.mvN 2 1) .unit])
 .ret) .skip))
 (.seq (.reg none [.p (.bldS 5 0 [(.lit (.string (ba [])))] []) .str,
  .p (.mv 6 (.t 0)) .unit,
  .p (.app 7 1 16 (.t 5) (.t 6)) .str,
  .p (.mvT 2 7) .unit])
 .ret))),
 8, 1, [.t 2]⟩
theorem m_slices_Clone___string_string_ : mH Try.prog 101 [(3, 3, .t)] = some (F_slices_Clone___string_string_.code.x, F_slices_Clone___string_string_.N, F_slices_Clone___string_string_.np, F_slices_Clone___string_string_.res) := by kernel_rfl
noncomputable def T_slices_Clone___string_string_ : List (List UInt8) → Option (List (List UInt8)) := evF [] F_slices_Clone___string_string_ [.cell (.sl false .str)] [] [.cell (.sl true .str)] []
noncomputable def fn_slices_Clone___string_string_ : TFn := ⟨101, [.cell (.sl false .str)], [], [.cell (.sl true .str)], [], T_slices_Clone___string_string_⟩
theorem ok_slices_Clone___string_string_ : FnOk Try.prog fn_slices_Clone___string_string_ := evF_ok mixed allOk_nil m_slices_Clone___string_string_ (by decide)
def F_impl_copyBox : TF := ⟨(.seq (.reg none [.p (.box 1 (.t 0)) .unit,
  .p (.alloc 2 [(.lit (.string (ba []))), (.sl true 1 []), (.lit (.bool false))]) .unit])
 (.seq (.reg none [.p (.fadr 3 (.t 1) 1) .unit,
  .p (.load 4 (.t 3) 1 false) .unit,
  .p (.callB 5 n_slices_Clone___string_string_ [((.t 4), 0)]) .unit,
  .p (.fadr 6 (.t 1) 1) .unit,
  .p (.storeT (.t 6) 5 1) .unit])
 (.seq (.reg none [.p (.loadT 7 (.t 1) 3 true) .unit,
  .p (.storeT (.t 2) 7 3) .unit])
 .ret))),
 8, 1, [.c 2 3 true]⟩
theorem m_impl_copyBox : mH Try.prog 81 [(1, 4, .t), (2, 0, .t), (2, 1, .t)] = some (F_impl_copyBox.code.x, F_impl_copyBox.N, F_impl_copyBox.np, F_impl_copyBox.res) := by kernel_rfl
noncomputable def T_impl_copyBox : List UInt8 × List (List UInt8) × Bool → Option (List UInt8 × List (List UInt8) × Bool) := evF [fn_slices_Clone___string_string_] F_impl_copyBox [.agg (.pair .str (.pair (.sl false .str) .bool))] [] [.agg (.pair .str (.pair (.sl true .str) .bool))] []
noncomputable def fn_impl_copyBox : TFn := ⟨81, [.agg (.pair .str (.pair (.sl false .str) .bool))], [], [.agg (.pair .str (.pair (.sl true .str) .bool))], [], T_impl_copyBox⟩
theorem ok_impl_copyBox : FnOk Try.prog fn_impl_copyBox := evF_ok mixed (allOk_cons ok_slices_Clone___string_string_ allOk_nil) m_impl_copyBox (by decide)
def F_impl_inRange : TF := ⟨(.seq (.reg none [.p (.mv 6 (.c (.bool false))) .unit])
 (.seq (.reg none [.p (.mv 7 (.t 0)) .unit,
  .p (.mv 8 (.t 1)) .unit,
  .p (.bin 9 false .geq (.t 7) (.t 8)) .unit,
  .p (.mv 10 (.t 9)) .unit,
  .g 10 true (some 11) (.mv 11 (.t 0)) .unit,
  .g 10 true (some 12) (.mv 12 (.t 2)) .unit,
  .g 10 true (some 13) (.bin 13 false .leq (.t 11) (.t 12)) .unit,
  .p (.pick 14 (.t 10) (.t 13) (.c (.bool false))) .unit,
  .p (.mv 6 (.t 14)) .unit])
 .ret)),
 15, 3, [.t 6]⟩
theorem m_impl_inRange : mH Try.prog 71 [] = some (F_impl_inRange.code.x, F_impl_inRange.N, F_impl_inRange.np, F_impl_inRange.res) := by kernel_rfl
noncomputable def T_impl_inRange : (Int) × (Int) × Int → Option (Bool) := evF [] F_impl_inRange [.cell (.int .i64), .cell (.int .i64), .cell (.int .i64)] [] [.cell .bool] []
noncomputable def fn_impl_inRange : TFn := ⟨71, [.cell (.int .i64), .cell (.int .i64), .cell (.int .i64)], [], [.cell .bool], [], T_impl_inRange⟩
theorem ok_impl_inRange : FnOk Try.prog fn_impl_inRange := evF_ok mixed allOk_nil m_impl_inRange (by decide)
def B_impl_NameOk_1 : TC := (.seq (.seq (.reg none [.p (.mv 5 (.t 3)) .unit,
  .p (.mv 6 (.t 0)) .unit,
  .p (.lenS 7 (.t 6)) .unit,
  .p (.bin 8 false .lss (.t 5) (.t 7)) .unit])
 (.cond (.t 8) .skip (.exit 0)))
 (.seq (.block 1 (.seq (.join ⟨[(0, true), (3, false), (4, false)], [.cell .str, .cell (.int .i64), .cell .bool]⟩ (.reg none [.p (.mv 11 (.t 0)) .unit,
  .p (.mv 12 (.t 3)) .unit,
  .p (.idx 13 (.t 11) (.t 12)) .unit,
  .p (.bin 14 false .geq (.t 13) (.c (.int .u8 97))) .unit,
  .p (.mv 15 (.t 14)) .unit,
  .g 15 true (some 16) (.mv 16 (.t 0)) .unit,
  .g 15 true (some 17) (.mv 17 (.t 3)) .unit,
  .g 15 true (some 18) (.idx 18 (.t 16) (.t 17)) .unit,
  .g 15 true (some 19) (.bin 19 false .leq (.t 18) (.c (.int .u8 122))) .unit,
  .p (.pick 20 (.t 15) (.t 19) (.c (.bool false))) .unit,
  .p (.mv 4 (.t 20)) .unit]))
 (.seq (.join ⟨[(0, true), (3, false), (38, false)], [.cell .str, .cell (.int .i64), .cell .bool]⟩ (.reg none [.p (.mv 21 (.t 4)) .unit,
  .p (.un 22 .not (.t 21)) .unit,
  .p (.mv 23 (.t 22)) .unit,
  .g 23 true (some 24) (.mv 24 (.t 3)) .unit,
  .g 23 true (some 25) (.bin 25 false .eql (.t 24) (.c (.int .i64 0))) .unit,
  .g 23 true (some 26) (.mv 26 (.t 25)) .unit,
  .g 26 false (some 27) (.mv 27 (.t 0)) .unit,
  .g 26 false (some 28) (.mv 28 (.t 3)) .unit,
  .g 26 false (some 29) (.idx 29 (.t 27) (.t 28)) .unit,
  .g 26 false (some 30) (.bin 30 false .lss (.t 29) (.c (.int .u8 48))) .unit,
  .g 23 true (some 31) (.pick 31 (.t 26) (.c (.bool true)) (.t 30)) .unit,
  .g 23 true (some 32) (.mv 32 (.t 31)) .unit,
  .g 32 false (some 33) (.mv 33 (.t 0)) .unit,
  .g 32 false (some 34) (.mv 34 (.t 3)) .unit,
  .g 32 false (some 35) (.idx 35 (.t 33) (.t 34)) .unit,
  .g 32 false (some 36) (.bin 36 false .gtr (.t 35) (.c (.int .u8 57))) .unit,
  .g 23 true (some 37) (.pick 37 (.t 32) (.c (.bool true)) (.t 36)) .unit,
  .p (.pick 38 (.t 23) (.t 37) (.c (.bool false))) .unit]))
 (.cond (.t 38) (.seq (.reg none [.p (.mv 2 (.c (.bool false))) .unit])
 .ret) .skip))))
 (.reg none [.p (.mv 9 (.t 3)) .unit,
  .p (.bin 10 false .add (.t 9) (.c (.int .i64 1))) .unit,
  .p (.mv 3 (.t 10)) .unit])))
noncomputable def L_impl_NameOk_1 : Nat → (List UInt8) × Int → Option ((List UInt8) ⊕ (Bool)) := evL [fn_impl_inRange] (finT [.t 2] [] [.cell .bool]) 0 ⟨[(0, true), (3, false)], [.cell .str, .cell (.int .i64)]⟩ ⟨[(0, true)], [.cell .str]⟩ B_impl_NameOk_1
def F_impl_NameOk : TF := ⟨(.seq (.reg none [.p (.mv 2 (.c (.bool false))) .unit])
 (.seq (.seq (.reg none [.p (.mv 3 (.c (.int .i64 0))) .unit])
 (.jl 0 ⟨[(0, true), (3, false)], [.cell .str, .cell (.int .i64)]⟩ ⟨[(0, true)], [.cell .str]⟩ B_impl_NameOk_1))
 (.seq (.reg none [.p (.mv 39 (.t 0)) .unit,
  .p (.lenS 40 (.t 39)) .unit,
  .p (.callB 41 n_impl_inRange [((.t 40), 0), ((.c (.int .i64 1)), 0), ((.c (.int .i64 12)), 0)]) .unit,
  .p (.mv 2 (.t 41)) .unit])
 .ret))),
 42, 1, [.t 2]⟩
theorem m_impl_NameOk : mH Try.prog 76 [] = some (F_impl_NameOk.code.x, F_impl_NameOk.N, F_impl_NameOk.np, F_impl_NameOk.res) := by kernel_rfl
noncomputable def T_impl_NameOk : List UInt8 → Option (Bool) := evF [fn_impl_inRange] F_impl_NameOk [.cell .str] [] [.cell .bool] []
noncomputable def fn_impl_NameOk : TFn := ⟨76, [.cell .str], [], [.cell .bool], [], T_impl_NameOk⟩
theorem ok_impl_NameOk : FnOk Try.prog fn_impl_NameOk := evF_ok mixed (allOk_cons ok_impl_inRange allOk_nil) m_impl_NameOk (by decide)
def B_impl_areShort_1 : TC := (.seq (.reg none [.p (.bin 8 false .lss (.t 7) (.t 6)) .unit])
 (.seq (.cond (.t 8) .skip (.exit 0))
 (.seq (.block 1 (.seq (.reg none [.p (.iadr 9 1 (.t 5) (.t 7)) .unit,
  .p (.load 10 (.t 9) 1 false) .unit,
  .p (.mv 4 (.t 10)) .unit])
 (.seq (.reg none [.p (.mv 11 (.t 4)) .unit,
  .p (.lenS 12 (.t 11)) .unit,
  .p (.bin 13 false .gtr (.t 12) (.c (.int .i64 60))) .unit])
 (.cond (.t 13) (.seq (.reg none [.p (.mv 2 (.c (.bool false))) .unit])
 .ret) .skip))))
 (.reg none [.p (.bin 14 false .add (.t 7) (.c (.int .i64 1))) .unit,
  .p (.mv 7 (.t 14)) .unit]))))
noncomputable def L_impl_areShort_1 : Nat → (List (List UInt8)) × (Int) × Int → Option ((Unit) ⊕ (Bool)) := evL [] (finT [.t 2] [] [.cell .bool]) 0 ⟨[(5, false), (6, false), (7, false)], [.cell (.sl false .str), .cell (.int .i64), .cell (.int .i64)]⟩ ⟨[], []⟩ B_impl_areShort_1
def F_impl_areShort : TF := ⟨(.seq (.reg none [.p (.mv 2 (.c (.bool false))) .unit])
 (.seq (.seq (.reg none [.p (.mv 5 (.t 0)) .unit,
  .p (.lenB 6 (.t 5)) .unit,
  .p (.mv 7 (.c (.int .i64 0))) .unit])
 (.jl 0 ⟨[(5, false), (6, false), (7, false)], [.cell (.sl false .str), .cell (.int .i64), .cell (.int .i64)]⟩ ⟨[], []⟩ B_impl_areShort_1))
 (.seq (.reg none [.p (.mv 2 (.c (.bool true))) .unit])
 .ret))),
 15, 1, [.t 2]⟩
theorem m_impl_areShort : mH Try.prog 77 [] = some (F_impl_areShort.code.x, F_impl_areShort.N, F_impl_areShort.np, F_impl_areShort.res) := by kernel_rfl
noncomputable def T_impl_areShort : List (List UInt8) → Option (Bool) := evF [] F_impl_areShort [.cell (.sl false .str)] [] [.cell .bool] []
noncomputable def fn_impl_areShort : TFn := ⟨77, [.cell (.sl false .str)], [], [.cell .bool], [], T_impl_areShort⟩
theorem ok_impl_areShort : FnOk Try.prog fn_impl_areShort := evF_ok mixed allOk_nil m_impl_areShort (by decide)
def F_impl_BoxOk : TF := ⟨(.seq (.reg none [.p (.box 1 (.t 0)) .unit,
  .p (.mv 2 (.c (.bool false))) .unit])
 (.seq (.reg none [.p (.fadr 3 (.t 1) 0) .unit,
  .p (.load 4 (.t 3) 1 false) .unit,
  .p (.callB 5 n_impl_NameOk [((.t 4), 0)]) .unit,
  .p (.mv 6 (.t 5)) .unit,
  .g 6 true (some 7) (.fadr 7 (.t 1) 1) .unit,
  .g 6 true (some 8) (.load 8 (.t 7) 1 false) .unit,
  .g 6 true (some 9) (.lenB 9 (.t 8)) .unit,
  .g 6 true (some 10) (.bin 10 false .leq (.t 9) (.c (.int .i64 5))) .unit,
  .p (.pick 11 (.t 6) (.t 10) (.c (.bool false))) .unit,
  .p (.mv 12 (.t 11)) .unit,
  .g 12 true (some 13) (.fadr 13 (.t 1) 1) .unit,
  .g 12 true (some 14) (.load 14 (.t 13) 1 false) .unit,
  .g 12 true (some 15) (.callB 15 n_impl_areShort [((.t 14), 0)]) .unit,
  .p (.pick 16 (.t 12) (.t 15) (.c (.bool false))) .unit,
  .p (.mv 17 (.t 16)) .unit,
  .g 17 true (some 18) (.fadr 18 (.t 1) 2) .unit,
  .g 17 true (some 19) (.load 19 (.t 18) 1 false) .unit,
  .g 17 true (some 20) (.mv 20 (.t 19)) .unit,
  .g 20 true (some 21) (.fadr 21 (.t 1) 1) .unit,
  .g 20 true (some 22) (.load 22 (.t 21) 1 false) .unit,
  .g 20 true (some 23) (.lenB 23 (.t 22)) .unit,
  .g 20 true (some 24) (.bin 24 false .gtr (.t 23) (.c (.int .i64 0))) .unit,
  .g 17 true (some 25) (.pick 25 (.t 20) (.t 24) (.c (.bool false))) .unit,
  .g 17 true (some 26) (.un 26 .not (.t 25)) .unit,
  .p (.pick 27 (.t 17) (.t 26) (.c (.bool false))) .unit,
  .p (.mv 2 (.t 27)) .unit])
 .ret)),
 28, 1, [.t 2]⟩
theorem m_impl_BoxOk : mH Try.prog 22 [] = some (F_impl_BoxOk.code.x, F_impl_BoxOk.N, F_impl_BoxOk.np, F_impl_BoxOk.res) := by kernel_rfl
noncomputable def T_impl_BoxOk : List UInt8 × List (List UInt8) × Bool → Option (Bool) := evF [fn_impl_NameOk, fn_impl_areShort] F_impl_BoxOk [.agg (.pair .str (.pair (.sl false .str) .bool))] [] [.cell .bool] []
noncomputable def fn_impl_BoxOk : TFn := ⟨22, [.agg (.pair .str (.pair (.sl false .str) .bool))], [], [.cell .bool], [], T_impl_BoxOk⟩
theorem ok_impl_BoxOk : FnOk Try.prog fn_impl_BoxOk := evF_ok mixed (allOk_cons ok_impl_NameOk (allOk_cons ok_impl_areShort allOk_nil)) m_impl_BoxOk (by decide)
def F_impl_Drop : TF := ⟨(.seq (.reg none [.p (.box 2 (.t 0)) .unit,
  .p (.alloc 4 [(.lit (.string (ba []))), (.sl true 1 []), (.lit (.bool false))]) .unit])
 (.seq (.reg none [.p (.load 6 (.t 2) 3 true) .unit,
  .p (.callB 7 n_impl_copyBox [((.t 6), 0)]) .unit,
  .p (.alloc 5 [(.lit (.string (ba []))), (.sl true 1 []), (.lit (.bool false))]) .unit,
  .p (.storeT (.t 5) 7 3) .unit])
 (.seq (.seq (.join ⟨[(1, true), (2, false), (4, false), (5, false), (19, false)], [.cell .str, .box (.pair .str (.pair (.sl false .str) .bool)), .box (.pair .str (.pair (.sl true .str) .bool)), .box (.pair .str (.pair (.sl true .str) .bool)), .cell .bool]⟩ (.reg none [.p (.fadr 8 (.t 2) 2) .unit,
  .p (.load 9 (.t 8) 1 false) .unit,
  .p (.mv 10 (.t 9)) .unit,
  .g 10 false (some 11) (.mv 11 (.t 1)) .unit,
  .g 10 false (some 12) (.lenS 12 (.t 11)) .unit,
  .g 10 false (some 13) (.bin 13 false .gtr (.t 12) (.c (.int .i64 60))) .unit,
  .p (.pick 14 (.t 10) (.c (.bool true)) (.t 13)) .unit,
  .p (.mv 15 (.t 14)) .unit,
  .g 15 false (some 16) (.load 16 (.t 2) 3 true) .unit,
  .g 15 false (some 17) (.callB 17 n_impl_BoxOk [((.t 16), 0)]) .unit,
  .g 15 false (some 18) (.un 18 .not (.t 17)) .unit,
  .p (.pick 19 (.t 15) (.c (.bool true)) (.t 18)) .unit]))
 (.cond (.t 19) (.seq (.reg none [.p (.loadT 20 (.t 5) 3 true) .unit,
  .p (.storeT (.t 4) 20 3) .unit])
 .ret) .skip))
 (.seq (.seq (.reg none [.p (.fadr 21 (.t 5) 1) .unit,
  .p (.load 22 (.t 21) 1 false) .unit,
  .p (.lenB 23 (.t 22)) .unit,
  .p (.bin 24 false .eql (.t 23) (.c (.int .i64 5))) .unit])
 (.cond (.t 24) (.seq (.reg none [.p (.fadr 25 (.t 2) 0) .unit,
  .p (.load 26 (.t 25) 1 false) .unit,
  .p (.bld 27 [(.lit (.string (ba []))), (.sl true 1 []), (.lit (.bool false))] [⟨0, 1, (.t 26)⟩, ⟨2, 1, (.c (.bool true))⟩]) .unit,
  .p (.storeT (.t 4) 27 3) .unit])
 .ret) .skip))
 (.seq (.reg none [.p (.fadr 28 (.t 5) 1) .unit,
  .p (.loadT 29 (.t 28) 1 false) .unit,
  .p (.mv 30 (.t 1)) .unit,
  .p (.bldZ 31 1 [(.lit (.string (ba [])))] [⟨0, 1, (.t 30)⟩]) .str,
  .p (.app 32 1 16 (.t 29) (.t 31)) .str,
  .p (.fadr 33 (.t 5) 1) .unit,
  .p (.storeT (.t 33) 32 1) .unit])
 (.seq (.reg none [.p (.loadT 34 (.t 5) 3 true) .unit,
  .p (.storeT (.t 4) 34 3) .unit])
 .ret)))))),
 35, 2, [.c 4 3 true]⟩
theorem m_impl_Drop : mH Try.prog 26 [(1, 3, .t), (3, 0, .t), (3, 1, .t), (5, 3, .t), (6, 1, .t), (6, 3, .z), (6, 6, .t), (7, 0, .t), (7, 1, .t)] = some (F_impl_Drop.code.x, F_impl_Drop.N, F_impl_Drop.np, F_impl_Drop.res) := by kernel_rfl
noncomputable def T_impl_Drop : (List UInt8 × List (List UInt8) × Bool) × List UInt8 → Option (List UInt8 × List (List UInt8) × Bool) := evF [fn_impl_copyBox, fn_impl_BoxOk] F_impl_Drop [.agg (.pair .str (.pair (.sl false .str) .bool)), .cell .str] [] [.agg (.pair .str (.pair (.sl true .str) .bool))] []
noncomputable def fn_impl_Drop : TFn := ⟨26, [.agg (.pair .str (.pair (.sl false .str) .bool)), .cell .str], [], [.agg (.pair .str (.pair (.sl true .str) .bool))], [], T_impl_Drop⟩
theorem ok_impl_Drop : FnOk Try.prog fn_impl_Drop := evF_ok mixed (allOk_cons ok_impl_copyBox (allOk_cons ok_impl_BoxOk allOk_nil)) m_impl_Drop (by decide)
def F_impl_Fetch : TF := ⟨(.seq (.reg none [.p (.box 1 (.t 0)) .unit,
  .p (.alloc 2 [(.lit (.string (ba []))), (.sl true 1 []), (.lit (.bool false))]) .unit,
  .p (.mv 3 (.c (.string (ba [])))) .unit,
  .p (.mv 4 (.c (.bool false))) .unit])
 (.seq (.reg none [.p (.load 6 (.t 1) 3 true) .unit,
  .p (.callB 7 n_impl_copyBox [((.t 6), 0)]) .unit,
  .p (.alloc 5 [(.lit (.string (ba []))), (.sl true 1 []), (.lit (.bool false))]) .unit,
  .p (.storeT (.t 5) 7 3) .unit])
 (.seq (.seq (.join ⟨[(1, false), (2, false), (5, false), (16, false)], [.box (.pair .str (.pair (.sl false .str) .bool)), .box (.pair .str (.pair (.sl true .str) .bool)), .box (.pair .str (.pair (.sl true .str) .bool)), .cell .bool]⟩ (.reg none [.p (.fadr 8 (.t 1) 1) .unit,
  .p (.load 9 (.t 8) 1 false) .unit,
  .p (.lenB 10 (.t 9)) .unit,
  .p (.bin 11 false .eql (.t 10) (.c (.int .i64 0))) .unit,
  .p (.mv 12 (.t 11)) .unit,
  .g 12 false (some 13) (.load 13 (.t 1) 3 true) .unit,
  .g 12 false (some 14) (.callB 14 n_impl_BoxOk [((.t 13), 0)]) .unit,
  .g 12 false (some 15) (.un 15 .not (.t 14)) .unit,
  .p (.pick 16 (.t 12) (.c (.bool true)) (.t 15)) .unit]))
 (.cond (.t 16) (.seq (.reg none [.p (.loadT 17 (.t 5) 3 true) .unit,
  .p (.storeT (.t 2) 17 3) .unit,
  .p (.mv 3 (.c (.string (ba [])))) .unit,
  .p (.mv 4 (.c (.bool false))) .unit])
 .ret) .skip))
 (.seq (.reg none [.p (.fadr 18 (.t 5) 1) .unit,
  .p (.loadT 19 (.t 18) 1 false) .unit,
  .p (.callM 20 n_slices_Delete___string_string_ [] (.tmp 19) [((.c (.int .i64 0)), 0), ((.c (.int .i64 1)), 0)]) .unit,
  .p (.fadr 21 (.t 5) 1) .unit,
  .p (.storeT (.t 21) 20 1) .unit])
 (.seq (.reg (some [[], [], [1], [2], [3], [0, 0], [4, 5, 0, 1, 2, 3, 4, 5], [6, 0, 1, 2, 3, 4, 5, 6]]) [.p (.loadT 22 (.t 5) 3 true) .unit,
  .p (.fadr 23 (.t 1) 1) .unit,
  .p (.load 24 (.t 23) 1 false) .unit,
  .p (.iadr 25 1 (.t 24) (.c (.int .i64 0))) .unit,
  .p (.load 26 (.t 25) 1 false) .unit,
  .p (.storeT (.t 2) 22 3) .unit,
  .p (.mv 3 (.t 26)) .unit,
  .p (.mv 4 (.c (.bool true))) .unit])
 .ret))))),
 27, 1, [.c 2 3 true, .t 3, .t 4]⟩
theorem m_impl_Fetch : mH Try.prog 27 [(1, 3, .t), (3, 0, .t), (3, 1, .t), (4, 1, .t), (4, 2, (.m 0)), (4, 4, .t), (5, 0, .t), (5, 5, .t)] = some (F_impl_Fetch.code.x, F_impl_Fetch.N, F_impl_Fetch.np, F_impl_Fetch.res) := by kernel_rfl
noncomputable def T_impl_Fetch : List UInt8 × List (List UInt8) × Bool → Option ((List UInt8 × List (List UInt8) × Bool) × (List UInt8) × Bool) := evF [fn_impl_copyBox, fn_impl_BoxOk, fn_slices_Delete___string_string_] F_impl_Fetch [.agg (.pair .str (.pair (.sl false .str) .bool))] [] [.agg (.pair .str (.pair (.sl true .str) .bool)), .cell .str, .cell .bool] []
noncomputable def fn_impl_Fetch : TFn := ⟨27, [.agg (.pair .str (.pair (.sl false .str) .bool))], [], [.agg (.pair .str (.pair (.sl true .str) .bool)), .cell .str, .cell .bool], [], T_impl_Fetch⟩
theorem ok_impl_Fetch : FnOk Try.prog fn_impl_Fetch := evF_ok mixed (allOk_cons ok_impl_copyBox (allOk_cons ok_impl_BoxOk (allOk_cons ok_slices_Delete___string_string_ allOk_nil))) m_impl_Fetch (by decide)
def B_laws_FnBoxes_1 : TC := (.seq (.seq (.reg none [.p (.mv 21 (.t 5)) .unit,
  .p (.mvA 22 3) .unit,
  .p (.lenB 23 (.t 22)) .unit,
  .p (.bin 24 false .lss (.t 21) (.t 23)) .unit])
 (.cond (.t 24) .skip (.exit 0)))
 (.seq (.block 1 (.reg (some [[], [], [], [1, 2], [3], [0, 4], [5, 5, 0, 1, 2, 3, 4, 5]]) [.p (.load 27 (.t 4) 3 true) .unit,
  .p (.mvA 28 3) .unit,
  .p (.mv 29 (.t 5)) .unit,
  .p (.iadr 30 1 (.t 28) (.t 29)) .unit,
  .p (.load 31 (.t 30) 1 false) .unit,
  .p (.callB 32 n_impl_Drop [((.t 27), 0), ((.t 31), 0)]) .unit,
  .p (.storeT (.t 4) 32 3) .unit]))
 (.reg none [.p (.mv 25 (.t 5)) .unit,
  .p (.bin 26 false .add (.t 25) (.c (.int .i64 1))) .unit,
  .p (.mv 5 (.t 26)) .unit])))
noncomputable def L_laws_FnBoxes_1 : Nat → (List (List UInt8)) × (List UInt8 × List (List UInt8) × Bool) × Int → Option (((List (List UInt8)) × List UInt8 × List (List UInt8) × Bool) ⊕ (Bool)) := evL [fn_laws_big, fn_spec_DrawTexts, fn_impl_Drop, fn_impl_BoxOk, fn_impl_Fetch] (finT [.t 2] [] [.cell .bool]) 0 ⟨[(3, false), (4, false), (5, false)], [.cell (.sl true .str), .box (.pair .str (.pair (.sl true .str) .bool)), .cell (.int .i64)]⟩ ⟨[(3, false), (4, false)], [.cell (.sl true .str), .box (.pair .str (.pair (.sl true .str) .bool))]⟩ B_laws_FnBoxes_1
def B_laws_FnBoxes_2 : TC := (.seq (.seq (.reg none [.p (.mv 59 (.t 9)) .unit,
  .p (.mvA 60 3) .unit,
  .p (.lenB 61 (.t 60)) .unit,
  .p (.bin 62 false .lss (.t 59) (.t 61)) .unit])
 (.cond (.t 62) .skip (.exit 2)))
 (.seq (.block 3 (.seq (.reg none [.p (.load 66 (.t 4) 3 true) .unit,
  .p (.callB 67 n_impl_Fetch [((.t 66), 0)]) .unit,
  .p (.mvT 65 67) .unit,
  .p (.extT 68 65 0) .unit,
  .p (.ext 69 (.t 65) 1) .unit,
  .p (.ext 70 (.t 65) 2) .unit,
  .p (.alloc 10 [(.lit (.string (ba []))), (.sl true 1 []), (.lit (.bool false))]) .unit,
  .p (.storeT (.t 10) 68 3) .unit,
  .p (.mv 11 (.t 69)) .unit,
  .p (.mv 12 (.t 70)) .unit])
 (.seq (.seq (.join ⟨[(3, false), (4, false), (9, false), (10, false), (80, false)], [.cell (.sl true .str), .box (.pair .str (.pair (.sl true .str) .bool)), .cell (.int .i64), .box (.pair .str (.pair (.sl true .str) .bool)), .cell .bool]⟩ (.reg none [.p (.mv 71 (.t 12)) .unit,
  .p (.un 72 .not (.t 71)) .unit,
  .p (.mv 73 (.t 72)) .unit,
  .g 73 false (some 74) (.mv 74 (.t 11)) .unit,
  .g 73 false (some 75) (.mvA 75 3) .unit,
  .g 73 false (some 76) (.mv 76 (.t 9)) .unit,
  .g 73 false (some 77) (.iadr 77 1 (.t 75) (.t 76)) .unit,
  .g 73 false (some 78) (.load 78 (.t 77) 1 false) .unit,
  .g 73 false (some 79) (.bin 79 false .neq (.t 74) (.t 78)) .unit,
  .p (.pick 80 (.t 73) (.c (.bool true)) (.t 79)) .unit]))
 (.cond (.t 80) (.seq (.reg none [.p (.mv 2 (.c (.bool false))) .unit])
 .ret) .skip))
 (.reg none [.p (.loadT 81 (.t 10) 3 true) .unit,
  .p (.storeT (.t 4) 81 3) .unit]))))
 (.reg none [.p (.mv 63 (.t 9)) .unit,
  .p (.bin 64 false .add (.t 63) (.c (.int .i64 1))) .unit,
  .p (.mv 9 (.t 64)) .unit])))
noncomputable def L_laws_FnBoxes_2 : Nat → (List (List UInt8)) × (List UInt8 × List (List UInt8) × Bool) × Int → Option ((List UInt8 × List (List UInt8) × Bool) ⊕ (Bool)) := evL [fn_laws_big, fn_spec_DrawTexts, fn_impl_Drop, fn_impl_BoxOk, fn_impl_Fetch] (finT [.t 2] [] [.cell .bool]) 2 ⟨[(3, false), (4, false), (9, false)], [.cell (.sl true .str), .box (.pair .str (.pair (.sl true .str) .bool)), .cell (.int .i64)]⟩ ⟨[(4, false)], [.box (.pair .str (.pair (.sl true .str) .bool))]⟩ B_laws_FnBoxes_2
def F_laws_FnBoxes : TF := ⟨(.seq (.reg none [.p (.mv 2 (.c (.bool false))) .unit])
 (.seq (.seq (.reg none [.p (.mv 16 (.t 0)) .unit,
  .p (.callB 17 n_laws_big [((.t 16), 0)]) .unit])
 (.cond (.t 17) (.seq (.reg none [.p (.mv 2 (.c (.bool true))) .unit])
 .ret) .skip))
 (.seq (.reg none [.p (.mv 18 (.t 0)) .unit,
  .p (.callB 19 n_spec_DrawTexts [((.t 18), 0)]) .unit,
  .p (.mvT 3 19) .unit])
 (.seq (.reg none [.p (.bld 20 [(.lit (.string (ba []))), (.sl true 1 []), (.lit (.bool false))] [⟨0, 1, (.c (.string (ba [98, 111, 120])))⟩]) .unit,
  .p (.alloc 4 [(.lit (.string (ba []))), (.sl true 1 []), (.lit (.bool false))]) .unit,
  .p (.storeT (.t 4) 20 3) .unit])
 (.seq (.seq (.reg none [.p (.mv 5 (.c (.int .i64 0))) .unit])
 (.jl 0 ⟨[(3, false), (4, false), (5, false)], [.cell (.sl true .str), .box (.pair .str (.pair (.sl true .str) .bool)), .cell (.int .i64)]⟩ ⟨[(3, false), (4, false)], [.cell (.sl true .str), .box (.pair .str (.pair (.sl true .str) .bool))]⟩ B_laws_FnBoxes_1))
 (.seq (.seq (.join ⟨[(3, false), (4, false), (43, false)], [.cell (.sl true .str), .box (.pair .str (.pair (.sl true .str) .bool)), .cell .bool]⟩ (.reg none [.p (.load 33 (.t 4) 3 true) .unit,
  .p (.callB 34 n_impl_BoxOk [((.t 33), 0)]) .unit,
  .p (.un 35 .not (.t 34)) .unit,
  .p (.mv 36 (.t 35)) .unit,
  .g 36 false (some 37) (.fadr 37 (.t 4) 2) .unit,
  .g 36 false (some 38) (.load 38 (.t 37) 1 false) .unit,
  .g 36 false (some 39) (.mvA 39 3) .unit,
  .g 36 false (some 40) (.lenB 40 (.t 39)) .unit,
  .g 36 false (some 41) (.bin 41 false .gtr (.t 40) (.c (.int .i64 5))) .unit,
  .g 36 false (some 42) (.bin 42 true .neq (.t 38) (.t 41)) .unit,
  .p (.pick 43 (.t 36) (.c (.bool true)) (.t 42)) .unit]))
 (.cond (.t 43) (.seq (.reg none [.p (.mv 2 (.c (.bool false))) .unit])
 .ret) .skip))
 (.seq (.seq (.reg none [.p (.fadr 44 (.t 4) 2) .unit,
  .p (.load 45 (.t 44) 1 false) .unit])
 (.cond (.t 45) (.seq (.reg none [.p (.load 47 (.t 4) 3 true) .unit,
  .p (.callB 48 n_impl_Fetch [((.t 47), 0)]) .unit,
  .p (.mvT 46 48) .unit,
  .p (.extT 49 46 0) .unit,
  .p (.ext 50 (.t 46) 1) .unit,
  .p (.ext 51 (.t 46) 2) .unit,
  .p (.alloc 6 [(.lit (.string (ba []))), (.sl true 1 []), (.lit (.bool false))]) .unit,
  .p (.storeT (.t 6) 49 3) .unit,
  .p (.mv 7 (.t 50)) .unit,
  .p (.mv 8 (.t 51)) .unit])
 (.seq (.reg none [.p (.mv 52 (.t 8)) .unit,
  .p (.un 53 .not (.t 52)) .unit,
  .p (.mv 54 (.t 53)) .unit,
  .g 54 true (some 55) (.load 55 (.t 4) 3 true) .unit,
  .g 54 true (some 56) (.callB 56 n_impl_Drop [((.t 55), 0), ((.c (.string (ba [120]))), 0)]) .unit,
  .g 54 true (some 57) (.fld 57 (.t 56) 2 1 false) .unit,
  .p (.pick 58 (.t 54) (.t 57) (.c (.bool false))) .unit,
  .p (.mv 2 (.t 58)) .unit])
 .ret)) .skip))
 (.seq (.seq (.reg none [.p (.mv 9 (.c (.int .i64 0))) .unit])
 (.jl 2 ⟨[(3, false), (4, false), (9, false)], [.cell (.sl true .str), .box (.pair .str (.pair (.sl true .str) .bool)), .cell (.int .i64)]⟩ ⟨[(4, false)], [.box (.pair .str (.pair (.sl true .str) .bool))]⟩ B_laws_FnBoxes_2))
 (.seq (.reg none [.p (.load 83 (.t 4) 3 true) .unit,
  .p (.callB 84 n_impl_Fetch [((.t 83), 0)]) .unit,
  .p (.mvT 82 84) .unit,
  .p (.extT 85 82 0) .unit,
  .p (.ext 86 (.t 82) 1) .unit,
  .p (.ext 87 (.t 82) 2) .unit,
  .p (.alloc 13 [(.lit (.string (ba []))), (.sl true 1 []), (.lit (.bool false))]) .unit,
  .p (.storeT (.t 13) 85 3) .unit,
  .p (.mv 14 (.t 86)) .unit,
  .p (.mv 15 (.t 87)) .unit])
 (.seq (.reg none [.p (.mv 88 (.t 15)) .unit,
  .p (.un 89 .not (.t 88)) .unit,
  .p (.mv 2 (.t 89)) .unit])
 .ret)))))))))),
 90, 1, [.t 2]⟩
theorem m_laws_FnBoxes : mH Try.prog 5 [(3, 2, .t), (4, 2, .t), (6, 1, .v), (8, 1, .v), (8, 6, .t), (9, 6, .v), (12, 2, .t), (12, 3, .t), (12, 7, .t), (15, 1, .v), (17, 2, .t), (17, 3, .t), (17, 7, .t), (18, 4, .v), (20, 0, .t), (20, 1, .t), (21, 2, .t), (21, 3, .t), (21, 7, .t)] = some (F_laws_FnBoxes.code.x, F_laws_FnBoxes.N, F_laws_FnBoxes.np, F_laws_FnBoxes.res) := by kernel_rfl
noncomputable def T_laws_FnBoxes : List (Int) → Option (Bool) := evF [fn_laws_big, fn_spec_DrawTexts, fn_impl_Drop, fn_impl_BoxOk, fn_impl_Fetch] F_laws_FnBoxes [.cell (.sl false (.int .u8))] [] [.cell .bool] []
noncomputable def fn_laws_FnBoxes : TFn := ⟨5, [.cell (.sl false (.int .u8))], [], [.cell .bool], [], T_laws_FnBoxes⟩
theorem ok_laws_FnBoxes : FnOk Try.prog fn_laws_FnBoxes := evF_ok mixed (allOk_cons ok_laws_big (allOk_cons ok_spec_DrawTexts (allOk_cons ok_impl_Drop (allOk_cons ok_impl_BoxOk (allOk_cons ok_impl_Fetch allOk_nil))))) m_laws_FnBoxes (by decide)

end Xs
end Go.Proofs.Ytfepabohinkpgaa
