/- The typed code of the functions, printed by program. -/
import Derived.Test.YtkjpdhdmjjepfaaXSafeKeptq1
namespace Go.Proofs.Ytkjpdhdmjjepfaa
open Go Vm
namespace Xs
def B_slices_IndexFunc___impl_Event_impl_Event___impl_hasItem_1_1 : TC := (.seq (.reg none [.p (.bin 9 false .lss (.t 8) (.t 7)) .unit])
 (.seq (.cond (.t 9) .skip (.exit 0))
 (.seq (.block 1 (.seq (.reg none [.p (.mv 10 (.t 8)) .unit,
  .p (.mv 5 (.t 10)) .unit])
 (.seq (.reg none [.p (.mv 11 (.t 1)) .unit,
  .p (.mv 12 (.t 0)) .unit,
  .p (.mv 13 (.t 5)) .unit,
  .p (.iadr 14 8 (.t 12) (.t 13)) .unit,
  .p (.load 15 (.t 14) 8 true) .unit,
  .p (.callF 16 (.t 11) [(.t 15)]) .unit])
 (.cond (.t 16) (.seq (.reg none [.p (.mv 17 (.t 5)) .unit,
  .p (.mv 4 (.t 17)) .unit])
 .ret) .skip))))
 (.reg none [.p (.bin 18 false .add (.t 8) (.c (.int .i64 1))) .unit,
  .p (.mv 8 (.t 18)) .unit]))))
noncomputable def L_slices_IndexFunc___impl_Event_impl_Event___impl_hasItem_1_1 : Nat → (List (Int × (Int × List (Int)) × (Int × Int × Int × List UInt8) × List (Int))) × (Int × (Int × List (Int)) × (Int × Int × Int × List UInt8) × List (Int)) × (Int) × Int → Option ((Unit) ⊕ (Int)) := evL [fn_impl_hasItem_1] (finT [.t 4] [] [.cell (.int .i64)]) 0 ⟨[(0, true), (1, true), (7, false), (8, false)], [.cell (.sl false (.pair (.int .i64) (.pair (.pair (.int .i64) (.sl false (.int .i64))) (.pair (.pair (.int .i64) (.pair (.int .i64) (.pair (.int .i64) .str))) (.sl false (.int .i64)))))), .cell (.fn 65 (.rp (.pair (.int .i64) (.pair (.pair (.int .i64) (.sl false (.int .i64))) (.pair (.pair (.int .i64) (.pair (.int .i64) (.pair (.int .i64) .str))) (.sl false (.int .i64))))))), .cell (.int .i64), .cell (.int .i64)]⟩ ⟨[], []⟩ B_slices_IndexFunc___impl_Event_impl_Event___impl_hasItem_1_1
def F_slices_IndexFunc___impl_Event_impl_Event___impl_hasItem_1 : TF := ⟨(.seq (.reg none [.p (.mv 4 (.c (.int .i64 0))) .unit])
 (.seq (.seq (.reg none [.p (.mv 6 (.t 0)) .unit,
  .p (.lenB 7 (.t 6)) .unit,
  .p (.mv 8 (.c (.int .i64 0))) .unit])
 (.jl 0 ⟨[(0, true), (1, true), (7, false), (8, false)], [.cell (.sl false (.pair (.int .i64) (.pair (.pair (.int .i64) (.sl false (.int .i64))) (.pair (.pair (.int .i64) (.pair (.int .i64) (.pair (.int .i64) .str))) (.sl false (.int .i64)))))), .cell (.fn 65 (.rp (.pair (.int .i64) (.pair (.pair (.int .i64) (.sl false (.int .i64))) (.pair (.pair (.int .i64) (.pair (.int .i64) (.pair (.int .i64) .str))) (.sl false (.int .i64))))))), .cell (.int .i64), .cell (.int .i64)]⟩ ⟨[], []⟩ B_slices_IndexFunc___impl_Event_impl_Event___impl_hasItem_1_1))
 (.seq (.reg none [.p (.mv 4 (.c (.int .i64 (-1)))) .unit])
 .ret))),
 19, 2, [.t 4]⟩
theorem m_slices_IndexFunc___impl_Event_impl_Event___impl_hasItem_1 : mH Try.prog 42 [] = some (F_slices_IndexFunc___impl_Event_impl_Event___impl_hasItem_1.code.x, F_slices_IndexFunc___impl_Event_impl_Event___impl_hasItem_1.N, F_slices_IndexFunc___impl_Event_impl_Event___impl_hasItem_1.np, F_slices_IndexFunc___impl_Event_impl_Event___impl_hasItem_1.res) := by kernel_rfl
noncomputable def T_slices_IndexFunc___impl_Event_impl_Event___impl_hasItem_1 : (List (Int × (Int × List (Int)) × (Int × Int × Int × List UInt8) × List (Int))) × Int × (Int × List (Int)) × (Int × Int × Int × List UInt8) × List (Int) → Option (Int) := evF [fn_impl_hasItem_1] F_slices_IndexFunc___impl_Event_impl_Event___impl_hasItem_1 [.cell (.sl false (.pair (.int .i64) (.pair (.pair (.int .i64) (.sl false (.int .i64))) (.pair (.pair (.int .i64) (.pair (.int .i64) (.pair (.int .i64) .str))) (.sl false (.int .i64)))))), .cell (.fn 65 (.rp (.pair (.int .i64) (.pair (.pair (.int .i64) (.sl false (.int .i64))) (.pair (.pair (.int .i64) (.pair (.int .i64) (.pair (.int .i64) .str))) (.sl false (.int .i64)))))))] [] [.cell (.int .i64)] []
noncomputable def fn_slices_IndexFunc___impl_Event_impl_Event___impl_hasItem_1 : TFn := ⟨42, [.cell (.sl false (.pair (.int .i64) (.pair (.pair (.int .i64) (.sl false (.int .i64))) (.pair (.pair (.int .i64) (.pair (.int .i64) (.pair (.int .i64) .str))) (.sl false (.int .i64)))))), .cell (.fn 65 (.rp (.pair (.int .i64) (.pair (.pair (.int .i64) (.sl false (.int .i64))) (.pair (.pair (.int .i64) (.pair (.int .i64) (.pair (.int .i64) .str))) (.sl false (.int .i64)))))))], [], [.cell (.int .i64)], [], T_slices_IndexFunc___impl_Event_impl_Event___impl_hasItem_1⟩
theorem ok_slices_IndexFunc___impl_Event_impl_Event___impl_hasItem_1 : FnOk Try.prog fn_slices_IndexFunc___impl_Event_impl_Event___impl_hasItem_1 := evF_ok mixed (allOk_cons ok_impl_hasItem_1 allOk_nil) m_slices_IndexFunc___impl_Event_impl_Event___impl_hasItem_1 (by decide)
def F_slices_ContainsFunc___impl_Event_impl_Event___impl_hasItem_1 : TF := ⟨(.seq (.reg none [.p (.mv 4 (.c (.bool false))) .unit])
 (.seq (.reg none [.p (.mv 5 (.t 0)) .unit,
  .p (.mv 6 (.t 1)) .unit,
  .p (.callB 7 n_slices_IndexFunc___impl_Event_impl_Event_ [((.t 5), 0), ((.t 6), 0)]) .unit,
  .p (.bin 8 false .geq (.t 7) (.c (.int .i64 0))) .unit,
  .p (.mv 4 (.t 8)) .unit])
 .ret)),
 9, 2, [.t 4]⟩
theorem m_slices_ContainsFunc___impl_Event_impl_Event___impl_hasItem_1 : mH Try.prog 64 [] = some (F_slices_ContainsFunc___impl_Event_impl_Event___impl_hasItem_1.code.x, F_slices_ContainsFunc___impl_Event_impl_Event___impl_hasItem_1.N, F_slices_ContainsFunc___impl_Event_impl_Event___impl_hasItem_1.np, F_slices_ContainsFunc___impl_Event_impl_Event___impl_hasItem_1.res) := by kernel_rfl
noncomputable def T_slices_ContainsFunc___impl_Event_impl_Event___impl_hasItem_1 : (List (Int × (Int × List (Int)) × (Int × Int × Int × List UInt8) × List (Int))) × Int × (Int × List (Int)) × (Int × Int × Int × List UInt8) × List (Int) → Option (Bool) := evF [fn_slices_IndexFunc___impl_Event_impl_Event___impl_hasItem_1, fn_impl_hasItem_1] F_slices_ContainsFunc___impl_Event_impl_Event___impl_hasItem_1 [.cell (.sl false (.pair (.int .i64) (.pair (.pair (.int .i64) (.sl false (.int .i64))) (.pair (.pair (.int .i64) (.pair (.int .i64) (.pair (.int .i64) .str))) (.sl false (.int .i64)))))), .cell (.fn 65 (.rp (.pair (.int .i64) (.pair (.pair (.int .i64) (.sl false (.int .i64))) (.pair (.pair (.int .i64) (.pair (.int .i64) (.pair (.int .i64) .str))) (.sl false (.int .i64)))))))] [] [.cell .bool] []
noncomputable def fn_slices_ContainsFunc___impl_Event_impl_Event___impl_hasItem_1 : TFn := ⟨64, [.cell (.sl false (.pair (.int .i64) (.pair (.pair (.int .i64) (.sl false (.int .i64))) (.pair (.pair (.int .i64) (.pair (.int .i64) (.pair (.int .i64) .str))) (.sl false (.int .i64)))))), .cell (.fn 65 (.rp (.pair (.int .i64) (.pair (.pair (.int .i64) (.sl false (.int .i64))) (.pair (.pair (.int .i64) (.pair (.int .i64) (.pair (.int .i64) .str))) (.sl false (.int .i64)))))))], [], [.cell .bool], [], T_slices_ContainsFunc___impl_Event_impl_Event___impl_hasItem_1⟩
theorem ok_slices_ContainsFunc___impl_Event_impl_Event___impl_hasItem_1 : FnOk Try.prog fn_slices_ContainsFunc___impl_Event_impl_Event___impl_hasItem_1 := evF_ok mixed (allOk_cons ok_slices_IndexFunc___impl_Event_impl_Event___impl_hasItem_1 (allOk_cons ok_impl_hasItem_1 allOk_nil)) m_slices_ContainsFunc___impl_Event_impl_Event___impl_hasItem_1 (by decide)
def F_impl_hasItem : TF := ⟨(.seq (.reg none [.p (.boxZ 3 (.t 1)) .unit,
  .p (.mv 4 (.c (.bool false))) .unit])
 (.seq (.reg none [.p (.mv 5 (.t 0)) .unit,
  .p (.mkF 6 65 [(.t 3)]) .unit,
  .p (.callB 7 n_slices_ContainsFunc___impl_Event_impl_Event_ [((.t 5), 0), ((.t 6), 0)]) .unit,
  .p (.mv 4 (.t 7)) .unit])
 .ret)),
 8, 2, [.t 4]⟩
theorem m_impl_hasItem : mH Try.prog 44 [(0, 0, .z)] = some (F_impl_hasItem.code.x, F_impl_hasItem.N, F_impl_hasItem.np, F_impl_hasItem.res) := by kernel_rfl
noncomputable def T_impl_hasItem : (List (Int × (Int × List (Int)) × (Int × Int × Int × List UInt8) × List (Int))) × Int × (Int × List (Int)) × (Int × Int × Int × List UInt8) × List (Int) → Option (Bool) := evF [fn_impl_hasItem_1, fn_slices_ContainsFunc___impl_Event_impl_Event___impl_hasItem_1] F_impl_hasItem [.cell (.sl false (.pair (.int .i64) (.pair (.pair (.int .i64) (.sl false (.int .i64))) (.pair (.pair (.int .i64) (.pair (.int .i64) (.pair (.int .i64) .str))) (.sl false (.int .i64)))))), .agg (.pair (.int .i64) (.pair (.pair (.int .i64) (.sl false (.int .i64))) (.pair (.pair (.int .i64) (.pair (.int .i64) (.pair (.int .i64) .str))) (.sl false (.int .i64)))))] [] [.cell .bool] []
noncomputable def fn_impl_hasItem : TFn := ⟨44, [.cell (.sl false (.pair (.int .i64) (.pair (.pair (.int .i64) (.sl false (.int .i64))) (.pair (.pair (.int .i64) (.pair (.int .i64) (.pair (.int .i64) .str))) (.sl false (.int .i64)))))), .agg (.pair (.int .i64) (.pair (.pair (.int .i64) (.sl false (.int .i64))) (.pair (.pair (.int .i64) (.pair (.int .i64) (.pair (.int .i64) .str))) (.sl false (.int .i64)))))], [], [.cell .bool], [], T_impl_hasItem⟩
theorem ok_impl_hasItem : FnOk Try.prog fn_impl_hasItem := evF_ok mixed (allOk_cons ok_impl_hasItem_1 (allOk_cons ok_slices_ContainsFunc___impl_Event_impl_Event___impl_hasItem_1 allOk_nil)) m_impl_hasItem (by decide)
def F_impl_keptBy : TF := ⟨(.seq (.reg none [.p (.box 3 (.t 1)) .unit,
  .p (.mv 4 (.c (.bool false))) .unit])
 (.seq (.reg none [.p (.mv 6 (.t 0)) .unit,
  .p (.fadr 7 (.t 3) 1) .unit,
  .p (.fadr 8 (.t 7) 0) .unit,
  .p (.load 9 (.t 8) 1 false) .unit,
  .p (.callB 10 n_impl_partOf [((.t 6), 0), ((.t 9), 0)]) .unit,
  .p (.mv 5 (.t 10)) .unit])
 (.seq (.reg (some [[], [0], [1], [2], [2], [3, 4, 2, 2], [2], [5, 6, 5, 2], [2, 7], [8, 7, 0, 1, 2, 3, 4, 5, 6, 7, 8]]) [.p (.mv 11 (.t 5)) .unit,
  .p (.bin 12 false .lss (.t 11) (.c (.int .i64 0))) .unit,
  .p (.mv 13 (.t 12)) .unit,
  .g 13 false (some 14) (.mv 14 (.t 0)) .unit,
  .g 13 false (some 15) (.mv 15 (.t 5)) .unit,
  .g 13 false (some 16) (.callS 16 n_impl_uptoWhole [(.t 14), (.t 15)]) .unit,
  .g 13 false (some 17) (.load 17 (.t 3) 8 true) .unit,
  .g 13 false (some 18) (.callB 18 n_impl_hasItem [((.t 16), 0), ((.t 17), 0)]) .unit,
  .p (.pick 19 (.t 13) (.c (.bool true)) (.t 18)) .unit,
  .p (.mv 4 (.t 19)) .unit])
 .ret))),
 20, 2, [.t 4]⟩
theorem m_impl_keptBy : mH Try.prog 29 [(2, 5, .z)] = some (F_impl_keptBy.code.x, F_impl_keptBy.N, F_impl_keptBy.np, F_impl_keptBy.res) := by kernel_rfl
noncomputable def T_impl_keptBy : (List (Int × (Int × List (Int)) × (Int × Int × Int × List UInt8) × List (Int))) × Int × (Int × List (Int)) × (Int × Int × Int × List UInt8) × List (Int) → Option (Bool) := evF [fn_impl_partOf, fn_impl_uptoWhole, fn_impl_hasItem] F_impl_keptBy [.cell (.sl false (.pair (.int .i64) (.pair (.pair (.int .i64) (.sl false (.int .i64))) (.pair (.pair (.int .i64) (.pair (.int .i64) (.pair (.int .i64) .str))) (.sl false (.int .i64)))))), .agg (.pair (.int .i64) (.pair (.pair (.int .i64) (.sl false (.int .i64))) (.pair (.pair (.int .i64) (.pair (.int .i64) (.pair (.int .i64) .str))) (.sl false (.int .i64)))))] [] [.cell .bool] []
noncomputable def fn_impl_keptBy : TFn := ⟨29, [.cell (.sl false (.pair (.int .i64) (.pair (.pair (.int .i64) (.sl false (.int .i64))) (.pair (.pair (.int .i64) (.pair (.int .i64) (.pair (.int .i64) .str))) (.sl false (.int .i64)))))), .agg (.pair (.int .i64) (.pair (.pair (.int .i64) (.sl false (.int .i64))) (.pair (.pair (.int .i64) (.pair (.int .i64) (.pair (.int .i64) .str))) (.sl false (.int .i64)))))], [], [.cell .bool], [], T_impl_keptBy⟩
theorem ok_impl_keptBy : FnOk Try.prog fn_impl_keptBy := evF_ok mixed (allOk_cons ok_impl_partOf (allOk_cons ok_impl_uptoWhole (allOk_cons ok_impl_hasItem allOk_nil))) m_impl_keptBy (by decide)
def B_impl_SafeKept_1 : TC := (.seq (.reg none [.p (.bin 52 false .lss (.t 51) (.t 50)) .unit])
 (.seq (.cond (.t 52) .skip (.exit 4))
 (.seq (.block 5 (.seq (.reg none [.p (.mv 53 (.t 51)) .unit,
  .p (.iadr 54 24 (.t 49) (.t 51)) .unit,
  .p (.load 55 (.t 54) 24 true) .unit,
  .p (.alloc 9 [(.lit (.int .i64 0)), (.lit (.bool false)), (.lit (.int .i64 0)), (.lit (.int .i64 0)), (.sl true 1 []), (.sl true 4 []), (.sl true 1 []), (.sl true 1 []), (.lit (.int .i64 0)), (.lit (.int .i64 0)), (.lit (.int .i64 0)), (.lit (.int .i64 0)), (.lit (.int .i64 0)), (.lit (.int .i64 0)), (.lit (.int .i64 0)), (.lit (.int .i64 0)), (.lit (.int .i64 0)), (.sl true 1 []), (.lit (.int .i64 0)), (.lit (.int .i64 0)), (.lit (.int .i64 0)), (.sl true 1 []), (.sl true 4 []), (.sl true 8 [])]) .unit,
  .p (.mv 8 (.t 53)) .unit,
  .p (.store (.t 9) (.t 55) 24) .unit])
 (.seq (.join ⟨[(1, false), (3, false), (4, false), (6, false), (11, false), (12, false), (13, false), (19, false), (20, false), (21, false), (49, false), (50, false), (51, false), (65, false)], [.box (.pair (.sl false (.pair (.int .i64) (.sl false (.int .i64)))) (.pair (.sl false (.pair (.int .i64) (.pair .bool (.pair (.pair (.int .i64) (.pair (.pair (.int .i64) (.sl false (.int .i64))) (.pair (.sl false (.pair (.int .i64) (.pair (.int .i64) (.pair (.int .i64) .str)))) (.pair (.sl false (.int .i64)) (.pair (.sl false .str) (.pair (.int .i64) (.pair (.int .i64) (.pair (.int .i64) (.pair (.int .i64) (.pair (.int .i64) (.pair (.int .i64) (.pair (.int .i64) (.pair (.int .i64) (.pair (.int .i64) (.sl false (.int .i64)))))))))))))))) (.pair (.int .i64) (.pair (.int .i64) (.pair (.pair (.int .i64) (.sl false (.int .i64))) (.pair (.sl false (.pair (.int .i64) (.pair (.int .i64) (.pair (.int .i64) (.sl false (.pair (.int .i64) (.pair (.int .i64) (.pair (.int .i64) .str)))))))) (.sl false (.pair (.int .i64) (.pair (.pair (.int .i64) (.sl false (.int .i64))) (.pair (.pair (.int .i64) (.pair (.int .i64) (.pair (.int .i64) .str))) (.sl false (.int .i64)))))))))))))) (.pair (.sl false (.pair (.int .i64) (.pair (.int .i64) (.pair (.int .i64) (.pair (.pair (.int .i64) (.pair (.int .i64) (.pair (.int .i64) .str))) (.pair (.pair (.int .i64) (.pair (.int .i64) (.pair (.int .i64) (.pair (.int .i64) (.pair (.int .i64) (.sl false (.int .i64))))))) (.pair (.int .i64) (.pair (.int .i64) (.pair (.int .i64) (.sl false (.pair (.int .i64) (.pair (.int .i64) (.pair (.int .i64) .str))))))))))))) (.sl false (.pair (.int .i64) (.pair (.pair (.int .i64) (.sl false (.int .i64))) (.pair (.pair (.int .i64) (.pair (.int .i64) (.pair (.int .i64) .str))) (.sl false (.int .i64))))))))), .cell (.int .i64), .box (.pair (.int .i64) (.pair .bool (.pair (.pair (.int .i64) (.pair (.pair (.int .i64) (.sl false (.int .i64))) (.pair (.sl false (.pair (.int .i64) (.pair (.int .i64) (.pair (.int .i64) .str)))) (.pair (.sl false (.int .i64)) (.pair (.sl false .str) (.pair (.int .i64) (.pair (.int .i64) (.pair (.int .i64) (.pair (.int .i64) (.pair (.int .i64) (.pair (.int .i64) (.pair (.int .i64) (.pair (.int .i64) (.pair (.int .i64) (.sl false (.int .i64)))))))))))))))) (.pair (.int .i64) (.pair (.int .i64) (.pair (.pair (.int .i64) (.sl false (.int .i64))) (.pair (.sl false (.pair (.int .i64) (.pair (.int .i64) (.pair (.int .i64) (.sl false (.pair (.int .i64) (.pair (.int .i64) (.pair (.int .i64) .str)))))))) (.sl false (.pair (.int .i64) (.pair (.pair (.int .i64) (.sl false (.int .i64))) (.pair (.pair (.int .i64) (.pair (.int .i64) (.pair (.int .i64) .str))) (.sl false (.int .i64))))))))))))), .box (.pair (.int .i64) (.pair (.pair (.int .i64) (.sl false (.int .i64))) (.pair (.pair (.int .i64) (.pair (.int .i64) (.pair (.int .i64) .str))) (.sl false (.int .i64))))), .cell (.sl false (.pair (.int .i64) (.pair .bool (.pair (.pair (.int .i64) (.pair (.pair (.int .i64) (.sl false (.int .i64))) (.pair (.sl false (.pair (.int .i64) (.pair (.int .i64) (.pair (.int .i64) .str)))) (.pair (.sl false (.int .i64)) (.pair (.sl false .str) (.pair (.int .i64) (.pair (.int .i64) (.pair (.int .i64) (.pair (.int .i64) (.pair (.int .i64) (.pair (.int .i64) (.pair (.int .i64) (.pair (.int .i64) (.pair (.int .i64) (.sl false (.int .i64)))))))))))))))) (.pair (.int .i64) (.pair (.int .i64) (.pair (.pair (.int .i64) (.sl false (.int .i64))) (.pair (.sl false (.pair (.int .i64) (.pair (.int .i64) (.pair (.int .i64) (.sl false (.pair (.int .i64) (.pair (.int .i64) (.pair (.int .i64) .str)))))))) (.sl false (.pair (.int .i64) (.pair (.pair (.int .i64) (.sl false (.int .i64))) (.pair (.pair (.int .i64) (.pair (.int .i64) (.pair (.int .i64) .str))) (.sl false (.int .i64)))))))))))))), .cell (.int .i64), .cell (.int .i64), .cell (.sl false (.pair (.int .i64) (.pair (.pair (.int .i64) (.sl false (.int .i64))) (.pair (.pair (.int .i64) (.pair (.int .i64) (.pair (.int .i64) .str))) (.sl false (.int .i64)))))), .cell (.int .i64), .cell (.int .i64), .cell (.sl false (.pair (.int .i64) (.pair .bool (.pair (.pair (.int .i64) (.pair (.pair (.int .i64) (.sl false (.int .i64))) (.pair (.sl false (.pair (.int .i64) (.pair (.int .i64) (.pair (.int .i64) .str)))) (.pair (.sl false (.int .i64)) (.pair (.sl false .str) (.pair (.int .i64) (.pair (.int .i64) (.pair (.int .i64) (.pair (.int .i64) (.pair (.int .i64) (.pair (.int .i64) (.pair (.int .i64) (.pair (.int .i64) (.pair (.int .i64) (.sl false (.int .i64)))))))))))))))) (.pair (.int .i64) (.pair (.int .i64) (.pair (.pair (.int .i64) (.sl false (.int .i64))) (.pair (.sl false (.pair (.int .i64) (.pair (.int .i64) (.pair (.int .i64) (.sl false (.pair (.int .i64) (.pair (.int .i64) (.pair (.int .i64) .str)))))))) (.sl false (.pair (.int .i64) (.pair (.pair (.int .i64) (.sl false (.int .i64))) (.pair (.pair (.int .i64) (.pair (.int .i64) (.pair (.int .i64) .str))) (.sl false (.int .i64)))))))))))))), .cell (.int .i64), .cell (.int .i64), .cell .bool]⟩ (.reg none [.p (.mv 56 (.t 8)) .unit,
  .p (.mv 57 (.t 3)) .unit,
  .p (.bin 58 false .neq (.t 56) (.t 57)) .unit,
  .p (.mv 59 (.t 58)) .unit,
  .g 59 true (some 60) (.fadr 60 (.t 9) 23) .unit,
  .g 59 true (some 61) (.load 61 (.t 60) 1 false) .unit,
  .g 59 true (some 62) (.load 62 (.t 6) 8 true) .unit,
  .g 59 true (some 63) (.callB 63 n_impl_keptBy [((.t 61), 0), ((.t 62), 0)]) .unit,
  .g 59 true (some 64) (.un 64 .not (.t 63)) .unit,
  .p (.pick 65 (.t 59) (.t 64) (.c (.bool false))) .unit]))
 (.cond (.t 65) (.seq (.reg none [.p (.mv 2 (.c (.bool false))) .unit])
 .ret) .skip))))
 (.reg none [.p (.bin 66 false .add (.t 51) (.c (.int .i64 1))) .unit,
  .p (.mv 51 (.t 66)) .unit]))))
noncomputable def L_impl_SafeKept_1 : Nat → (List (Int × List (Int)) × List (Int × Bool × (Int × (Int × List (Int)) × List (Int × Int × Int × List UInt8) × List (Int) × List (List UInt8) × Int × Int × Int × Int × Int × Int × Int × Int × Int × List (Int)) × Int × Int × (Int × List (Int)) × List (Int × Int × Int × List (Int × Int × Int × List UInt8)) × List (Int × (Int × List (Int)) × (Int × Int × Int × List UInt8) × List (Int))) × List (Int × Int × Int × (Int × Int × Int × List UInt8) × (Int × Int × Int × Int × Int × List (Int)) × Int × Int × Int × List (Int × Int × Int × List UInt8)) × List (Int × (Int × List (Int)) × (Int × Int × Int × List UInt8) × List (Int))) × (Int) × (Int × Bool × (Int × (Int × List (Int)) × List (Int × Int × Int × List UInt8) × List (Int) × List (List UInt8) × Int × Int × Int × Int × Int × Int × Int × Int × Int × List (Int)) × Int × Int × (Int × List (Int)) × List (Int × Int × Int × List (Int × Int × Int × List UInt8)) × List (Int × (Int × List (Int)) × (Int × Int × Int × List UInt8) × List (Int))) × (Int × (Int × List (Int)) × (Int × Int × Int × List UInt8) × List (Int)) × (List (Int × Bool × (Int × (Int × List (Int)) × List (Int × Int × Int × List UInt8) × List (Int) × List (List UInt8) × Int × Int × Int × Int × Int × Int × Int × Int × Int × List (Int)) × Int × Int × (Int × List (Int)) × List (Int × Int × Int × List (Int × Int × Int × List UInt8)) × List (Int × (Int × List (Int)) × (Int × Int × Int × List UInt8) × List (Int)))) × (Int) × (Int) × (List (Int × (Int × List (Int)) × (Int × Int × Int × List UInt8) × List (Int))) × (Int) × (Int) × (List (Int × Bool × (Int × (Int × List (Int)) × List (Int × Int × Int × List UInt8) × List (Int) × List (List UInt8) × Int × Int × Int × Int × Int × Int × Int × Int × Int × List (Int)) × Int × Int × (Int × List (Int)) × List (Int × Int × Int × List (Int × Int × Int × List UInt8)) × List (Int × (Int × List (Int)) × (Int × Int × Int × List UInt8) × List (Int)))) × (Int) × Int → Option (((List (Int × List (Int)) × List (Int × Bool × (Int × (Int × List (Int)) × List (Int × Int × Int × List UInt8) × List (Int) × List (List UInt8) × Int × Int × Int × Int × Int × Int × Int × Int × Int × List (Int)) × Int × Int × (Int × List (Int)) × List (Int × Int × Int × List (Int × Int × Int × List UInt8)) × List (Int × (Int × List (Int)) × (Int × Int × Int × List UInt8) × List (Int))) × List (Int × Int × Int × (Int × Int × Int × List UInt8) × (Int × Int × Int × Int × Int × List (Int)) × Int × Int × Int × List (Int × Int × Int × List UInt8)) × List (Int × (Int × List (Int)) × (Int × Int × Int × List UInt8) × List (Int))) × (Int) × (Int × Bool × (Int × (Int × List (Int)) × List (Int × Int × Int × List UInt8) × List (Int) × List (List UInt8) × Int × Int × Int × Int × Int × Int × Int × Int × Int × List (Int)) × Int × Int × (Int × List (Int)) × List (Int × Int × Int × List (Int × Int × Int × List UInt8)) × List (Int × (Int × List (Int)) × (Int × Int × Int × List UInt8) × List (Int))) × (List (Int × Bool × (Int × (Int × List (Int)) × List (Int × Int × Int × List UInt8) × List (Int) × List (List UInt8) × Int × Int × Int × Int × Int × Int × Int × Int × Int × List (Int)) × Int × Int × (Int × List (Int)) × List (Int × Int × Int × List (Int × Int × Int × List UInt8)) × List (Int × (Int × List (Int)) × (Int × Int × Int × List UInt8) × List (Int)))) × (Int) × (Int) × (List (Int × (Int × List (Int)) × (Int × Int × Int × List UInt8) × List (Int))) × (Int) × Int) ⊕ (Bool)) := evL [fn_impl_partOf, fn_impl_keptBy] (finT [.t 2] [] [.cell .bool]) 4 ⟨[(1, false), (3, false), (4, false), (6, false), (11, false), (12, false), (13, false), (19, false), (20, false), (21, false), (49, false), (50, false), (51, false)], [.box (.pair (.sl false (.pair (.int .i64) (.sl false (.int .i64)))) (.pair (.sl false (.pair (.int .i64) (.pair .bool (.pair (.pair (.int .i64) (.pair (.pair (.int .i64) (.sl false (.int .i64))) (.pair (.sl false (.pair (.int .i64) (.pair (.int .i64) (.pair (.int .i64) .str)))) (.pair (.sl false (.int .i64)) (.pair (.sl false .str) (.pair (.int .i64) (.pair (.int .i64) (.pair (.int .i64) (.pair (.int .i64) (.pair (.int .i64) (.pair (.int .i64) (.pair (.int .i64) (.pair (.int .i64) (.pair (.int .i64) (.sl false (.int .i64)))))))))))))))) (.pair (.int .i64) (.pair (.int .i64) (.pair (.pair (.int .i64) (.sl false (.int .i64))) (.pair (.sl false (.pair (.int .i64) (.pair (.int .i64) (.pair (.int .i64) (.sl false (.pair (.int .i64) (.pair (.int .i64) (.pair (.int .i64) .str)))))))) (.sl false (.pair (.int .i64) (.pair (.pair (.int .i64) (.sl false (.int .i64))) (.pair (.pair (.int .i64) (.pair (.int .i64) (.pair (.int .i64) .str))) (.sl false (.int .i64)))))))))))))) (.pair (.sl false (.pair (.int .i64) (.pair (.int .i64) (.pair (.int .i64) (.pair (.pair (.int .i64) (.pair (.int .i64) (.pair (.int .i64) .str))) (.pair (.pair (.int .i64) (.pair (.int .i64) (.pair (.int .i64) (.pair (.int .i64) (.pair (.int .i64) (.sl false (.int .i64))))))) (.pair (.int .i64) (.pair (.int .i64) (.pair (.int .i64) (.sl false (.pair (.int .i64) (.pair (.int .i64) (.pair (.int .i64) .str))))))))))))) (.sl false (.pair (.int .i64) (.pair (.pair (.int .i64) (.sl false (.int .i64))) (.pair (.pair (.int .i64) (.pair (.int .i64) (.pair (.int .i64) .str))) (.sl false (.int .i64))))))))), .cell (.int .i64), .box (.pair (.int .i64) (.pair .bool (.pair (.pair (.int .i64) (.pair (.pair (.int .i64) (.sl false (.int .i64))) (.pair (.sl false (.pair (.int .i64) (.pair (.int .i64) (.pair (.int .i64) .str)))) (.pair (.sl false (.int .i64)) (.pair (.sl false .str) (.pair (.int .i64) (.pair (.int .i64) (.pair (.int .i64) (.pair (.int .i64) (.pair (.int .i64) (.pair (.int .i64) (.pair (.int .i64) (.pair (.int .i64) (.pair (.int .i64) (.sl false (.int .i64)))))))))))))))) (.pair (.int .i64) (.pair (.int .i64) (.pair (.pair (.int .i64) (.sl false (.int .i64))) (.pair (.sl false (.pair (.int .i64) (.pair (.int .i64) (.pair (.int .i64) (.sl false (.pair (.int .i64) (.pair (.int .i64) (.pair (.int .i64) .str)))))))) (.sl false (.pair (.int .i64) (.pair (.pair (.int .i64) (.sl false (.int .i64))) (.pair (.pair (.int .i64) (.pair (.int .i64) (.pair (.int .i64) .str))) (.sl false (.int .i64))))))))))))), .box (.pair (.int .i64) (.pair (.pair (.int .i64) (.sl false (.int .i64))) (.pair (.pair (.int .i64) (.pair (.int .i64) (.pair (.int .i64) .str))) (.sl false (.int .i64))))), .cell (.sl false (.pair (.int .i64) (.pair .bool (.pair (.pair (.int .i64) (.pair (.pair (.int .i64) (.sl false (.int .i64))) (.pair (.sl false (.pair (.int .i64) (.pair (.int .i64) (.pair (.int .i64) .str)))) (.pair (.sl false (.int .i64)) (.pair (.sl false .str) (.pair (.int .i64) (.pair (.int .i64) (.pair (.int .i64) (.pair (.int .i64) (.pair (.int .i64) (.pair (.int .i64) (.pair (.int .i64) (.pair (.int .i64) (.pair (.int .i64) (.sl false (.int .i64)))))))))))))))) (.pair (.int .i64) (.pair (.int .i64) (.pair (.pair (.int .i64) (.sl false (.int .i64))) (.pair (.sl false (.pair (.int .i64) (.pair (.int .i64) (.pair (.int .i64) (.sl false (.pair (.int .i64) (.pair (.int .i64) (.pair (.int .i64) .str)))))))) (.sl false (.pair (.int .i64) (.pair (.pair (.int .i64) (.sl false (.int .i64))) (.pair (.pair (.int .i64) (.pair (.int .i64) (.pair (.int .i64) .str))) (.sl false (.int .i64)))))))))))))), .cell (.int .i64), .cell (.int .i64), .cell (.sl false (.pair (.int .i64) (.pair (.pair (.int .i64) (.sl false (.int .i64))) (.pair (.pair (.int .i64) (.pair (.int .i64) (.pair (.int .i64) .str))) (.sl false (.int .i64)))))), .cell (.int .i64), .cell (.int .i64), .cell (.sl false (.pair (.int .i64) (.pair .bool (.pair (.pair (.int .i64) (.pair (.pair (.int .i64) (.sl false (.int .i64))) (.pair (.sl false (.pair (.int .i64) (.pair (.int .i64) (.pair (.int .i64) .str)))) (.pair (.sl false (.int .i64)) (.pair (.sl false .str) (.pair (.int .i64) (.pair (.int .i64) (.pair (.int .i64) (.pair (.int .i64) (.pair (.int .i64) (.pair (.int .i64) (.pair (.int .i64) (.pair (.int .i64) (.pair (.int .i64) (.sl false (.int .i64)))))))))))))))) (.pair (.int .i64) (.pair (.int .i64) (.pair (.pair (.int .i64) (.sl false (.int .i64))) (.pair (.sl false (.pair (.int .i64) (.pair (.int .i64) (.pair (.int .i64) (.sl false (.pair (.int .i64) (.pair (.int .i64) (.pair (.int .i64) .str)))))))) (.sl false (.pair (.int .i64) (.pair (.pair (.int .i64) (.sl false (.int .i64))) (.pair (.pair (.int .i64) (.pair (.int .i64) (.pair (.int .i64) .str))) (.sl false (.int .i64)))))))))))))), .cell (.int .i64), .cell (.int .i64)]⟩ ⟨[(1, false), (3, false), (4, false), (11, false), (12, false), (13, false), (19, false), (20, false), (21, false)], [.box (.pair (.sl false (.pair (.int .i64) (.sl false (.int .i64)))) (.pair (.sl false (.pair (.int .i64) (.pair .bool (.pair (.pair (.int .i64) (.pair (.pair (.int .i64) (.sl false (.int .i64))) (.pair (.sl false (.pair (.int .i64) (.pair (.int .i64) (.pair (.int .i64) .str)))) (.pair (.sl false (.int .i64)) (.pair (.sl false .str) (.pair (.int .i64) (.pair (.int .i64) (.pair (.int .i64) (.pair (.int .i64) (.pair (.int .i64) (.pair (.int .i64) (.pair (.int .i64) (.pair (.int .i64) (.pair (.int .i64) (.sl false (.int .i64)))))))))))))))) (.pair (.int .i64) (.pair (.int .i64) (.pair (.pair (.int .i64) (.sl false (.int .i64))) (.pair (.sl false (.pair (.int .i64) (.pair (.int .i64) (.pair (.int .i64) (.sl false (.pair (.int .i64) (.pair (.int .i64) (.pair (.int .i64) .str)))))))) (.sl false (.pair (.int .i64) (.pair (.pair (.int .i64) (.sl false (.int .i64))) (.pair (.pair (.int .i64) (.pair (.int .i64) (.pair (.int .i64) .str))) (.sl false (.int .i64)))))))))))))) (.pair (.sl false (.pair (.int .i64) (.pair (.int .i64) (.pair (.int .i64) (.pair (.pair (.int .i64) (.pair (.int .i64) (.pair (.int .i64) .str))) (.pair (.pair (.int .i64) (.pair (.int .i64) (.pair (.int .i64) (.pair (.int .i64) (.pair (.int .i64) (.sl false (.int .i64))))))) (.pair (.int .i64) (.pair (.int .i64) (.pair (.int .i64) (.sl false (.pair (.int .i64) (.pair (.int .i64) (.pair (.int .i64) .str))))))))))))) (.sl false (.pair (.int .i64) (.pair (.pair (.int .i64) (.sl false (.int .i64))) (.pair (.pair (.int .i64) (.pair (.int .i64) (.pair (.int .i64) .str))) (.sl false (.int .i64))))))))), .cell (.int .i64), .box (.pair (.int .i64) (.pair .bool (.pair (.pair (.int .i64) (.pair (.pair (.int .i64) (.sl false (.int .i64))) (.pair (.sl false (.pair (.int .i64) (.pair (.int .i64) (.pair (.int .i64) .str)))) (.pair (.sl false (.int .i64)) (.pair (.sl false .str) (.pair (.int .i64) (.pair (.int .i64) (.pair (.int .i64) (.pair (.int .i64) (.pair (.int .i64) (.pair (.int .i64) (.pair (.int .i64) (.pair (.int .i64) (.pair (.int .i64) (.sl false (.int .i64)))))))))))))))) (.pair (.int .i64) (.pair (.int .i64) (.pair (.pair (.int .i64) (.sl false (.int .i64))) (.pair (.sl false (.pair (.int .i64) (.pair (.int .i64) (.pair (.int .i64) (.sl false (.pair (.int .i64) (.pair (.int .i64) (.pair (.int .i64) .str)))))))) (.sl false (.pair (.int .i64) (.pair (.pair (.int .i64) (.sl false (.int .i64))) (.pair (.pair (.int .i64) (.pair (.int .i64) (.pair (.int .i64) .str))) (.sl false (.int .i64))))))))))))), .cell (.sl false (.pair (.int .i64) (.pair .bool (.pair (.pair (.int .i64) (.pair (.pair (.int .i64) (.sl false (.int .i64))) (.pair (.sl false (.pair (.int .i64) (.pair (.int .i64) (.pair (.int .i64) .str)))) (.pair (.sl false (.int .i64)) (.pair (.sl false .str) (.pair (.int .i64) (.pair (.int .i64) (.pair (.int .i64) (.pair (.int .i64) (.pair (.int .i64) (.pair (.int .i64) (.pair (.int .i64) (.pair (.int .i64) (.pair (.int .i64) (.sl false (.int .i64)))))))))))))))) (.pair (.int .i64) (.pair (.int .i64) (.pair (.pair (.int .i64) (.sl false (.int .i64))) (.pair (.sl false (.pair (.int .i64) (.pair (.int .i64) (.pair (.int .i64) (.sl false (.pair (.int .i64) (.pair (.int .i64) (.pair (.int .i64) .str)))))))) (.sl false (.pair (.int .i64) (.pair (.pair (.int .i64) (.sl false (.int .i64))) (.pair (.pair (.int .i64) (.pair (.int .i64) (.pair (.int .i64) .str))) (.sl false (.int .i64)))))))))))))), .cell (.int .i64), .cell (.int .i64), .cell (.sl false (.pair (.int .i64) (.pair (.pair (.int .i64) (.sl false (.int .i64))) (.pair (.pair (.int .i64) (.pair (.int .i64) (.pair (.int .i64) .str))) (.sl false (.int .i64)))))), .cell (.int .i64), .cell (.int .i64)]⟩ B_impl_SafeKept_1
def B_impl_SafeKept_2 : TC := (.seq (.reg none [.p (.bin 22 false .lss (.t 21) (.t 20)) .unit])
 (.seq (.cond (.t 22) .skip (.exit 2))
 (.seq (.join ⟨[(1, false), (3, false), (4, false), (11, false), (12, false), (13, false), (19, false), (20, false), (21, false)], [.box (.pair (.sl false (.pair (.int .i64) (.sl false (.int .i64)))) (.pair (.sl false (.pair (.int .i64) (.pair .bool (.pair (.pair (.int .i64) (.pair (.pair (.int .i64) (.sl false (.int .i64))) (.pair (.sl false (.pair (.int .i64) (.pair (.int .i64) (.pair (.int .i64) .str)))) (.pair (.sl false (.int .i64)) (.pair (.sl false .str) (.pair (.int .i64) (.pair (.int .i64) (.pair (.int .i64) (.pair (.int .i64) (.pair (.int .i64) (.pair (.int .i64) (.pair (.int .i64) (.pair (.int .i64) (.pair (.int .i64) (.sl false (.int .i64)))))))))))))))) (.pair (.int .i64) (.pair (.int .i64) (.pair (.pair (.int .i64) (.sl false (.int .i64))) (.pair (.sl false (.pair (.int .i64) (.pair (.int .i64) (.pair (.int .i64) (.sl false (.pair (.int .i64) (.pair (.int .i64) (.pair (.int .i64) .str)))))))) (.sl false (.pair (.int .i64) (.pair (.pair (.int .i64) (.sl false (.int .i64))) (.pair (.pair (.int .i64) (.pair (.int .i64) (.pair (.int .i64) .str))) (.sl false (.int .i64)))))))))))))) (.pair (.sl false (.pair (.int .i64) (.pair (.int .i64) (.pair (.int .i64) (.pair (.pair (.int .i64) (.pair (.int .i64) (.pair (.int .i64) .str))) (.pair (.pair (.int .i64) (.pair (.int .i64) (.pair (.int .i64) (.pair (.int .i64) (.pair (.int .i64) (.sl false (.int .i64))))))) (.pair (.int .i64) (.pair (.int .i64) (.pair (.int .i64) (.sl false (.pair (.int .i64) (.pair (.int .i64) (.pair (.int .i64) .str))))))))))))) (.sl false (.pair (.int .i64) (.pair (.pair (.int .i64) (.sl false (.int .i64))) (.pair (.pair (.int .i64) (.pair (.int .i64) (.pair (.int .i64) .str))) (.sl false (.int .i64))))))))), .cell (.int .i64), .box (.pair (.int .i64) (.pair .bool (.pair (.pair (.int .i64) (.pair (.pair (.int .i64) (.sl false (.int .i64))) (.pair (.sl false (.pair (.int .i64) (.pair (.int .i64) (.pair (.int .i64) .str)))) (.pair (.sl false (.int .i64)) (.pair (.sl false .str) (.pair (.int .i64) (.pair (.int .i64) (.pair (.int .i64) (.pair (.int .i64) (.pair (.int .i64) (.pair (.int .i64) (.pair (.int .i64) (.pair (.int .i64) (.pair (.int .i64) (.sl false (.int .i64)))))))))))))))) (.pair (.int .i64) (.pair (.int .i64) (.pair (.pair (.int .i64) (.sl false (.int .i64))) (.pair (.sl false (.pair (.int .i64) (.pair (.int .i64) (.pair (.int .i64) (.sl false (.pair (.int .i64) (.pair (.int .i64) (.pair (.int .i64) .str)))))))) (.sl false (.pair (.int .i64) (.pair (.pair (.int .i64) (.sl false (.int .i64))) (.pair (.pair (.int .i64) (.pair (.int .i64) (.pair (.int .i64) .str))) (.sl false (.int .i64))))))))))))), .cell (.sl false (.pair (.int .i64) (.pair .bool (.pair (.pair (.int .i64) (.pair (.pair (.int .i64) (.sl false (.int .i64))) (.pair (.sl false (.pair (.int .i64) (.pair (.int .i64) (.pair (.int .i64) .str)))) (.pair (.sl false (.int .i64)) (.pair (.sl false .str) (.pair (.int .i64) (.pair (.int .i64) (.pair (.int .i64) (.pair (.int .i64) (.pair (.int .i64) (.pair (.int .i64) (.pair (.int .i64) (.pair (.int .i64) (.pair (.int .i64) (.sl false (.int .i64)))))))))))))))) (.pair (.int .i64) (.pair (.int .i64) (.pair (.pair (.int .i64) (.sl false (.int .i64))) (.pair (.sl false (.pair (.int .i64) (.pair (.int .i64) (.pair (.int .i64) (.sl false (.pair (.int .i64) (.pair (.int .i64) (.pair (.int .i64) .str)))))))) (.sl false (.pair (.int .i64) (.pair (.pair (.int .i64) (.sl false (.int .i64))) (.pair (.pair (.int .i64) (.pair (.int .i64) (.pair (.int .i64) .str))) (.sl false (.int .i64)))))))))))))), .cell (.int .i64), .cell (.int .i64), .cell (.sl false (.pair (.int .i64) (.pair (.pair (.int .i64) (.sl false (.int .i64))) (.pair (.pair (.int .i64) (.pair (.int .i64) (.pair (.int .i64) .str))) (.sl false (.int .i64)))))), .cell (.int .i64), .cell (.int .i64)]⟩ (.block 3 (.seq (.reg none [.p (.mv 23 (.t 21)) .unit,
  .p (.iadr 24 8 (.t 19) (.t 21)) .unit,
  .p (.load 25 (.t 24) 8 true) .unit,
  .p (.alloc 6 [(.lit (.int .i64 0)), (.lit (.int .i64 0)), (.sl true 1 []), (.lit (.int .i64 0)), (.lit (.int .i64 0)), (.lit (.int .i64 0)), (.lit (.string (ba []))), (.sl true 1 [])]) .unit,
  .p (.mv 5 (.t 23)) .unit,
  .p (.store (.t 6) (.t 25) 8) .unit])
 (.seq (.seq (.join ⟨[(1, false), (3, false), (4, false), (5, false), (6, false), (11, false), (12, false), (13, false), (19, false), (20, false), (21, false), (34, false)], [.box (.pair (.sl false (.pair (.int .i64) (.sl false (.int .i64)))) (.pair (.sl false (.pair (.int .i64) (.pair .bool (.pair (.pair (.int .i64) (.pair (.pair (.int .i64) (.sl false (.int .i64))) (.pair (.sl false (.pair (.int .i64) (.pair (.int .i64) (.pair (.int .i64) .str)))) (.pair (.sl false (.int .i64)) (.pair (.sl false .str) (.pair (.int .i64) (.pair (.int .i64) (.pair (.int .i64) (.pair (.int .i64) (.pair (.int .i64) (.pair (.int .i64) (.pair (.int .i64) (.pair (.int .i64) (.pair (.int .i64) (.sl false (.int .i64)))))))))))))))) (.pair (.int .i64) (.pair (.int .i64) (.pair (.pair (.int .i64) (.sl false (.int .i64))) (.pair (.sl false (.pair (.int .i64) (.pair (.int .i64) (.pair (.int .i64) (.sl false (.pair (.int .i64) (.pair (.int .i64) (.pair (.int .i64) .str)))))))) (.sl false (.pair (.int .i64) (.pair (.pair (.int .i64) (.sl false (.int .i64))) (.pair (.pair (.int .i64) (.pair (.int .i64) (.pair (.int .i64) .str))) (.sl false (.int .i64)))))))))))))) (.pair (.sl false (.pair (.int .i64) (.pair (.int .i64) (.pair (.int .i64) (.pair (.pair (.int .i64) (.pair (.int .i64) (.pair (.int .i64) .str))) (.pair (.pair (.int .i64) (.pair (.int .i64) (.pair (.int .i64) (.pair (.int .i64) (.pair (.int .i64) (.sl false (.int .i64))))))) (.pair (.int .i64) (.pair (.int .i64) (.pair (.int .i64) (.sl false (.pair (.int .i64) (.pair (.int .i64) (.pair (.int .i64) .str))))))))))))) (.sl false (.pair (.int .i64) (.pair (.pair (.int .i64) (.sl false (.int .i64))) (.pair (.pair (.int .i64) (.pair (.int .i64) (.pair (.int .i64) .str))) (.sl false (.int .i64))))))))), .cell (.int .i64), .box (.pair (.int .i64) (.pair .bool (.pair (.pair (.int .i64) (.pair (.pair (.int .i64) (.sl false (.int .i64))) (.pair (.sl false (.pair (.int .i64) (.pair (.int .i64) (.pair (.int .i64) .str)))) (.pair (.sl false (.int .i64)) (.pair (.sl false .str) (.pair (.int .i64) (.pair (.int .i64) (.pair (.int .i64) (.pair (.int .i64) (.pair (.int .i64) (.pair (.int .i64) (.pair (.int .i64) (.pair (.int .i64) (.pair (.int .i64) (.sl false (.int .i64)))))))))))))))) (.pair (.int .i64) (.pair (.int .i64) (.pair (.pair (.int .i64) (.sl false (.int .i64))) (.pair (.sl false (.pair (.int .i64) (.pair (.int .i64) (.pair (.int .i64) (.sl false (.pair (.int .i64) (.pair (.int .i64) (.pair (.int .i64) .str)))))))) (.sl false (.pair (.int .i64) (.pair (.pair (.int .i64) (.sl false (.int .i64))) (.pair (.pair (.int .i64) (.pair (.int .i64) (.pair (.int .i64) .str))) (.sl false (.int .i64))))))))))))), .cell (.int .i64), .box (.pair (.int .i64) (.pair (.pair (.int .i64) (.sl false (.int .i64))) (.pair (.pair (.int .i64) (.pair (.int .i64) (.pair (.int .i64) .str))) (.sl false (.int .i64))))), .cell (.sl false (.pair (.int .i64) (.pair .bool (.pair (.pair (.int .i64) (.pair (.pair (.int .i64) (.sl false (.int .i64))) (.pair (.sl false (.pair (.int .i64) (.pair (.int .i64) (.pair (.int .i64) .str)))) (.pair (.sl false (.int .i64)) (.pair (.sl false .str) (.pair (.int .i64) (.pair (.int .i64) (.pair (.int .i64) (.pair (.int .i64) (.pair (.int .i64) (.pair (.int .i64) (.pair (.int .i64) (.pair (.int .i64) (.pair (.int .i64) (.sl false (.int .i64)))))))))))))))) (.pair (.int .i64) (.pair (.int .i64) (.pair (.pair (.int .i64) (.sl false (.int .i64))) (.pair (.sl false (.pair (.int .i64) (.pair (.int .i64) (.pair (.int .i64) (.sl false (.pair (.int .i64) (.pair (.int .i64) (.pair (.int .i64) .str)))))))) (.sl false (.pair (.int .i64) (.pair (.pair (.int .i64) (.sl false (.int .i64))) (.pair (.pair (.int .i64) (.pair (.int .i64) (.pair (.int .i64) .str))) (.sl false (.int .i64)))))))))))))), .cell (.int .i64), .cell (.int .i64), .cell (.sl false (.pair (.int .i64) (.pair (.pair (.int .i64) (.sl false (.int .i64))) (.pair (.pair (.int .i64) (.pair (.int .i64) (.pair (.int .i64) .str))) (.sl false (.int .i64)))))), .cell (.int .i64), .cell (.int .i64), .cell .bool]⟩ (.reg none [.p (.fadr 26 (.t 6) 0) .unit,
  .p (.load 27 (.t 26) 1 false) .unit,
  .p (.bin 28 false .neq (.t 27) (.c (.int .i64 1))) .unit,
  .p (.mv 29 (.t 28)) .unit,
  .g 29 false (some 30) (.fadr 30 (.t 6) 3) .unit,
  .g 29 false (some 31) (.fadr 31 (.t 30) 2) .unit,
  .g 29 false (some 32) (.load 32 (.t 31) 1 false) .unit,
  .g 29 false (some 33) (.bin 33 false .neq (.t 32) (.c (.int .i64 2))) .unit,
  .p (.pick 34 (.t 29) (.c (.bool true)) (.t 33)) .unit]))
 (.cond (.t 34) (.exit 3) .skip))
 (.seq (.seq (.reg none [.p (.fadr 35 (.t 4) 23) .unit,
  .p (.load 36 (.t 35) 1 false) .unit,
  .p (.fadr 37 (.t 6) 1) .unit,
  .p (.fadr 38 (.t 37) 0) .unit,
  .p (.load 39 (.t 38) 1 false) .unit,
  .p (.callB 40 n_impl_partOf [((.t 36), 0), ((.t 39), 0)]) .unit,
  .p (.mv 7 (.t 40)) .unit])
 (.seq (.join ⟨[(1, false), (3, false), (4, false), (6, false), (11, false), (12, false), (13, false), (19, false), (20, false), (21, false), (47, false)], [.box (.pair (.sl false (.pair (.int .i64) (.sl false (.int .i64)))) (.pair (.sl false (.pair (.int .i64) (.pair .bool (.pair (.pair (.int .i64) (.pair (.pair (.int .i64) (.sl false (.int .i64))) (.pair (.sl false (.pair (.int .i64) (.pair (.int .i64) (.pair (.int .i64) .str)))) (.pair (.sl false (.int .i64)) (.pair (.sl false .str) (.pair (.int .i64) (.pair (.int .i64) (.pair (.int .i64) (.pair (.int .i64) (.pair (.int .i64) (.pair (.int .i64) (.pair (.int .i64) (.pair (.int .i64) (.pair (.int .i64) (.sl false (.int .i64)))))))))))))))) (.pair (.int .i64) (.pair (.int .i64) (.pair (.pair (.int .i64) (.sl false (.int .i64))) (.pair (.sl false (.pair (.int .i64) (.pair (.int .i64) (.pair (.int .i64) (.sl false (.pair (.int .i64) (.pair (.int .i64) (.pair (.int .i64) .str)))))))) (.sl false (.pair (.int .i64) (.pair (.pair (.int .i64) (.sl false (.int .i64))) (.pair (.pair (.int .i64) (.pair (.int .i64) (.pair (.int .i64) .str))) (.sl false (.int .i64)))))))))))))) (.pair (.sl false (.pair (.int .i64) (.pair (.int .i64) (.pair (.int .i64) (.pair (.pair (.int .i64) (.pair (.int .i64) (.pair (.int .i64) .str))) (.pair (.pair (.int .i64) (.pair (.int .i64) (.pair (.int .i64) (.pair (.int .i64) (.pair (.int .i64) (.sl false (.int .i64))))))) (.pair (.int .i64) (.pair (.int .i64) (.pair (.int .i64) (.sl false (.pair (.int .i64) (.pair (.int .i64) (.pair (.int .i64) .str))))))))))))) (.sl false (.pair (.int .i64) (.pair (.pair (.int .i64) (.sl false (.int .i64))) (.pair (.pair (.int .i64) (.pair (.int .i64) (.pair (.int .i64) .str))) (.sl false (.int .i64))))))))), .cell (.int .i64), .box (.pair (.int .i64) (.pair .bool (.pair (.pair (.int .i64) (.pair (.pair (.int .i64) (.sl false (.int .i64))) (.pair (.sl false (.pair (.int .i64) (.pair (.int .i64) (.pair (.int .i64) .str)))) (.pair (.sl false (.int .i64)) (.pair (.sl false .str) (.pair (.int .i64) (.pair (.int .i64) (.pair (.int .i64) (.pair (.int .i64) (.pair (.int .i64) (.pair (.int .i64) (.pair (.int .i64) (.pair (.int .i64) (.pair (.int .i64) (.sl false (.int .i64)))))))))))))))) (.pair (.int .i64) (.pair (.int .i64) (.pair (.pair (.int .i64) (.sl false (.int .i64))) (.pair (.sl false (.pair (.int .i64) (.pair (.int .i64) (.pair (.int .i64) (.sl false (.pair (.int .i64) (.pair (.int .i64) (.pair (.int .i64) .str)))))))) (.sl false (.pair (.int .i64) (.pair (.pair (.int .i64) (.sl false (.int .i64))) (.pair (.pair (.int .i64) (.pair (.int .i64) (.pair (.int .i64) .str))) (.sl false (.int .i64))))))))))))), .box (.pair (.int .i64) (.pair (.pair (.int .i64) (.sl false (.int .i64))) (.pair (.pair (.int .i64) (.pair (.int .i64) (.pair (.int .i64) .str))) (.sl false (.int .i64))))), .cell (.sl false (.pair (.int .i64) (.pair .bool (.pair (.pair (.int .i64) (.pair (.pair (.int .i64) (.sl false (.int .i64))) (.pair (.sl false (.pair (.int .i64) (.pair (.int .i64) (.pair (.int .i64) .str)))) (.pair (.sl false (.int .i64)) (.pair (.sl false .str) (.pair (.int .i64) (.pair (.int .i64) (.pair (.int .i64) (.pair (.int .i64) (.pair (.int .i64) (.pair (.int .i64) (.pair (.int .i64) (.pair (.int .i64) (.pair (.int .i64) (.sl false (.int .i64)))))))))))))))) (.pair (.int .i64) (.pair (.int .i64) (.pair (.pair (.int .i64) (.sl false (.int .i64))) (.pair (.sl false (.pair (.int .i64) (.pair (.int .i64) (.pair (.int .i64) (.sl false (.pair (.int .i64) (.pair (.int .i64) (.pair (.int .i64) .str)))))))) (.sl false (.pair (.int .i64) (.pair (.pair (.int .i64) (.sl false (.int .i64))) (.pair (.pair (.int .i64) (.pair (.int .i64) (.pair (.int .i64) .str))) (.sl false (.int .i64)))))))))))))), .cell (.int .i64), .cell (.int .i64), .cell (.sl false (.pair (.int .i64) (.pair (.pair (.int .i64) (.sl false (.int .i64))) (.pair (.pair (.int .i64) (.pair (.int .i64) (.pair (.int .i64) .str))) (.sl false (.int .i64)))))), .cell (.int .i64), .cell (.int .i64), .cell .bool]⟩ (.reg none [.p (.mv 41 (.t 7)) .unit,
  .p (.bin 42 false .geq (.t 41) (.c (.int .i64 0))) .unit,
  .p (.mv 43 (.t 42)) .unit,
  .g 43 true (some 44) (.mv 44 (.t 5)) .unit,
  .g 43 true (some 45) (.mv 45 (.t 7)) .unit,
  .g 43 true (some 46) (.bin 46 false .gtr (.t 44) (.t 45)) .unit,
  .p (.pick 47 (.t 43) (.t 46) (.c (.bool false))) .unit]))
 (.cond (.t 47) (.exit 3) .skip)))
 (.seq (.reg none [.p (.fadr 48 (.t 1) 1) .unit,
  .p (.load 49 (.t 48) 1 false) .unit,
  .p (.lenB 50 (.t 49)) .unit,
  .p (.mv 51 (.c (.int .i64 0))) .unit])
 (.jl 4 ⟨[(1, false), (3, false), (4, false), (6, false), (11, false), (12, false), (13, false), (19, false), (20, false), (21, false), (49, false), (50, false), (51, false)], [.box (.pair (.sl false (.pair (.int .i64) (.sl false (.int .i64)))) (.pair (.sl false (.pair (.int .i64) (.pair .bool (.pair (.pair (.int .i64) (.pair (.pair (.int .i64) (.sl false (.int .i64))) (.pair (.sl false (.pair (.int .i64) (.pair (.int .i64) (.pair (.int .i64) .str)))) (.pair (.sl false (.int .i64)) (.pair (.sl false .str) (.pair (.int .i64) (.pair (.int .i64) (.pair (.int .i64) (.pair (.int .i64) (.pair (.int .i64) (.pair (.int .i64) (.pair (.int .i64) (.pair (.int .i64) (.pair (.int .i64) (.sl false (.int .i64)))))))))))))))) (.pair (.int .i64) (.pair (.int .i64) (.pair (.pair (.int .i64) (.sl false (.int .i64))) (.pair (.sl false (.pair (.int .i64) (.pair (.int .i64) (.pair (.int .i64) (.sl false (.pair (.int .i64) (.pair (.int .i64) (.pair (.int .i64) .str)))))))) (.sl false (.pair (.int .i64) (.pair (.pair (.int .i64) (.sl false (.int .i64))) (.pair (.pair (.int .i64) (.pair (.int .i64) (.pair (.int .i64) .str))) (.sl false (.int .i64)))))))))))))) (.pair (.sl false (.pair (.int .i64) (.pair (.int .i64) (.pair (.int .i64) (.pair (.pair (.int .i64) (.pair (.int .i64) (.pair (.int .i64) .str))) (.pair (.pair (.int .i64) (.pair (.int .i64) (.pair (.int .i64) (.pair (.int .i64) (.pair (.int .i64) (.sl false (.int .i64))))))) (.pair (.int .i64) (.pair (.int .i64) (.pair (.int .i64) (.sl false (.pair (.int .i64) (.pair (.int .i64) (.pair (.int .i64) .str))))))))))))) (.sl false (.pair (.int .i64) (.pair (.pair (.int .i64) (.sl false (.int .i64))) (.pair (.pair (.int .i64) (.pair (.int .i64) (.pair (.int .i64) .str))) (.sl false (.int .i64))))))))), .cell (.int .i64), .box (.pair (.int .i64) (.pair .bool (.pair (.pair (.int .i64) (.pair (.pair (.int .i64) (.sl false (.int .i64))) (.pair (.sl false (.pair (.int .i64) (.pair (.int .i64) (.pair (.int .i64) .str)))) (.pair (.sl false (.int .i64)) (.pair (.sl false .str) (.pair (.int .i64) (.pair (.int .i64) (.pair (.int .i64) (.pair (.int .i64) (.pair (.int .i64) (.pair (.int .i64) (.pair (.int .i64) (.pair (.int .i64) (.pair (.int .i64) (.sl false (.int .i64)))))))))))))))) (.pair (.int .i64) (.pair (.int .i64) (.pair (.pair (.int .i64) (.sl false (.int .i64))) (.pair (.sl false (.pair (.int .i64) (.pair (.int .i64) (.pair (.int .i64) (.sl false (.pair (.int .i64) (.pair (.int .i64) (.pair (.int .i64) .str)))))))) (.sl false (.pair (.int .i64) (.pair (.pair (.int .i64) (.sl false (.int .i64))) (.pair (.pair (.int .i64) (.pair (.int .i64) (.pair (.int .i64) .str))) (.sl false (.int .i64))))))))))))), .box (.pair (.int .i64) (.pair (.pair (.int .i64) (.sl false (.int .i64))) (.pair (.pair (.int .i64) (.pair (.int .i64) (.pair (.int .i64) .str))) (.sl false (.int .i64))))), .cell (.sl false (.pair (.int .i64) (.pair .bool (.pair (.pair (.int .i64) (.pair (.pair (.int .i64) (.sl false (.int .i64))) (.pair (.sl false (.pair (.int .i64) (.pair (.int .i64) (.pair (.int .i64) .str)))) (.pair (.sl false (.int .i64)) (.pair (.sl false .str) (.pair (.int .i64) (.pair (.int .i64) (.pair (.int .i64) (.pair (.int .i64) (.pair (.int .i64) (.pair (.int .i64) (.pair (.int .i64) (.pair (.int .i64) (.pair (.int .i64) (.sl false (.int .i64)))))))))))))))) (.pair (.int .i64) (.pair (.int .i64) (.pair (.pair (.int .i64) (.sl false (.int .i64))) (.pair (.sl false (.pair (.int .i64) (.pair (.int .i64) (.pair (.int .i64) (.sl false (.pair (.int .i64) (.pair (.int .i64) (.pair (.int .i64) .str)))))))) (.sl false (.pair (.int .i64) (.pair (.pair (.int .i64) (.sl false (.int .i64))) (.pair (.pair (.int .i64) (.pair (.int .i64) (.pair (.int .i64) .str))) (.sl false (.int .i64)))))))))))))), .cell (.int .i64), .cell (.int .i64), .cell (.sl false (.pair (.int .i64) (.pair (.pair (.int .i64) (.sl false (.int .i64))) (.pair (.pair (.int .i64) (.pair (.int .i64) (.pair (.int .i64) .str))) (.sl false (.int .i64)))))), .cell (.int .i64), .cell (.int .i64), .cell (.sl false (.pair (.int .i64) (.pair .bool (.pair (.pair (.int .i64) (.pair (.pair (.int .i64) (.sl false (.int .i64))) (.pair (.sl false (.pair (.int .i64) (.pair (.int .i64) (.pair (.int .i64) .str)))) (.pair (.sl false (.int .i64)) (.pair (.sl false .str) (.pair (.int .i64) (.pair (.int .i64) (.pair (.int .i64) (.pair (.int .i64) (.pair (.int .i64) (.pair (.int .i64) (.pair (.int .i64) (.pair (.int .i64) (.pair (.int .i64) (.sl false (.int .i64)))))))))))))))) (.pair (.int .i64) (.pair (.int .i64) (.pair (.pair (.int .i64) (.sl false (.int .i64))) (.pair (.sl false (.pair (.int .i64) (.pair (.int .i64) (.pair (.int .i64) (.sl false (.pair (.int .i64) (.pair (.int .i64) (.pair (.int .i64) .str)))))))) (.sl false (.pair (.int .i64) (.pair (.pair (.int .i64) (.sl false (.int .i64))) (.pair (.pair (.int .i64) (.pair (.int .i64) (.pair (.int .i64) .str))) (.sl false (.int .i64)))))))))))))), .cell (.int .i64), .cell (.int .i64)]⟩ ⟨[(1, false), (3, false), (4, false), (11, false), (12, false), (13, false), (19, false), (20, false), (21, false)], [.box (.pair (.sl false (.pair (.int .i64) (.sl false (.int .i64)))) (.pair (.sl false (.pair (.int .i64) (.pair .bool (.pair (.pair (.int .i64) (.pair (.pair (.int .i64) (.sl false (.int .i64))) (.pair (.sl false (.pair (.int .i64) (.pair (.int .i64) (.pair (.int .i64) .str)))) (.pair (.sl false (.int .i64)) (.pair (.sl false .str) (.pair (.int .i64) (.pair (.int .i64) (.pair (.int .i64) (.pair (.int .i64) (.pair (.int .i64) (.pair (.int .i64) (.pair (.int .i64) (.pair (.int .i64) (.pair (.int .i64) (.sl false (.int .i64)))))))))))))))) (.pair (.int .i64) (.pair (.int .i64) (.pair (.pair (.int .i64) (.sl false (.int .i64))) (.pair (.sl false (.pair (.int .i64) (.pair (.int .i64) (.pair (.int .i64) (.sl false (.pair (.int .i64) (.pair (.int .i64) (.pair (.int .i64) .str)))))))) (.sl false (.pair (.int .i64) (.pair (.pair (.int .i64) (.sl false (.int .i64))) (.pair (.pair (.int .i64) (.pair (.int .i64) (.pair (.int .i64) .str))) (.sl false (.int .i64)))))))))))))) (.pair (.sl false (.pair (.int .i64) (.pair (.int .i64) (.pair (.int .i64) (.pair (.pair (.int .i64) (.pair (.int .i64) (.pair (.int .i64) .str))) (.pair (.pair (.int .i64) (.pair (.int .i64) (.pair (.int .i64) (.pair (.int .i64) (.pair (.int .i64) (.sl false (.int .i64))))))) (.pair (.int .i64) (.pair (.int .i64) (.pair (.int .i64) (.sl false (.pair (.int .i64) (.pair (.int .i64) (.pair (.int .i64) .str))))))))))))) (.sl false (.pair (.int .i64) (.pair (.pair (.int .i64) (.sl false (.int .i64))) (.pair (.pair (.int .i64) (.pair (.int .i64) (.pair (.int .i64) .str))) (.sl false (.int .i64))))))))), .cell (.int .i64), .box (.pair (.int .i64) (.pair .bool (.pair (.pair (.int .i64) (.pair (.pair (.int .i64) (.sl false (.int .i64))) (.pair (.sl false (.pair (.int .i64) (.pair (.int .i64) (.pair (.int .i64) .str)))) (.pair (.sl false (.int .i64)) (.pair (.sl false .str) (.pair (.int .i64) (.pair (.int .i64) (.pair (.int .i64) (.pair (.int .i64) (.pair (.int .i64) (.pair (.int .i64) (.pair (.int .i64) (.pair (.int .i64) (.pair (.int .i64) (.sl false (.int .i64)))))))))))))))) (.pair (.int .i64) (.pair (.int .i64) (.pair (.pair (.int .i64) (.sl false (.int .i64))) (.pair (.sl false (.pair (.int .i64) (.pair (.int .i64) (.pair (.int .i64) (.sl false (.pair (.int .i64) (.pair (.int .i64) (.pair (.int .i64) .str)))))))) (.sl false (.pair (.int .i64) (.pair (.pair (.int .i64) (.sl false (.int .i64))) (.pair (.pair (.int .i64) (.pair (.int .i64) (.pair (.int .i64) .str))) (.sl false (.int .i64))))))))))))), .cell (.sl false (.pair (.int .i64) (.pair .bool (.pair (.pair (.int .i64) (.pair (.pair (.int .i64) (.sl false (.int .i64))) (.pair (.sl false (.pair (.int .i64) (.pair (.int .i64) (.pair (.int .i64) .str)))) (.pair (.sl false (.int .i64)) (.pair (.sl false .str) (.pair (.int .i64) (.pair (.int .i64) (.pair (.int .i64) (.pair (.int .i64) (.pair (.int .i64) (.pair (.int .i64) (.pair (.int .i64) (.pair (.int .i64) (.pair (.int .i64) (.sl false (.int .i64)))))))))))))))) (.pair (.int .i64) (.pair (.int .i64) (.pair (.pair (.int .i64) (.sl false (.int .i64))) (.pair (.sl false (.pair (.int .i64) (.pair (.int .i64) (.pair (.int .i64) (.sl false (.pair (.int .i64) (.pair (.int .i64) (.pair (.int .i64) .str)))))))) (.sl false (.pair (.int .i64) (.pair (.pair (.int .i64) (.sl false (.int .i64))) (.pair (.pair (.int .i64) (.pair (.int .i64) (.pair (.int .i64) .str))) (.sl false (.int .i64)))))))))))))), .cell (.int .i64), .cell (.int .i64), .cell (.sl false (.pair (.int .i64) (.pair (.pair (.int .i64) (.sl false (.int .i64))) (.pair (.pair (.int .i64) (.pair (.int .i64) (.pair (.int .i64) .str))) (.sl false (.int .i64)))))), .cell (.int .i64), .cell (.int .i64)]⟩ B_impl_SafeKept_1)))))))
 (.reg none [.p (.bin 67 false .add (.t 21) (.c (.int .i64 1))) .unit,
  .p (.mv 21 (.t 67)) .unit]))))
noncomputable def L_impl_SafeKept_2 : Nat → (List (Int × List (Int)) × List (Int × Bool × (Int × (Int × List (Int)) × List (Int × Int × Int × List UInt8) × List (Int) × List (List UInt8) × Int × Int × Int × Int × Int × Int × Int × Int × Int × List (Int)) × Int × Int × (Int × List (Int)) × List (Int × Int × Int × List (Int × Int × Int × List UInt8)) × List (Int × (Int × List (Int)) × (Int × Int × Int × List UInt8) × List (Int))) × List (Int × Int × Int × (Int × Int × Int × List UInt8) × (Int × Int × Int × Int × Int × List (Int)) × Int × Int × Int × List (Int × Int × Int × List UInt8)) × List (Int × (Int × List (Int)) × (Int × Int × Int × List UInt8) × List (Int))) × (Int) × (Int × Bool × (Int × (Int × List (Int)) × List (Int × Int × Int × List UInt8) × List (Int) × List (List UInt8) × Int × Int × Int × Int × Int × Int × Int × Int × Int × List (Int)) × Int × Int × (Int × List (Int)) × List (Int × Int × Int × List (Int × Int × Int × List UInt8)) × List (Int × (Int × List (Int)) × (Int × Int × Int × List UInt8) × List (Int))) × (List (Int × Bool × (Int × (Int × List (Int)) × List (Int × Int × Int × List UInt8) × List (Int) × List (List UInt8) × Int × Int × Int × Int × Int × Int × Int × Int × Int × List (Int)) × Int × Int × (Int × List (Int)) × List (Int × Int × Int × List (Int × Int × Int × List UInt8)) × List (Int × (Int × List (Int)) × (Int × Int × Int × List UInt8) × List (Int)))) × (Int) × (Int) × (List (Int × (Int × List (Int)) × (Int × Int × Int × List UInt8) × List (Int))) × (Int) × Int → Option (((List (Int × List (Int)) × List (Int × Bool × (Int × (Int × List (Int)) × List (Int × Int × Int × List UInt8) × List (Int) × List (List UInt8) × Int × Int × Int × Int × Int × Int × Int × Int × Int × List (Int)) × Int × Int × (Int × List (Int)) × List (Int × Int × Int × List (Int × Int × Int × List UInt8)) × List (Int × (Int × List (Int)) × (Int × Int × Int × List UInt8) × List (Int))) × List (Int × Int × Int × (Int × Int × Int × List UInt8) × (Int × Int × Int × Int × Int × List (Int)) × Int × Int × Int × List (Int × Int × Int × List UInt8)) × List (Int × (Int × List (Int)) × (Int × Int × Int × List UInt8) × List (Int))) × (List (Int × Bool × (Int × (Int × List (Int)) × List (Int × Int × Int × List UInt8) × List (Int) × List (List UInt8) × Int × Int × Int × Int × Int × Int × Int × Int × Int × List (Int)) × Int × Int × (Int × List (Int)) × List (Int × Int × Int × List (Int × Int × Int × List UInt8)) × List (Int × (Int × List (Int)) × (Int × Int × Int × List UInt8) × List (Int)))) × (Int) × Int) ⊕ (Bool)) := evL [fn_impl_partOf, fn_impl_keptBy] (finT [.t 2] [] [.cell .bool]) 2 ⟨[(1, false), (3, false), (4, false), (11, false), (12, false), (13, false), (19, false), (20, false), (21, false)], [.box (.pair (.sl false (.pair (.int .i64) (.sl false (.int .i64)))) (.pair (.sl false (.pair (.int .i64) (.pair .bool (.pair (.pair (.int .i64) (.pair (.pair (.int .i64) (.sl false (.int .i64))) (.pair (.sl false (.pair (.int .i64) (.pair (.int .i64) (.pair (.int .i64) .str)))) (.pair (.sl false (.int .i64)) (.pair (.sl false .str) (.pair (.int .i64) (.pair (.int .i64) (.pair (.int .i64) (.pair (.int .i64) (.pair (.int .i64) (.pair (.int .i64) (.pair (.int .i64) (.pair (.int .i64) (.pair (.int .i64) (.sl false (.int .i64)))))))))))))))) (.pair (.int .i64) (.pair (.int .i64) (.pair (.pair (.int .i64) (.sl false (.int .i64))) (.pair (.sl false (.pair (.int .i64) (.pair (.int .i64) (.pair (.int .i64) (.sl false (.pair (.int .i64) (.pair (.int .i64) (.pair (.int .i64) .str)))))))) (.sl false (.pair (.int .i64) (.pair (.pair (.int .i64) (.sl false (.int .i64))) (.pair (.pair (.int .i64) (.pair (.int .i64) (.pair (.int .i64) .str))) (.sl false (.int .i64)))))))))))))) (.pair (.sl false (.pair (.int .i64) (.pair (.int .i64) (.pair (.int .i64) (.pair (.pair (.int .i64) (.pair (.int .i64) (.pair (.int .i64) .str))) (.pair (.pair (.int .i64) (.pair (.int .i64) (.pair (.int .i64) (.pair (.int .i64) (.pair (.int .i64) (.sl false (.int .i64))))))) (.pair (.int .i64) (.pair (.int .i64) (.pair (.int .i64) (.sl false (.pair (.int .i64) (.pair (.int .i64) (.pair (.int .i64) .str))))))))))))) (.sl false (.pair (.int .i64) (.pair (.pair (.int .i64) (.sl false (.int .i64))) (.pair (.pair (.int .i64) (.pair (.int .i64) (.pair (.int .i64) .str))) (.sl false (.int .i64))))))))), .cell (.int .i64), .box (.pair (.int .i64) (.pair .bool (.pair (.pair (.int .i64) (.pair (.pair (.int .i64) (.sl false (.int .i64))) (.pair (.sl false (.pair (.int .i64) (.pair (.int .i64) (.pair (.int .i64) .str)))) (.pair (.sl false (.int .i64)) (.pair (.sl false .str) (.pair (.int .i64) (.pair (.int .i64) (.pair (.int .i64) (.pair (.int .i64) (.pair (.int .i64) (.pair (.int .i64) (.pair (.int .i64) (.pair (.int .i64) (.pair (.int .i64) (.sl false (.int .i64)))))))))))))))) (.pair (.int .i64) (.pair (.int .i64) (.pair (.pair (.int .i64) (.sl false (.int .i64))) (.pair (.sl false (.pair (.int .i64) (.pair (.int .i64) (.pair (.int .i64) (.sl false (.pair (.int .i64) (.pair (.int .i64) (.pair (.int .i64) .str)))))))) (.sl false (.pair (.int .i64) (.pair (.pair (.int .i64) (.sl false (.int .i64))) (.pair (.pair (.int .i64) (.pair (.int .i64) (.pair (.int .i64) .str))) (.sl false (.int .i64))))))))))))), .cell (.sl false (.pair (.int .i64) (.pair .bool (.pair (.pair (.int .i64) (.pair (.pair (.int .i64) (.sl false (.int .i64))) (.pair (.sl false (.pair (.int .i64) (.pair (.int .i64) (.pair (.int .i64) .str)))) (.pair (.sl false (.int .i64)) (.pair (.sl false .str) (.pair (.int .i64) (.pair (.int .i64) (.pair (.int .i64) (.pair (.int .i64) (.pair (.int .i64) (.pair (.int .i64) (.pair (.int .i64) (.pair (.int .i64) (.pair (.int .i64) (.sl false (.int .i64)))))))))))))))) (.pair (.int .i64) (.pair (.int .i64) (.pair (.pair (.int .i64) (.sl false (.int .i64))) (.pair (.sl false (.pair (.int .i64) (.pair (.int .i64) (.pair (.int .i64) (.sl false (.pair (.int .i64) (.pair (.int .i64) (.pair (.int .i64) .str)))))))) (.sl false (.pair (.int .i64) (.pair (.pair (.int .i64) (.sl false (.int .i64))) (.pair (.pair (.int .i64) (.pair (.int .i64) (.pair (.int .i64) .str))) (.sl false (.int .i64)))))))))))))), .cell (.int .i64), .cell (.int .i64), .cell (.sl false (.pair (.int .i64) (.pair (.pair (.int .i64) (.sl false (.int .i64))) (.pair (.pair (.int .i64) (.pair (.int .i64) (.pair (.int .i64) .str))) (.sl false (.int .i64)))))), .cell (.int .i64), .cell (.int .i64)]⟩ ⟨[(1, false), (11, false), (12, false), (13, false)], [.box (.pair (.sl false (.pair (.int .i64) (.sl false (.int .i64)))) (.pair (.sl false (.pair (.int .i64) (.pair .bool (.pair (.pair (.int .i64) (.pair (.pair (.int .i64) (.sl false (.int .i64))) (.pair (.sl false (.pair (.int .i64) (.pair (.int .i64) (.pair (.int .i64) .str)))) (.pair (.sl false (.int .i64)) (.pair (.sl false .str) (.pair (.int .i64) (.pair (.int .i64) (.pair (.int .i64) (.pair (.int .i64) (.pair (.int .i64) (.pair (.int .i64) (.pair (.int .i64) (.pair (.int .i64) (.pair (.int .i64) (.sl false (.int .i64)))))))))))))))) (.pair (.int .i64) (.pair (.int .i64) (.pair (.pair (.int .i64) (.sl false (.int .i64))) (.pair (.sl false (.pair (.int .i64) (.pair (.int .i64) (.pair (.int .i64) (.sl false (.pair (.int .i64) (.pair (.int .i64) (.pair (.int .i64) .str)))))))) (.sl false (.pair (.int .i64) (.pair (.pair (.int .i64) (.sl false (.int .i64))) (.pair (.pair (.int .i64) (.pair (.int .i64) (.pair (.int .i64) .str))) (.sl false (.int .i64)))))))))))))) (.pair (.sl false (.pair (.int .i64) (.pair (.int .i64) (.pair (.int .i64) (.pair (.pair (.int .i64) (.pair (.int .i64) (.pair (.int .i64) .str))) (.pair (.pair (.int .i64) (.pair (.int .i64) (.pair (.int .i64) (.pair (.int .i64) (.pair (.int .i64) (.sl false (.int .i64))))))) (.pair (.int .i64) (.pair (.int .i64) (.pair (.int .i64) (.sl false (.pair (.int .i64) (.pair (.int .i64) (.pair (.int .i64) .str))))))))))))) (.sl false (.pair (.int .i64) (.pair (.pair (.int .i64) (.sl false (.int .i64))) (.pair (.pair (.int .i64) (.pair (.int .i64) (.pair (.int .i64) .str))) (.sl false (.int .i64))))))))), .cell (.sl false (.pair (.int .i64) (.pair .bool (.pair (.pair (.int .i64) (.pair (.pair (.int .i64) (.sl false (.int .i64))) (.pair (.sl false (.pair (.int .i64) (.pair (.int .i64) (.pair (.int .i64) .str)))) (.pair (.sl false (.int .i64)) (.pair (.sl false .str) (.pair (.int .i64) (.pair (.int .i64) (.pair (.int .i64) (.pair (.int .i64) (.pair (.int .i64) (.pair (.int .i64) (.pair (.int .i64) (.pair (.int .i64) (.pair (.int .i64) (.sl false (.int .i64)))))))))))))))) (.pair (.int .i64) (.pair (.int .i64) (.pair (.pair (.int .i64) (.sl false (.int .i64))) (.pair (.sl false (.pair (.int .i64) (.pair (.int .i64) (.pair (.int .i64) (.sl false (.pair (.int .i64) (.pair (.int .i64) (.pair (.int .i64) .str)))))))) (.sl false (.pair (.int .i64) (.pair (.pair (.int .i64) (.sl false (.int .i64))) (.pair (.pair (.int .i64) (.pair (.int .i64) (.pair (.int .i64) .str))) (.sl false (.int .i64)))))))))))))), .cell (.int .i64), .cell (.int .i64)]⟩ B_impl_SafeKept_2
def B_impl_SafeKept_3 : TC := (.seq (.reg none [.p (.bin 14 false .lss (.t 13) (.t 12)) .unit])
 (.seq (.cond (.t 14) .skip (.exit 0))
 (.seq (.block 1 (.seq (.reg none [.p (.mv 15 (.t 13)) .unit,
  .p (.iadr 16 24 (.t 11) (.t 13)) .unit,
  .p (.load 17 (.t 16) 24 true) .unit,
  .p (.alloc 4 [(.lit (.int .i64 0)), (.lit (.bool false)), (.lit (.int .i64 0)), (.lit (.int .i64 0)), (.sl true 1 []), (.sl true 4 []), (.sl true 1 []), (.sl true 1 []), (.lit (.int .i64 0)), (.lit (.int .i64 0)), (.lit (.int .i64 0)), (.lit (.int .i64 0)), (.lit (.int .i64 0)), (.lit (.int .i64 0)), (.lit (.int .i64 0)), (.lit (.int .i64 0)), (.lit (.int .i64 0)), (.sl true 1 []), (.lit (.int .i64 0)), (.lit (.int .i64 0)), (.lit (.int .i64 0)), (.sl true 1 []), (.sl true 4 []), (.sl true 8 [])]) .unit,
  .p (.mv 3 (.t 15)) .unit,
  .p (.store (.t 4) (.t 17) 24) .unit])
 (.seq (.reg none [.p (.fadr 18 (.t 4) 23) .unit,
  .p (.load 19 (.t 18) 1 false) .unit,
  .p (.lenB 20 (.t 19)) .unit,
  .p (.mv 21 (.c (.int .i64 0))) .unit])
 (.jl 2 ⟨[(1, false), (3, false), (4, false), (11, false), (12, false), (13, false), (19, false), (20, false), (21, false)], [.box (.pair (.sl false (.pair (.int .i64) (.sl false (.int .i64)))) (.pair (.sl false (.pair (.int .i64) (.pair .bool (.pair (.pair (.int .i64) (.pair (.pair (.int .i64) (.sl false (.int .i64))) (.pair (.sl false (.pair (.int .i64) (.pair (.int .i64) (.pair (.int .i64) .str)))) (.pair (.sl false (.int .i64)) (.pair (.sl false .str) (.pair (.int .i64) (.pair (.int .i64) (.pair (.int .i64) (.pair (.int .i64) (.pair (.int .i64) (.pair (.int .i64) (.pair (.int .i64) (.pair (.int .i64) (.pair (.int .i64) (.sl false (.int .i64)))))))))))))))) (.pair (.int .i64) (.pair (.int .i64) (.pair (.pair (.int .i64) (.sl false (.int .i64))) (.pair (.sl false (.pair (.int .i64) (.pair (.int .i64) (.pair (.int .i64) (.sl false (.pair (.int .i64) (.pair (.int .i64) (.pair (.int .i64) .str)))))))) (.sl false (.pair (.int .i64) (.pair (.pair (.int .i64) (.sl false (.int .i64))) (.pair (.pair (.int .i64) (.pair (.int .i64) (.pair (.int .i64) .str))) (.sl false (.int .i64)))))))))))))) (.pair (.sl false (.pair (.int .i64) (.pair (.int .i64) (.pair (.int .i64) (.pair (.pair (.int .i64) (.pair (.int .i64) (.pair (.int .i64) .str))) (.pair (.pair (.int .i64) (.pair (.int .i64) (.pair (.int .i64) (.pair (.int .i64) (.pair (.int .i64) (.sl false (.int .i64))))))) (.pair (.int .i64) (.pair (.int .i64) (.pair (.int .i64) (.sl false (.pair (.int .i64) (.pair (.int .i64) (.pair (.int .i64) .str))))))))))))) (.sl false (.pair (.int .i64) (.pair (.pair (.int .i64) (.sl false (.int .i64))) (.pair (.pair (.int .i64) (.pair (.int .i64) (.pair (.int .i64) .str))) (.sl false (.int .i64))))))))), .cell (.int .i64), .box (.pair (.int .i64) (.pair .bool (.pair (.pair (.int .i64) (.pair (.pair (.int .i64) (.sl false (.int .i64))) (.pair (.sl false (.pair (.int .i64) (.pair (.int .i64) (.pair (.int .i64) .str)))) (.pair (.sl false (.int .i64)) (.pair (.sl false .str) (.pair (.int .i64) (.pair (.int .i64) (.pair (.int .i64) (.pair (.int .i64) (.pair (.int .i64) (.pair (.int .i64) (.pair (.int .i64) (.pair (.int .i64) (.pair (.int .i64) (.sl false (.int .i64)))))))))))))))) (.pair (.int .i64) (.pair (.int .i64) (.pair (.pair (.int .i64) (.sl false (.int .i64))) (.pair (.sl false (.pair (.int .i64) (.pair (.int .i64) (.pair (.int .i64) (.sl false (.pair (.int .i64) (.pair (.int .i64) (.pair (.int .i64) .str)))))))) (.sl false (.pair (.int .i64) (.pair (.pair (.int .i64) (.sl false (.int .i64))) (.pair (.pair (.int .i64) (.pair (.int .i64) (.pair (.int .i64) .str))) (.sl false (.int .i64))))))))))))), .cell (.sl false (.pair (.int .i64) (.pair .bool (.pair (.pair (.int .i64) (.pair (.pair (.int .i64) (.sl false (.int .i64))) (.pair (.sl false (.pair (.int .i64) (.pair (.int .i64) (.pair (.int .i64) .str)))) (.pair (.sl false (.int .i64)) (.pair (.sl false .str) (.pair (.int .i64) (.pair (.int .i64) (.pair (.int .i64) (.pair (.int .i64) (.pair (.int .i64) (.pair (.int .i64) (.pair (.int .i64) (.pair (.int .i64) (.pair (.int .i64) (.sl false (.int .i64)))))))))))))))) (.pair (.int .i64) (.pair (.int .i64) (.pair (.pair (.int .i64) (.sl false (.int .i64))) (.pair (.sl false (.pair (.int .i64) (.pair (.int .i64) (.pair (.int .i64) (.sl false (.pair (.int .i64) (.pair (.int .i64) (.pair (.int .i64) .str)))))))) (.sl false (.pair (.int .i64) (.pair (.pair (.int .i64) (.sl false (.int .i64))) (.pair (.pair (.int .i64) (.pair (.int .i64) (.pair (.int .i64) .str))) (.sl false (.int .i64)))))))))))))), .cell (.int .i64), .cell (.int .i64), .cell (.sl false (.pair (.int .i64) (.pair (.pair (.int .i64) (.sl false (.int .i64))) (.pair (.pair (.int .i64) (.pair (.int .i64) (.pair (.int .i64) .str))) (.sl false (.int .i64)))))), .cell (.int .i64), .cell (.int .i64)]⟩ ⟨[(1, false), (11, false), (12, false), (13, false)], [.box (.pair (.sl false (.pair (.int .i64) (.sl false (.int .i64)))) (.pair (.sl false (.pair (.int .i64) (.pair .bool (.pair (.pair (.int .i64) (.pair (.pair (.int .i64) (.sl false (.int .i64))) (.pair (.sl false (.pair (.int .i64) (.pair (.int .i64) (.pair (.int .i64) .str)))) (.pair (.sl false (.int .i64)) (.pair (.sl false .str) (.pair (.int .i64) (.pair (.int .i64) (.pair (.int .i64) (.pair (.int .i64) (.pair (.int .i64) (.pair (.int .i64) (.pair (.int .i64) (.pair (.int .i64) (.pair (.int .i64) (.sl false (.int .i64)))))))))))))))) (.pair (.int .i64) (.pair (.int .i64) (.pair (.pair (.int .i64) (.sl false (.int .i64))) (.pair (.sl false (.pair (.int .i64) (.pair (.int .i64) (.pair (.int .i64) (.sl false (.pair (.int .i64) (.pair (.int .i64) (.pair (.int .i64) .str)))))))) (.sl false (.pair (.int .i64) (.pair (.pair (.int .i64) (.sl false (.int .i64))) (.pair (.pair (.int .i64) (.pair (.int .i64) (.pair (.int .i64) .str))) (.sl false (.int .i64)))))))))))))) (.pair (.sl false (.pair (.int .i64) (.pair (.int .i64) (.pair (.int .i64) (.pair (.pair (.int .i64) (.pair (.int .i64) (.pair (.int .i64) .str))) (.pair (.pair (.int .i64) (.pair (.int .i64) (.pair (.int .i64) (.pair (.int .i64) (.pair (.int .i64) (.sl false (.int .i64))))))) (.pair (.int .i64) (.pair (.int .i64) (.pair (.int .i64) (.sl false (.pair (.int .i64) (.pair (.int .i64) (.pair (.int .i64) .str))))))))))))) (.sl false (.pair (.int .i64) (.pair (.pair (.int .i64) (.sl false (.int .i64))) (.pair (.pair (.int .i64) (.pair (.int .i64) (.pair (.int .i64) .str))) (.sl false (.int .i64))))))))), .cell (.sl false (.pair (.int .i64) (.pair .bool (.pair (.pair (.int .i64) (.pair (.pair (.int .i64) (.sl false (.int .i64))) (.pair (.sl false (.pair (.int .i64) (.pair (.int .i64) (.pair (.int .i64) .str)))) (.pair (.sl false (.int .i64)) (.pair (.sl false .str) (.pair (.int .i64) (.pair (.int .i64) (.pair (.int .i64) (.pair (.int .i64) (.pair (.int .i64) (.pair (.int .i64) (.pair (.int .i64) (.pair (.int .i64) (.pair (.int .i64) (.sl false (.int .i64)))))))))))))))) (.pair (.int .i64) (.pair (.int .i64) (.pair (.pair (.int .i64) (.sl false (.int .i64))) (.pair (.sl false (.pair (.int .i64) (.pair (.int .i64) (.pair (.int .i64) (.sl false (.pair (.int .i64) (.pair (.int .i64) (.pair (.int .i64) .str)))))))) (.sl false (.pair (.int .i64) (.pair (.pair (.int .i64) (.sl false (.int .i64))) (.pair (.pair (.int .i64) (.pair (.int .i64) (.pair (.int .i64) .str))) (.sl false (.int .i64)))))))))))))), .cell (.int .i64), .cell (.int .i64)]⟩ B_impl_SafeKept_2))))
 (.reg none [.p (.bin 68 false .add (.t 13) (.c (.int .i64 1))) .unit,
  .p (.mv 13 (.t 68)) .unit]))))
noncomputable def L_impl_SafeKept_3 : Nat → (List (Int × List (Int)) × List (Int × Bool × (Int × (Int × List (Int)) × List (Int × Int × Int × List UInt8) × List (Int) × List (List UInt8) × Int × Int × Int × Int × Int × Int × Int × Int × Int × List (Int)) × Int × Int × (Int × List (Int)) × List (Int × Int × Int × List (Int × Int × Int × List UInt8)) × List (Int × (Int × List (Int)) × (Int × Int × Int × List UInt8) × List (Int))) × List (Int × Int × Int × (Int × Int × Int × List UInt8) × (Int × Int × Int × Int × Int × List (Int)) × Int × Int × Int × List (Int × Int × Int × List UInt8)) × List (Int × (Int × List (Int)) × (Int × Int × Int × List UInt8) × List (Int))) × (List (Int × Bool × (Int × (Int × List (Int)) × List (Int × Int × Int × List UInt8) × List (Int) × List (List UInt8) × Int × Int × Int × Int × Int × Int × Int × Int × Int × List (Int)) × Int × Int × (Int × List (Int)) × List (Int × Int × Int × List (Int × Int × Int × List UInt8)) × List (Int × (Int × List (Int)) × (Int × Int × Int × List UInt8) × List (Int)))) × (Int) × Int → Option ((Unit) ⊕ (Bool)) := evL [fn_impl_partOf, fn_impl_keptBy] (finT [.t 2] [] [.cell .bool]) 0 ⟨[(1, false), (11, false), (12, false), (13, false)], [.box (.pair (.sl false (.pair (.int .i64) (.sl false (.int .i64)))) (.pair (.sl false (.pair (.int .i64) (.pair .bool (.pair (.pair (.int .i64) (.pair (.pair (.int .i64) (.sl false (.int .i64))) (.pair (.sl false (.pair (.int .i64) (.pair (.int .i64) (.pair (.int .i64) .str)))) (.pair (.sl false (.int .i64)) (.pair (.sl false .str) (.pair (.int .i64) (.pair (.int .i64) (.pair (.int .i64) (.pair (.int .i64) (.pair (.int .i64) (.pair (.int .i64) (.pair (.int .i64) (.pair (.int .i64) (.pair (.int .i64) (.sl false (.int .i64)))))))))))))))) (.pair (.int .i64) (.pair (.int .i64) (.pair (.pair (.int .i64) (.sl false (.int .i64))) (.pair (.sl false (.pair (.int .i64) (.pair (.int .i64) (.pair (.int .i64) (.sl false (.pair (.int .i64) (.pair (.int .i64) (.pair (.int .i64) .str)))))))) (.sl false (.pair (.int .i64) (.pair (.pair (.int .i64) (.sl false (.int .i64))) (.pair (.pair (.int .i64) (.pair (.int .i64) (.pair (.int .i64) .str))) (.sl false (.int .i64)))))))))))))) (.pair (.sl false (.pair (.int .i64) (.pair (.int .i64) (.pair (.int .i64) (.pair (.pair (.int .i64) (.pair (.int .i64) (.pair (.int .i64) .str))) (.pair (.pair (.int .i64) (.pair (.int .i64) (.pair (.int .i64) (.pair (.int .i64) (.pair (.int .i64) (.sl false (.int .i64))))))) (.pair (.int .i64) (.pair (.int .i64) (.pair (.int .i64) (.sl false (.pair (.int .i64) (.pair (.int .i64) (.pair (.int .i64) .str))))))))))))) (.sl false (.pair (.int .i64) (.pair (.pair (.int .i64) (.sl false (.int .i64))) (.pair (.pair (.int .i64) (.pair (.int .i64) (.pair (.int .i64) .str))) (.sl false (.int .i64))))))))), .cell (.sl false (.pair (.int .i64) (.pair .bool (.pair (.pair (.int .i64) (.pair (.pair (.int .i64) (.sl false (.int .i64))) (.pair (.sl false (.pair (.int .i64) (.pair (.int .i64) (.pair (.int .i64) .str)))) (.pair (.sl false (.int .i64)) (.pair (.sl false .str) (.pair (.int .i64) (.pair (.int .i64) (.pair (.int .i64) (.pair (.int .i64) (.pair (.int .i64) (.pair (.int .i64) (.pair (.int .i64) (.pair (.int .i64) (.pair (.int .i64) (.sl false (.int .i64)))))))))))))))) (.pair (.int .i64) (.pair (.int .i64) (.pair (.pair (.int .i64) (.sl false (.int .i64))) (.pair (.sl false (.pair (.int .i64) (.pair (.int .i64) (.pair (.int .i64) (.sl false (.pair (.int .i64) (.pair (.int .i64) (.pair (.int .i64) .str)))))))) (.sl false (.pair (.int .i64) (.pair (.pair (.int .i64) (.sl false (.int .i64))) (.pair (.pair (.int .i64) (.pair (.int .i64) (.pair (.int .i64) .str))) (.sl false (.int .i64)))))))))))))), .cell (.int .i64), .cell (.int .i64)]⟩ ⟨[], []⟩ B_impl_SafeKept_3
def F_impl_SafeKept : TF := ⟨(.seq (.reg none [.p (.box 1 (.t 0)) .unit,
  .p (.mv 2 (.c (.bool false))) .unit])
 (.seq (.seq (.reg none [.p (.fadr 10 (.t 1) 1) .unit,
  .p (.load 11 (.t 10) 1 false) .unit,
  .p (.lenB 12 (.t 11)) .unit,
  .p (.mv 13 (.c (.int .i64 0))) .unit])
 (.jl 0 ⟨[(1, false), (11, false), (12, false), (13, false)], [.box (.pair (.sl false (.pair (.int .i64) (.sl false (.int .i64)))) (.pair (.sl false (.pair (.int .i64) (.pair .bool (.pair (.pair (.int .i64) (.pair (.pair (.int .i64) (.sl false (.int .i64))) (.pair (.sl false (.pair (.int .i64) (.pair (.int .i64) (.pair (.int .i64) .str)))) (.pair (.sl false (.int .i64)) (.pair (.sl false .str) (.pair (.int .i64) (.pair (.int .i64) (.pair (.int .i64) (.pair (.int .i64) (.pair (.int .i64) (.pair (.int .i64) (.pair (.int .i64) (.pair (.int .i64) (.pair (.int .i64) (.sl false (.int .i64)))))))))))))))) (.pair (.int .i64) (.pair (.int .i64) (.pair (.pair (.int .i64) (.sl false (.int .i64))) (.pair (.sl false (.pair (.int .i64) (.pair (.int .i64) (.pair (.int .i64) (.sl false (.pair (.int .i64) (.pair (.int .i64) (.pair (.int .i64) .str)))))))) (.sl false (.pair (.int .i64) (.pair (.pair (.int .i64) (.sl false (.int .i64))) (.pair (.pair (.int .i64) (.pair (.int .i64) (.pair (.int .i64) .str))) (.sl false (.int .i64)))))))))))))) (.pair (.sl false (.pair (.int .i64) (.pair (.int .i64) (.pair (.int .i64) (.pair (.pair (.int .i64) (.pair (.int .i64) (.pair (.int .i64) .str))) (.pair (.pair (.int .i64) (.pair (.int .i64) (.pair (.int .i64) (.pair (.int .i64) (.pair (.int .i64) (.sl false (.int .i64))))))) (.pair (.int .i64) (.pair (.int .i64) (.pair (.int .i64) (.sl false (.pair (.int .i64) (.pair (.int .i64) (.pair (.int .i64) .str))))))))))))) (.sl false (.pair (.int .i64) (.pair (.pair (.int .i64) (.sl false (.int .i64))) (.pair (.pair (.int .i64) (.pair (.int .i64) (.pair (.int .i64) .str))) (.sl false (.int .i64))))))))), .cell (.sl false (.pair (.int .i64) (.pair .bool (.pair (.pair (.int .i64) (.pair (.pair (.int .i64) (.sl false (.int .i64))) (.pair (.sl false (.pair (.int .i64) (.pair (.int .i64) (.pair (.int .i64) .str)))) (.pair (.sl false (.int .i64)) (.pair (.sl false .str) (.pair (.int .i64) (.pair (.int .i64) (.pair (.int .i64) (.pair (.int .i64) (.pair (.int .i64) (.pair (.int .i64) (.pair (.int .i64) (.pair (.int .i64) (.pair (.int .i64) (.sl false (.int .i64)))))))))))))))) (.pair (.int .i64) (.pair (.int .i64) (.pair (.pair (.int .i64) (.sl false (.int .i64))) (.pair (.sl false (.pair (.int .i64) (.pair (.int .i64) (.pair (.int .i64) (.sl false (.pair (.int .i64) (.pair (.int .i64) (.pair (.int .i64) .str)))))))) (.sl false (.pair (.int .i64) (.pair (.pair (.int .i64) (.sl false (.int .i64))) (.pair (.pair (.int .i64) (.pair (.int .i64) (.pair (.int .i64) .str))) (.sl false (.int .i64)))))))))))))), .cell (.int .i64), .cell (.int .i64)]⟩ ⟨[], []⟩ B_impl_SafeKept_3))
 (.seq (.reg none [.p (.mv 2 (.c (.bool true))) .unit])
 .ret))),
 69, 1, [.t 2]⟩
theorem m_impl_SafeKept : mH Try.prog 11 [] = some (F_impl_SafeKept.code.x, F_impl_SafeKept.N, F_impl_SafeKept.np, F_impl_SafeKept.res) := by kernel_rfl
noncomputable def T_impl_SafeKept : List (Int × List (Int)) × List (Int × Bool × (Int × (Int × List (Int)) × List (Int × Int × Int × List UInt8) × List (Int) × List (List UInt8) × Int × Int × Int × Int × Int × Int × Int × Int × Int × List (Int)) × Int × Int × (Int × List (Int)) × List (Int × Int × Int × List (Int × Int × Int × List UInt8)) × List (Int × (Int × List (Int)) × (Int × Int × Int × List UInt8) × List (Int))) × List (Int × Int × Int × (Int × Int × Int × List UInt8) × (Int × Int × Int × Int × Int × List (Int)) × Int × Int × Int × List (Int × Int × Int × List UInt8)) × List (Int × (Int × List (Int)) × (Int × Int × Int × List UInt8) × List (Int)) → Option (Bool) := evF [fn_impl_partOf, fn_impl_keptBy] F_impl_SafeKept [.agg (.pair (.sl false (.pair (.int .i64) (.sl false (.int .i64)))) (.pair (.sl false (.pair (.int .i64) (.pair .bool (.pair (.pair (.int .i64) (.pair (.pair (.int .i64) (.sl false (.int .i64))) (.pair (.sl false (.pair (.int .i64) (.pair (.int .i64) (.pair (.int .i64) .str)))) (.pair (.sl false (.int .i64)) (.pair (.sl false .str) (.pair (.int .i64) (.pair (.int .i64) (.pair (.int .i64) (.pair (.int .i64) (.pair (.int .i64) (.pair (.int .i64) (.pair (.int .i64) (.pair (.int .i64) (.pair (.int .i64) (.sl false (.int .i64)))))))))))))))) (.pair (.int .i64) (.pair (.int .i64) (.pair (.pair (.int .i64) (.sl false (.int .i64))) (.pair (.sl false (.pair (.int .i64) (.pair (.int .i64) (.pair (.int .i64) (.sl false (.pair (.int .i64) (.pair (.int .i64) (.pair (.int .i64) .str)))))))) (.sl false (.pair (.int .i64) (.pair (.pair (.int .i64) (.sl false (.int .i64))) (.pair (.pair (.int .i64) (.pair (.int .i64) (.pair (.int .i64) .str))) (.sl false (.int .i64)))))))))))))) (.pair (.sl false (.pair (.int .i64) (.pair (.int .i64) (.pair (.int .i64) (.pair (.pair (.int .i64) (.pair (.int .i64) (.pair (.int .i64) .str))) (.pair (.pair (.int .i64) (.pair (.int .i64) (.pair (.int .i64) (.pair (.int .i64) (.pair (.int .i64) (.sl false (.int .i64))))))) (.pair (.int .i64) (.pair (.int .i64) (.pair (.int .i64) (.sl false (.pair (.int .i64) (.pair (.int .i64) (.pair (.int .i64) .str))))))))))))) (.sl false (.pair (.int .i64) (.pair (.pair (.int .i64) (.sl false (.int .i64))) (.pair (.pair (.int .i64) (.pair (.int .i64) (.pair (.int .i64) .str))) (.sl false (.int .i64)))))))))] [] [.cell .bool] []
noncomputable def fn_impl_SafeKept : TFn := ⟨11, [.agg (.pair (.sl false (.pair (.int .i64) (.sl false (.int .i64)))) (.pair (.sl false (.pair (.int .i64) (.pair .bool (.pair (.pair (.int .i64) (.pair (.pair (.int .i64) (.sl false (.int .i64))) (.pair (.sl false (.pair (.int .i64) (.pair (.int .i64) (.pair (.int .i64) .str)))) (.pair (.sl false (.int .i64)) (.pair (.sl false .str) (.pair (.int .i64) (.pair (.int .i64) (.pair (.int .i64) (.pair (.int .i64) (.pair (.int .i64) (.pair (.int .i64) (.pair (.int .i64) (.pair (.int .i64) (.pair (.int .i64) (.sl false (.int .i64)))))))))))))))) (.pair (.int .i64) (.pair (.int .i64) (.pair (.pair (.int .i64) (.sl false (.int .i64))) (.pair (.sl false (.pair (.int .i64) (.pair (.int .i64) (.pair (.int .i64) (.sl false (.pair (.int .i64) (.pair (.int .i64) (.pair (.int .i64) .str)))))))) (.sl false (.pair (.int .i64) (.pair (.pair (.int .i64) (.sl false (.int .i64))) (.pair (.pair (.int .i64) (.pair (.int .i64) (.pair (.int .i64) .str))) (.sl false (.int .i64)))))))))))))) (.pair (.sl false (.pair (.int .i64) (.pair (.int .i64) (.pair (.int .i64) (.pair (.pair (.int .i64) (.pair (.int .i64) (.pair (.int .i64) .str))) (.pair (.pair (.int .i64) (.pair (.int .i64) (.pair (.int .i64) (.pair (.int .i64) (.pair (.int .i64) (.sl false (.int .i64))))))) (.pair (.int .i64) (.pair (.int .i64) (.pair (.int .i64) (.sl false (.pair (.int .i64) (.pair (.int .i64) (.pair (.int .i64) .str))))))))))))) (.sl false (.pair (.int .i64) (.pair (.pair (.int .i64) (.sl false (.int .i64))) (.pair (.pair (.int .i64) (.pair (.int .i64) (.pair (.int .i64) .str))) (.sl false (.int .i64)))))))))], [], [.cell .bool], [], T_impl_SafeKept⟩
theorem ok_impl_SafeKept : FnOk Try.prog fn_impl_SafeKept := evF_ok mixed (allOk_cons ok_impl_partOf (allOk_cons ok_impl_keptBy allOk_nil)) m_impl_SafeKept (by decide)
def B_laws_eqIntS_1 : TC := (.seq (.seq (.reg none [.p (.mv 11 (.t 5)) .unit,
  .p (.mv 12 (.t 0)) .unit,
  .p (.lenB 13 (.t 12)) .unit,
  .p (.bin 14 false .lss (.t 11) (.t 13)) .unit])
 (.cond (.t 14) .skip (.exit 0)))
 (.seq (.block 1 (.seq (.reg (some [[], [], [0, 1], [2], [], [], [4, 5], [6], [3, 7]]) [.p (.mv 17 (.t 0)) .unit,
  .p (.mv 18 (.t 5)) .unit,
  .p (.iadr 19 1 (.t 17) (.t 18)) .unit,
  .p (.load 20 (.t 19) 1 false) .unit,
  .p (.mv 21 (.t 1)) .unit,
  .p (.mv 22 (.t 5)) .unit,
  .p (.iadr 23 1 (.t 21) (.t 22)) .unit,
  .p (.load 24 (.t 23) 1 false) .unit,
  .p (.bin 25 false .neq (.t 20) (.t 24)) .unit])
 (.cond (.t 25) (.seq (.reg none [.p (.mv 4 (.c (.bool false))) .unit])
 .ret) .skip)))
 (.reg none [.p (.mv 15 (.t 5)) .unit,
  .p (.bin 16 false .add (.t 15) (.c (.int .i64 1))) .unit,
  .p (.mv 5 (.t 16)) .unit])))
noncomputable def L_laws_eqIntS_1 : Nat → (List (Int)) × (List (Int)) × Int → Option ((Unit) ⊕ (Bool)) := evL [] (finT [.t 4] [] [.cell .bool]) 0 ⟨[(0, true), (1, true), (5, false)], [.cell (.sl false (.int .i64)), .cell (.sl false (.int .i64)), .cell (.int .i64)]⟩ ⟨[], []⟩ B_laws_eqIntS_1
def F_laws_eqIntS : TF := ⟨(.seq (.reg none [.p (.mv 4 (.c (.bool false))) .unit])
 (.seq (.seq (.reg none [.p (.mv 6 (.t 0)) .unit,
  .p (.lenB 7 (.t 6)) .unit,
  .p (.mv 8 (.t 1)) .unit,
  .p (.lenB 9 (.t 8)) .unit,
  .p (.bin 10 false .neq (.t 7) (.t 9)) .unit])
 (.cond (.t 10) (.seq (.reg none [.p (.mv 4 (.c (.bool false))) .unit])
 .ret) .skip))
 (.seq (.seq (.reg none [.p (.mv 5 (.c (.int .i64 0))) .unit])
 (.jl 0 ⟨[(0, true), (1, true), (5, false)], [.cell (.sl false (.int .i64)), .cell (.sl false (.int .i64)), .cell (.int .i64)]⟩ ⟨[], []⟩ B_laws_eqIntS_1))
 (.seq (.reg none [.p (.mv 4 (.c (.bool true))) .unit])
 .ret)))),
 26, 2, [.t 4]⟩
theorem m_laws_eqIntS : mH Try.prog 58 [] = some (F_laws_eqIntS.code.x, F_laws_eqIntS.N, F_laws_eqIntS.np, F_laws_eqIntS.res) := by kernel_rfl
noncomputable def T_laws_eqIntS : (List (Int)) × List (Int) → Option (Bool) := evF [] F_laws_eqIntS [.cell (.sl false (.int .i64)), .cell (.sl false (.int .i64))] [] [.cell .bool] []
noncomputable def fn_laws_eqIntS : TFn := ⟨58, [.cell (.sl false (.int .i64)), .cell (.sl false (.int .i64))], [], [.cell .bool], [], T_laws_eqIntS⟩
theorem ok_laws_eqIntS : FnOk Try.prog fn_laws_eqIntS := evF_ok mixed allOk_nil m_laws_eqIntS (by decide)
def F_laws_eqRing : TF := ⟨(.seq (.reg none [.p (.box 2 (.t 0)) .unit,
  .p (.box 3 (.t 1)) .unit,
  .p (.mv 4 (.c (.bool false))) .unit])
 (.seq (.seq (.reg none [.p (.fadr 5 (.t 2) 0) .unit,
  .p (.load 6 (.t 5) 1 false) .unit,
  .p (.fadr 7 (.t 3) 0) .unit,
  .p (.load 8 (.t 7) 1 false) .unit,
  .p (.bin 9 false .neq (.t 6) (.t 8)) .unit])
 (.cond (.t 9) (.seq (.reg none [.p (.mv 4 (.c (.bool false))) .unit])
 .ret) .skip))
 (.seq (.seq (.reg none [.p (.fadr 10 (.t 2) 1) .unit,
  .p (.load 11 (.t 10) 1 false) .unit,
  .p (.fadr 12 (.t 3) 1) .unit,
  .p (.load 13 (.t 12) 1 false) .unit,
  .p (.callB 14 n_laws_eqIntS [((.t 11), 0), ((.t 13), 0)]) .unit,
  .p (.un 15 .not (.t 14)) .unit])
 (.cond (.t 15) (.seq (.reg none [.p (.mv 4 (.c (.bool false))) .unit])
 .ret) .skip))
 (.seq (.reg none [.p (.mv 4 (.c (.bool true))) .unit])
 .ret)))),
 16, 2, [.t 4]⟩
theorem m_laws_eqRing : mH Try.prog 38 [] = some (F_laws_eqRing.code.x, F_laws_eqRing.N, F_laws_eqRing.np, F_laws_eqRing.res) := by kernel_rfl
noncomputable def T_laws_eqRing : (Int × List (Int)) × Int × List (Int) → Option (Bool) := evF [fn_laws_eqIntS] F_laws_eqRing [.agg (.pair (.int .i64) (.sl false (.int .i64))), .agg (.pair (.int .i64) (.sl false (.int .i64)))] [] [.cell .bool] []
noncomputable def fn_laws_eqRing : TFn := ⟨38, [.agg (.pair (.int .i64) (.sl false (.int .i64))), .agg (.pair (.int .i64) (.sl false (.int .i64)))], [], [.cell .bool], [], T_laws_eqRing⟩
theorem ok_laws_eqRing : FnOk Try.prog fn_laws_eqRing := evF_ok mixed (allOk_cons ok_laws_eqIntS allOk_nil) m_laws_eqRing (by decide)
def B_laws_eqRingS_1 : TC := (.seq (.seq (.reg none [.p (.mv 11 (.t 5)) .unit,
  .p (.mv 12 (.t 0)) .unit,
  .p (.lenB 13 (.t 12)) .unit,
  .p (.bin 14 false .lss (.t 11) (.t 13)) .unit])
 (.cond (.t 14) .skip (.exit 0)))
 (.seq (.block 1 (.seq (.reg (some [[], [], [0, 1], [2], [], [], [4, 5], [6], [3, 7], [8]]) [.p (.mv 17 (.t 0)) .unit,
  .p (.mv 18 (.t 5)) .unit,
  .p (.iadr 19 2 (.t 17) (.t 18)) .unit,
  .p (.load 20 (.t 19) 2 true) .unit,
  .p (.mv 21 (.t 1)) .unit,
  .p (.mv 22 (.t 5)) .unit,
  .p (.iadr 23 2 (.t 21) (.t 22)) .unit,
  .p (.load 24 (.t 23) 2 true) .unit,
  .p (.callB 25 n_laws_eqRing [((.t 20), 0), ((.t 24), 0)]) .unit,
  .p (.un 26 .not (.t 25)) .unit])
 (.cond (.t 26) (.seq (.reg none [.p (.mv 4 (.c (.bool false))) .unit])
 .ret) .skip)))
 (.reg none [.p (.mv 15 (.t 5)) .unit,
  .p (.bin 16 false .add (.t 15) (.c (.int .i64 1))) .unit,
  .p (.mv 5 (.t 16)) .unit])))
noncomputable def L_laws_eqRingS_1 : Nat → (List (Int × List (Int))) × (List (Int × List (Int))) × Int → Option ((Unit) ⊕ (Bool)) := evL [fn_laws_eqRing] (finT [.t 4] [] [.cell .bool]) 0 ⟨[(0, true), (1, true), (5, false)], [.cell (.sl false (.pair (.int .i64) (.sl false (.int .i64)))), .cell (.sl false (.pair (.int .i64) (.sl false (.int .i64)))), .cell (.int .i64)]⟩ ⟨[], []⟩ B_laws_eqRingS_1
def F_laws_eqRingS : TF := ⟨(.seq (.reg none [.p (.mv 4 (.c (.bool false))) .unit])
 (.seq (.seq (.reg none [.p (.mv 6 (.t 0)) .unit,
  .p (.lenB 7 (.t 6)) .unit,
  .p (.mv 8 (.t 1)) .unit,
  .p (.lenB 9 (.t 8)) .unit,
  .p (.bin 10 false .neq (.t 7) (.t 9)) .unit])
 (.cond (.t 10) (.seq (.reg none [.p (.mv 4 (.c (.bool false))) .unit])
 .ret) .skip))
 (.seq (.seq (.reg none [.p (.mv 5 (.c (.int .i64 0))) .unit])
 (.jl 0 ⟨[(0, true), (1, true), (5, false)], [.cell (.sl false (.pair (.int .i64) (.sl false (.int .i64)))), .cell (.sl false (.pair (.int .i64) (.sl false (.int .i64)))), .cell (.int .i64)]⟩ ⟨[], []⟩ B_laws_eqRingS_1))
 (.seq (.reg none [.p (.mv 4 (.c (.bool true))) .unit])
 .ret)))),
 27, 2, [.t 4]⟩
theorem m_laws_eqRingS : mH Try.prog 22 [] = some (F_laws_eqRingS.code.x, F_laws_eqRingS.N, F_laws_eqRingS.np, F_laws_eqRingS.res) := by kernel_rfl
noncomputable def T_laws_eqRingS : (List (Int × List (Int))) × List (Int × List (Int)) → Option (Bool) := evF [fn_laws_eqRing] F_laws_eqRingS [.cell (.sl false (.pair (.int .i64) (.sl false (.int .i64)))), .cell (.sl false (.pair (.int .i64) (.sl false (.int .i64))))] [] [.cell .bool] []
noncomputable def fn_laws_eqRingS : TFn := ⟨22, [.cell (.sl false (.pair (.int .i64) (.sl false (.int .i64)))), .cell (.sl false (.pair (.int .i64) (.sl false (.int .i64))))], [], [.cell .bool], [], T_laws_eqRingS⟩
theorem ok_laws_eqRingS : FnOk Try.prog fn_laws_eqRingS := evF_ok mixed (allOk_cons ok_laws_eqRing allOk_nil) m_laws_eqRingS (by decide)
def F_laws_eqItem : TF := ⟨(.seq (.reg none [.p (.box 2 (.t 0)) .unit,
  .p (.box 3 (.t 1)) .unit,
  .p (.mv 4 (.c (.bool false))) .unit])
 (.seq (.seq (.reg none [.p (.fadr 5 (.t 2) 0) .unit,
  .p (.load 6 (.t 5) 1 false) .unit,
  .p (.fadr 7 (.t 3) 0) .unit,
  .p (.load 8 (.t 7) 1 false) .unit,
  .p (.bin 9 false .neq (.t 6) (.t 8)) .unit])
 (.cond (.t 9) (.seq (.reg none [.p (.mv 4 (.c (.bool false))) .unit])
 .ret) .skip))
 (.seq (.seq (.reg none [.p (.fadr 10 (.t 2) 1) .unit,
  .p (.load 11 (.t 10) 1 false) .unit,
  .p (.fadr 12 (.t 3) 1) .unit,
  .p (.load 13 (.t 12) 1 false) .unit,
  .p (.bin 14 false .neq (.t 11) (.t 13)) .unit])
 (.cond (.t 14) (.seq (.reg none [.p (.mv 4 (.c (.bool false))) .unit])
 .ret) .skip))
 (.seq (.seq (.reg none [.p (.fadr 15 (.t 2) 2) .unit,
  .p (.load 16 (.t 15) 1 false) .unit,
  .p (.fadr 17 (.t 3) 2) .unit,
  .p (.load 18 (.t 17) 1 false) .unit,
  .p (.bin 19 false .neq (.t 16) (.t 18)) .unit])
 (.cond (.t 19) (.seq (.reg none [.p (.mv 4 (.c (.bool false))) .unit])
 .ret) .skip))
 (.seq (.seq (.reg none [.p (.fadr 20 (.t 2) 3) .unit,
  .p (.load 21 (.t 20) 1 false) .unit,
  .p (.fadr 22 (.t 3) 3) .unit,
  .p (.load 23 (.t 22) 1 false) .unit,
  .p (.bin 24 false .neq (.t 21) (.t 23)) .unit])
 (.cond (.t 24) (.seq (.reg none [.p (.mv 4 (.c (.bool false))) .unit])
 .ret) .skip))
 (.seq (.reg none [.p (.mv 4 (.c (.bool true))) .unit])
 .ret)))))),
 25, 2, [.t 4]⟩
theorem m_laws_eqItem : mH Try.prog 61 [] = some (F_laws_eqItem.code.x, F_laws_eqItem.N, F_laws_eqItem.np, F_laws_eqItem.res) := by kernel_rfl
noncomputable def T_laws_eqItem : (Int × Int × Int × List UInt8) × Int × Int × Int × List UInt8 → Option (Bool) := evF [] F_laws_eqItem [.agg (.pair (.int .i64) (.pair (.int .i64) (.pair (.int .i64) .str))), .agg (.pair (.int .i64) (.pair (.int .i64) (.pair (.int .i64) .str)))] [] [.cell .bool] []
noncomputable def fn_laws_eqItem : TFn := ⟨61, [.agg (.pair (.int .i64) (.pair (.int .i64) (.pair (.int .i64) .str))), .agg (.pair (.int .i64) (.pair (.int .i64) (.pair (.int .i64) .str)))], [], [.cell .bool], [], T_laws_eqItem⟩
theorem ok_laws_eqItem : FnOk Try.prog fn_laws_eqItem := evF_ok mixed allOk_nil m_laws_eqItem (by decide)
def B_laws_eqItemS_1 : TC := (.seq (.seq (.reg none [.p (.mv 11 (.t 5)) .unit,
  .p (.mv 12 (.t 0)) .unit,
  .p (.lenB 13 (.t 12)) .unit,
  .p (.bin 14 false .lss (.t 11) (.t 13)) .unit])
 (.cond (.t 14) .skip (.exit 0)))
 (.seq (.block 1 (.seq (.reg (some [[], [], [0, 1], [2], [], [], [4, 5], [6], [3, 7], [8]]) [.p (.mv 17 (.t 0)) .unit,
  .p (.mv 18 (.t 5)) .unit,
  .p (.iadr 19 4 (.t 17) (.t 18)) .unit,
  .p (.load 20 (.t 19) 4 true) .unit,
  .p (.mv 21 (.t 1)) .unit,
  .p (.mv 22 (.t 5)) .unit,
  .p (.iadr 23 4 (.t 21) (.t 22)) .unit,
  .p (.load 24 (.t 23) 4 true) .unit,
  .p (.callB 25 n_laws_eqItem [((.t 20), 0), ((.t 24), 0)]) .unit,
  .p (.un 26 .not (.t 25)) .unit])
 (.cond (.t 26) (.seq (.reg none [.p (.mv 4 (.c (.bool false))) .unit])
 .ret) .skip)))
 (.reg none [.p (.mv 15 (.t 5)) .unit,
  .p (.bin 16 false .add (.t 15) (.c (.int .i64 1))) .unit,
  .p (.mv 5 (.t 16)) .unit])))
noncomputable def L_laws_eqItemS_1 : Nat → (List (Int × Int × Int × List UInt8)) × (List (Int × Int × Int × List UInt8)) × Int → Option ((Unit) ⊕ (Bool)) := evL [fn_laws_eqItem] (finT [.t 4] [] [.cell .bool]) 0 ⟨[(0, true), (1, true), (5, false)], [.cell (.sl false (.pair (.int .i64) (.pair (.int .i64) (.pair (.int .i64) .str)))), .cell (.sl false (.pair (.int .i64) (.pair (.int .i64) (.pair (.int .i64) .str)))), .cell (.int .i64)]⟩ ⟨[], []⟩ B_laws_eqItemS_1
def F_laws_eqItemS : TF := ⟨(.seq (.reg none [.p (.mv 4 (.c (.bool false))) .unit])
 (.seq (.seq (.reg none [.p (.mv 6 (.t 0)) .unit,
  .p (.lenB 7 (.t 6)) .unit,
  .p (.mv 8 (.t 1)) .unit,
  .p (.lenB 9 (.t 8)) .unit,
  .p (.bin 10 false .neq (.t 7) (.t 9)) .unit])
 (.cond (.t 10) (.seq (.reg none [.p (.mv 4 (.c (.bool false))) .unit])
 .ret) .skip))
 (.seq (.seq (.reg none [.p (.mv 5 (.c (.int .i64 0))) .unit])
 (.jl 0 ⟨[(0, true), (1, true), (5, false)], [.cell (.sl false (.pair (.int .i64) (.pair (.int .i64) (.pair (.int .i64) .str)))), .cell (.sl false (.pair (.int .i64) (.pair (.int .i64) (.pair (.int .i64) .str)))), .cell (.int .i64)]⟩ ⟨[], []⟩ B_laws_eqItemS_1))
 (.seq (.reg none [.p (.mv 4 (.c (.bool true))) .unit])
 .ret)))),
 27, 2, [.t 4]⟩
theorem m_laws_eqItemS : mH Try.prog 71 [] = some (F_laws_eqItemS.code.x, F_laws_eqItemS.N, F_laws_eqItemS.np, F_laws_eqItemS.res) := by kernel_rfl
noncomputable def T_laws_eqItemS : (List (Int × Int × Int × List UInt8)) × List (Int × Int × Int × List UInt8) → Option (Bool) := evF [fn_laws_eqItem] F_laws_eqItemS [.cell (.sl false (.pair (.int .i64) (.pair (.int .i64) (.pair (.int .i64) .str)))), .cell (.sl false (.pair (.int .i64) (.pair (.int .i64) (.pair (.int .i64) .str))))] [] [.cell .bool] []
noncomputable def fn_laws_eqItemS : TFn := ⟨71, [.cell (.sl false (.pair (.int .i64) (.pair (.int .i64) (.pair (.int .i64) .str)))), .cell (.sl false (.pair (.int .i64) (.pair (.int .i64) (.pair (.int .i64) .str))))], [], [.cell .bool], [], T_laws_eqItemS⟩
theorem ok_laws_eqItemS : FnOk Try.prog fn_laws_eqItemS := evF_ok mixed (allOk_cons ok_laws_eqItem allOk_nil) m_laws_eqItemS (by decide)
def B_laws_eqStringS_1 : TC := (.seq (.seq (.reg none [.p (.mv 11 (.t 5)) .unit,
  .p (.mv 12 (.t 0)) .unit,
  .p (.lenB 13 (.t 12)) .unit,
  .p (.bin 14 false .lss (.t 11) (.t 13)) .unit])
 (.cond (.t 14) .skip (.exit 0)))
 (.seq (.block 1 (.seq (.reg (some [[], [], [0, 1], [2], [], [], [4, 5], [6], [3, 7]]) [.p (.mv 17 (.t 0)) .unit,
  .p (.mv 18 (.t 5)) .unit,
  .p (.iadr 19 1 (.t 17) (.t 18)) .unit,
  .p (.load 20 (.t 19) 1 false) .unit,
  .p (.mv 21 (.t 1)) .unit,
  .p (.mv 22 (.t 5)) .unit,
  .p (.iadr 23 1 (.t 21) (.t 22)) .unit,
  .p (.load 24 (.t 23) 1 false) .unit,
  .p (.bin 25 false .neq (.t 20) (.t 24)) .unit])
 (.cond (.t 25) (.seq (.reg none [.p (.mv 4 (.c (.bool false))) .unit])
 .ret) .skip)))
 (.reg none [.p (.mv 15 (.t 5)) .unit,
  .p (.bin 16 false .add (.t 15) (.c (.int .i64 1))) .unit,
  .p (.mv 5 (.t 16)) .unit])))
noncomputable def L_laws_eqStringS_1 : Nat → (List (List UInt8)) × (List (List UInt8)) × Int → Option ((Unit) ⊕ (Bool)) := evL [] (finT [.t 4] [] [.cell .bool]) 0 ⟨[(0, true), (1, true), (5, false)], [.cell (.sl false .str), .cell (.sl false .str), .cell (.int .i64)]⟩ ⟨[], []⟩ B_laws_eqStringS_1
def F_laws_eqStringS : TF := ⟨(.seq (.reg none [.p (.mv 4 (.c (.bool false))) .unit])
 (.seq (.seq (.reg none [.p (.mv 6 (.t 0)) .unit,
  .p (.lenB 7 (.t 6)) .unit,
  .p (.mv 8 (.t 1)) .unit,
  .p (.lenB 9 (.t 8)) .unit,
  .p (.bin 10 false .neq (.t 7) (.t 9)) .unit])
 (.cond (.t 10) (.seq (.reg none [.p (.mv 4 (.c (.bool false))) .unit])
 .ret) .skip))
 (.seq (.seq (.reg none [.p (.mv 5 (.c (.int .i64 0))) .unit])
 (.jl 0 ⟨[(0, true), (1, true), (5, false)], [.cell (.sl false .str), .cell (.sl false .str), .cell (.int .i64)]⟩ ⟨[], []⟩ B_laws_eqStringS_1))
 (.seq (.reg none [.p (.mv 4 (.c (.bool true))) .unit])
 .ret)))),
 26, 2, [.t 4]⟩
theorem m_laws_eqStringS : mH Try.prog 72 [] = some (F_laws_eqStringS.code.x, F_laws_eqStringS.N, F_laws_eqStringS.np, F_laws_eqStringS.res) := by kernel_rfl
noncomputable def T_laws_eqStringS : (List (List UInt8)) × List (List UInt8) → Option (Bool) := evF [] F_laws_eqStringS [.cell (.sl false .str), .cell (.sl false .str)] [] [.cell .bool] []
noncomputable def fn_laws_eqStringS : TFn := ⟨72, [.cell (.sl false .str), .cell (.sl false .str)], [], [.cell .bool], [], T_laws_eqStringS⟩
theorem ok_laws_eqStringS : FnOk Try.prog fn_laws_eqStringS := evF_ok mixed allOk_nil m_laws_eqStringS (by decide)
def F_laws_eqToken : TF := ⟨(.seq (.reg none [.p (.box 2 (.t 0)) .unit,
  .p (.box 3 (.t 1)) .unit,
  .p (.mv 4 (.c (.bool false))) .unit])
 (.seq (.seq (.reg none [.p (.fadr 5 (.t 2) 0) .unit,
  .p (.load 6 (.t 5) 1 false) .unit,
  .p (.fadr 7 (.t 3) 0) .unit,
  .p (.load 8 (.t 7) 1 false) .unit,
  .p (.bin 9 false .neq (.t 6) (.t 8)) .unit])
 (.cond (.t 9) (.seq (.reg none [.p (.mv 4 (.c (.bool false))) .unit])
 .ret) .skip))
 (.seq (.seq (.reg none [.p (.fadr 10 (.t 2) 1) .unit,
  .p (.load 11 (.t 10) 1 false) .unit,
  .p (.fadr 12 (.t 3) 1) .unit,
  .p (.load 13 (.t 12) 1 false) .unit,
  .p (.bin 14 false .neq (.t 11) (.t 13)) .unit])
 (.cond (.t 14) (.seq (.reg none [.p (.mv 4 (.c (.bool false))) .unit])
 .ret) .skip))
 (.seq (.seq (.reg none [.p (.fadr 15 (.t 2) 2) .unit,
  .p (.load 16 (.t 15) 1 false) .unit,
  .p (.fadr 17 (.t 3) 2) .unit,
  .p (.load 18 (.t 17) 1 false) .unit,
  .p (.bin 19 false .neq (.t 16) (.t 18)) .unit])
 (.cond (.t 19) (.seq (.reg none [.p (.mv 4 (.c (.bool false))) .unit])
 .ret) .skip))
 (.seq (.seq (.reg none [.p (.fadr 20 (.t 2) 3) .unit,
  .p (.load 21 (.t 20) 1 false) .unit,
  .p (.fadr 22 (.t 3) 3) .unit,
  .p (.load 23 (.t 22) 1 false) .unit,
  .p (.bin 24 false .neq (.t 21) (.t 23)) .unit])
 (.cond (.t 24) (.seq (.reg none [.p (.mv 4 (.c (.bool false))) .unit])
 .ret) .skip))
 (.seq (.seq (.reg none [.p (.fadr 25 (.t 2) 4) .unit,
  .p (.load 26 (.t 25) 1 false) .unit,
  .p (.fadr 27 (.t 3) 4) .unit,
  .p (.load 28 (.t 27) 1 false) .unit,
  .p (.bin 29 false .neq (.t 26) (.t 28)) .unit])
 (.cond (.t 29) (.seq (.reg none [.p (.mv 4 (.c (.bool false))) .unit])
 .ret) .skip))
 (.seq (.seq (.reg none [.p (.fadr 30 (.t 2) 5) .unit,
  .p (.load 31 (.t 30) 1 false) .unit,
  .p (.fadr 32 (.t 3) 5) .unit,
  .p (.load 33 (.t 32) 1 false) .unit,
  .p (.callB 34 n_laws_eqIntS [((.t 31), 0), ((.t 33), 0)]) .unit,
  .p (.un 35 .not (.t 34)) .unit])
 (.cond (.t 35) (.seq (.reg none [.p (.mv 4 (.c (.bool false))) .unit])
 .ret) .skip))
 (.seq (.reg none [.p (.mv 4 (.c (.bool true))) .unit])
 .ret)))))))),
 36, 2, [.t 4]⟩
theorem m_laws_eqToken : mH Try.prog 62 [] = some (F_laws_eqToken.code.x, F_laws_eqToken.N, F_laws_eqToken.np, F_laws_eqToken.res) := by kernel_rfl
noncomputable def T_laws_eqToken : (Int × Int × Int × Int × Int × List (Int)) × Int × Int × Int × Int × Int × List (Int) → Option (Bool) := evF [fn_laws_eqIntS] F_laws_eqToken [.agg (.pair (.int .i64) (.pair (.int .i64) (.pair (.int .i64) (.pair (.int .i64) (.pair (.int .i64) (.sl false (.int .i64))))))), .agg (.pair (.int .i64) (.pair (.int .i64) (.pair (.int .i64) (.pair (.int .i64) (.pair (.int .i64) (.sl false (.int .i64)))))))] [] [.cell .bool] []
noncomputable def fn_laws_eqToken : TFn := ⟨62, [.agg (.pair (.int .i64) (.pair (.int .i64) (.pair (.int .i64) (.pair (.int .i64) (.pair (.int .i64) (.sl false (.int .i64))))))), .agg (.pair (.int .i64) (.pair (.int .i64) (.pair (.int .i64) (.pair (.int .i64) (.pair (.int .i64) (.sl false (.int .i64)))))))], [], [.cell .bool], [], T_laws_eqToken⟩
theorem ok_laws_eqToken : FnOk Try.prog fn_laws_eqToken := evF_ok mixed (allOk_cons ok_laws_eqIntS allOk_nil) m_laws_eqToken (by decide)
def F_laws_eqMate : TF := ⟨(.seq (.reg none [.p (.box 2 (.t 0)) .unit,
  .p (.box 3 (.t 1)) .unit,
  .p (.mv 4 (.c (.bool false))) .unit])
 (.seq (.seq (.reg none [.p (.fadr 5 (.t 2) 0) .unit,
  .p (.load 6 (.t 5) 1 false) .unit,
  .p (.fadr 7 (.t 3) 0) .unit,
  .p (.load 8 (.t 7) 1 false) .unit,
  .p (.bin 9 false .neq (.t 6) (.t 8)) .unit])
 (.cond (.t 9) (.seq (.reg none [.p (.mv 4 (.c (.bool false))) .unit])
 .ret) .skip))
 (.seq (.seq (.reg none [.p (.fadr 10 (.t 2) 1) .unit,
  .p (.load 11 (.t 10) 2 true) .unit,
  .p (.fadr 12 (.t 3) 1) .unit,
  .p (.load 13 (.t 12) 2 true) .unit,
  .p (.callB 14 n_laws_eqRing [((.t 11), 0), ((.t 13), 0)]) .unit,
  .p (.un 15 .not (.t 14)) .unit])
 (.cond (.t 15) (.seq (.reg none [.p (.mv 4 (.c (.bool false))) .unit])
 .ret) .skip))
 (.seq (.seq (.reg none [.p (.fadr 16 (.t 2) 3) .unit,
  .p (.load 17 (.t 16) 1 false) .unit,
  .p (.fadr 18 (.t 3) 3) .unit,
  .p (.load 19 (.t 18) 1 false) .unit,
  .p (.callB 20 n_laws_eqItemS [((.t 17), 0), ((.t 19), 0)]) .unit,
  .p (.un 21 .not (.t 20)) .unit])
 (.cond (.t 21) (.seq (.reg none [.p (.mv 4 (.c (.bool false))) .unit])
 .ret) .skip))
 (.seq (.seq (.reg none [.p (.fadr 22 (.t 2) 4) .unit,
  .p (.load 23 (.t 22) 1 false) .unit,
  .p (.fadr 24 (.t 3) 4) .unit,
  .p (.load 25 (.t 24) 1 false) .unit,
  .p (.callB 26 n_laws_eqIntS [((.t 23), 0), ((.t 25), 0)]) .unit,
  .p (.un 27 .not (.t 26)) .unit])
 (.cond (.t 27) (.seq (.reg none [.p (.mv 4 (.c (.bool false))) .unit])
 .ret) .skip))
 (.seq (.seq (.reg none [.p (.fadr 28 (.t 2) 5) .unit,
  .p (.load 29 (.t 28) 1 false) .unit,
  .p (.fadr 30 (.t 3) 5) .unit,
  .p (.load 31 (.t 30) 1 false) .unit,
  .p (.callB 32 n_laws_eqStringS [((.t 29), 0), ((.t 31), 0)]) .unit,
  .p (.un 33 .not (.t 32)) .unit])
 (.cond (.t 33) (.seq (.reg none [.p (.mv 4 (.c (.bool false))) .unit])
 .ret) .skip))
 (.seq (.seq (.reg none [.p (.fadr 34 (.t 2) 6) .unit,
  .p (.load 35 (.t 34) 1 false) .unit,
  .p (.fadr 36 (.t 3) 6) .unit,
  .p (.load 37 (.t 36) 1 false) .unit,
  .p (.bin 38 false .neq (.t 35) (.t 37)) .unit])
 (.cond (.t 38) (.seq (.reg none [.p (.mv 4 (.c (.bool false))) .unit])
 .ret) .skip))
 (.seq (.seq (.reg none [.p (.fadr 39 (.t 2) 7) .unit,
  .p (.load 40 (.t 39) 1 false) .unit,
  .p (.fadr 41 (.t 3) 7) .unit,
  .p (.load 42 (.t 41) 1 false) .unit,
  .p (.bin 43 false .neq (.t 40) (.t 42)) .unit])
 (.cond (.t 43) (.seq (.reg none [.p (.mv 4 (.c (.bool false))) .unit])
 .ret) .skip))
 (.seq (.seq (.reg none [.p (.fadr 44 (.t 2) 8) .unit,
  .p (.load 45 (.t 44) 1 false) .unit,
  .p (.fadr 46 (.t 3) 8) .unit,
  .p (.load 47 (.t 46) 1 false) .unit,
  .p (.bin 48 false .neq (.t 45) (.t 47)) .unit])
 (.cond (.t 48) (.seq (.reg none [.p (.mv 4 (.c (.bool false))) .unit])
 .ret) .skip))
 (.seq (.seq (.reg none [.p (.fadr 49 (.t 2) 9) .unit,
  .p (.load 50 (.t 49) 1 false) .unit,
  .p (.fadr 51 (.t 3) 9) .unit,
  .p (.load 52 (.t 51) 1 false) .unit,
  .p (.bin 53 false .neq (.t 50) (.t 52)) .unit])
 (.cond (.t 53) (.seq (.reg none [.p (.mv 4 (.c (.bool false))) .unit])
 .ret) .skip))
 (.seq (.seq (.reg none [.p (.fadr 54 (.t 2) 10) .unit,
  .p (.load 55 (.t 54) 6 true) .unit,
  .p (.fadr 56 (.t 3) 10) .unit,
  .p (.load 57 (.t 56) 6 true) .unit,
  .p (.callB 58 n_laws_eqToken [((.t 55), 0), ((.t 57), 0)]) .unit,
  .p (.un 59 .not (.t 58)) .unit])
 (.cond (.t 59) (.seq (.reg none [.p (.mv 4 (.c (.bool false))) .unit])
 .ret) .skip))
 (.seq (.reg none [.p (.mv 4 (.c (.bool true))) .unit])
 .ret)))))))))))),
 60, 2, [.t 4]⟩
theorem m_laws_eqMate : mH Try.prog 59 [] = some (F_laws_eqMate.code.x, F_laws_eqMate.N, F_laws_eqMate.np, F_laws_eqMate.res) := by kernel_rfl
noncomputable def T_laws_eqMate : (Int × (Int × List (Int)) × List (Int × Int × Int × List UInt8) × List (Int) × List (List UInt8) × Int × Int × Int × Int × Int × Int × Int × Int × Int × List (Int)) × Int × (Int × List (Int)) × List (Int × Int × Int × List UInt8) × List (Int) × List (List UInt8) × Int × Int × Int × Int × Int × Int × Int × Int × Int × List (Int) → Option (Bool) := evF [fn_laws_eqRing, fn_laws_eqItemS, fn_laws_eqIntS, fn_laws_eqStringS, fn_laws_eqToken] F_laws_eqMate [.agg (.pair (.int .i64) (.pair (.pair (.int .i64) (.sl false (.int .i64))) (.pair (.sl false (.pair (.int .i64) (.pair (.int .i64) (.pair (.int .i64) .str)))) (.pair (.sl false (.int .i64)) (.pair (.sl false .str) (.pair (.int .i64) (.pair (.int .i64) (.pair (.int .i64) (.pair (.int .i64) (.pair (.int .i64) (.pair (.int .i64) (.pair (.int .i64) (.pair (.int .i64) (.pair (.int .i64) (.sl false (.int .i64)))))))))))))))), .agg (.pair (.int .i64) (.pair (.pair (.int .i64) (.sl false (.int .i64))) (.pair (.sl false (.pair (.int .i64) (.pair (.int .i64) (.pair (.int .i64) .str)))) (.pair (.sl false (.int .i64)) (.pair (.sl false .str) (.pair (.int .i64) (.pair (.int .i64) (.pair (.int .i64) (.pair (.int .i64) (.pair (.int .i64) (.pair (.int .i64) (.pair (.int .i64) (.pair (.int .i64) (.pair (.int .i64) (.sl false (.int .i64))))))))))))))))] [] [.cell .bool] []
noncomputable def fn_laws_eqMate : TFn := ⟨59, [.agg (.pair (.int .i64) (.pair (.pair (.int .i64) (.sl false (.int .i64))) (.pair (.sl false (.pair (.int .i64) (.pair (.int .i64) (.pair (.int .i64) .str)))) (.pair (.sl false (.int .i64)) (.pair (.sl false .str) (.pair (.int .i64) (.pair (.int .i64) (.pair (.int .i64) (.pair (.int .i64) (.pair (.int .i64) (.pair (.int .i64) (.pair (.int .i64) (.pair (.int .i64) (.pair (.int .i64) (.sl false (.int .i64)))))))))))))))), .agg (.pair (.int .i64) (.pair (.pair (.int .i64) (.sl false (.int .i64))) (.pair (.sl false (.pair (.int .i64) (.pair (.int .i64) (.pair (.int .i64) .str)))) (.pair (.sl false (.int .i64)) (.pair (.sl false .str) (.pair (.int .i64) (.pair (.int .i64) (.pair (.int .i64) (.pair (.int .i64) (.pair (.int .i64) (.pair (.int .i64) (.pair (.int .i64) (.pair (.int .i64) (.pair (.int .i64) (.sl false (.int .i64))))))))))))))))], [], [.cell .bool], [], T_laws_eqMate⟩
theorem ok_laws_eqMate : FnOk Try.prog fn_laws_eqMate := evF_ok mixed (allOk_cons ok_laws_eqRing (allOk_cons ok_laws_eqItemS (allOk_cons ok_laws_eqIntS (allOk_cons ok_laws_eqStringS (allOk_cons ok_laws_eqToken allOk_nil))))) m_laws_eqMate (by decide)
def F_laws_eqBundle : TF := ⟨(.seq (.reg none [.p (.box 2 (.t 0)) .unit,
  .p (.box 3 (.t 1)) .unit,
  .p (.mv 4 (.c (.bool false))) .unit])
 (.seq (.seq (.reg none [.p (.fadr 5 (.t 2) 0) .unit,
  .p (.load 6 (.t 5) 1 false) .unit,
  .p (.fadr 7 (.t 3) 0) .unit,
  .p (.load 8 (.t 7) 1 false) .unit,
  .p (.bin 9 false .neq (.t 6) (.t 8)) .unit])
 (.cond (.t 9) (.seq (.reg none [.p (.mv 4 (.c (.bool false))) .unit])
 .ret) .skip))
 (.seq (.seq (.reg none [.p (.fadr 10 (.t 2) 1) .unit,
  .p (.load 11 (.t 10) 1 false) .unit,
  .p (.fadr 12 (.t 3) 1) .unit,
  .p (.load 13 (.t 12) 1 false) .unit,
  .p (.bin 14 false .neq (.t 11) (.t 13)) .unit])
 (.cond (.t 14) (.seq (.reg none [.p (.mv 4 (.c (.bool false))) .unit])
 .ret) .skip))
 (.seq (.seq (.reg none [.p (.fadr 15 (.t 2) 2) .unit,
  .p (.load 16 (.t 15) 1 false) .unit,
  .p (.fadr 17 (.t 3) 2) .unit,
  .p (.load 18 (.t 17) 1 false) .unit,
  .p (.bin 19 false .neq (.t 16) (.t 18)) .unit])
 (.cond (.t 19) (.seq (.reg none [.p (.mv 4 (.c (.bool false))) .unit])
 .ret) .skip))
 (.seq (.seq (.reg none [.p (.fadr 20 (.t 2) 3) .unit,
  .p (.load 21 (.t 20) 1 false) .unit,
  .p (.fadr 22 (.t 3) 3) .unit,
  .p (.load 23 (.t 22) 1 false) .unit,
  .p (.callB 24 n_laws_eqItemS [((.t 21), 0), ((.t 23), 0)]) .unit,
  .p (.un 25 .not (.t 24)) .unit])
 (.cond (.t 25) (.seq (.reg none [.p (.mv 4 (.c (.bool false))) .unit])
 .ret) .skip))
 (.seq (.reg none [.p (.mv 4 (.c (.bool true))) .unit])
 .ret)))))),
 26, 2, [.t 4]⟩
theorem m_laws_eqBundle : mH Try.prog 63 [] = some (F_laws_eqBundle.code.x, F_laws_eqBundle.N, F_laws_eqBundle.np, F_laws_eqBundle.res) := by kernel_rfl
noncomputable def T_laws_eqBundle : (Int × Int × Int × List (Int × Int × Int × List UInt8)) × Int × Int × Int × List (Int × Int × Int × List UInt8) → Option (Bool) := evF [fn_laws_eqItemS] F_laws_eqBundle [.agg (.pair (.int .i64) (.pair (.int .i64) (.pair (.int .i64) (.sl false (.pair (.int .i64) (.pair (.int .i64) (.pair (.int .i64) .str))))))), .agg (.pair (.int .i64) (.pair (.int .i64) (.pair (.int .i64) (.sl false (.pair (.int .i64) (.pair (.int .i64) (.pair (.int .i64) .str)))))))] [] [.cell .bool] []
noncomputable def fn_laws_eqBundle : TFn := ⟨63, [.agg (.pair (.int .i64) (.pair (.int .i64) (.pair (.int .i64) (.sl false (.pair (.int .i64) (.pair (.int .i64) (.pair (.int .i64) .str))))))), .agg (.pair (.int .i64) (.pair (.int .i64) (.pair (.int .i64) (.sl false (.pair (.int .i64) (.pair (.int .i64) (.pair (.int .i64) .str)))))))], [], [.cell .bool], [], T_laws_eqBundle⟩
theorem ok_laws_eqBundle : FnOk Try.prog fn_laws_eqBundle := evF_ok mixed (allOk_cons ok_laws_eqItemS allOk_nil) m_laws_eqBundle (by decide)
def B_laws_eqBundleS_1 : TC := (.seq (.seq (.reg none [.p (.mv 11 (.t 5)) .unit,
  .p (.mv 12 (.t 0)) .unit,
  .p (.lenB 13 (.t 12)) .unit,
  .p (.bin 14 false .lss (.t 11) (.t 13)) .unit])
 (.cond (.t 14) .skip (.exit 0)))
 (.seq (.block 1 (.seq (.reg (some [[], [], [0, 1], [2], [], [], [4, 5], [6], [3, 7], [8]]) [.p (.mv 17 (.t 0)) .unit,
  .p (.mv 18 (.t 5)) .unit,
  .p (.iadr 19 4 (.t 17) (.t 18)) .unit,
  .p (.load 20 (.t 19) 4 true) .unit,
  .p (.mv 21 (.t 1)) .unit,
  .p (.mv 22 (.t 5)) .unit,
  .p (.iadr 23 4 (.t 21) (.t 22)) .unit,
  .p (.load 24 (.t 23) 4 true) .unit,
  .p (.callB 25 n_laws_eqBundle [((.t 20), 0), ((.t 24), 0)]) .unit,
  .p (.un 26 .not (.t 25)) .unit])
 (.cond (.t 26) (.seq (.reg none [.p (.mv 4 (.c (.bool false))) .unit])
 .ret) .skip)))
 (.reg none [.p (.mv 15 (.t 5)) .unit,
  .p (.bin 16 false .add (.t 15) (.c (.int .i64 1))) .unit,
  .p (.mv 5 (.t 16)) .unit])))
noncomputable def L_laws_eqBundleS_1 : Nat → (List (Int × Int × Int × List (Int × Int × Int × List UInt8))) × (List (Int × Int × Int × List (Int × Int × Int × List UInt8))) × Int → Option ((Unit) ⊕ (Bool)) := evL [fn_laws_eqBundle] (finT [.t 4] [] [.cell .bool]) 0 ⟨[(0, true), (1, true), (5, false)], [.cell (.sl false (.pair (.int .i64) (.pair (.int .i64) (.pair (.int .i64) (.sl false (.pair (.int .i64) (.pair (.int .i64) (.pair (.int .i64) .str)))))))), .cell (.sl false (.pair (.int .i64) (.pair (.int .i64) (.pair (.int .i64) (.sl false (.pair (.int .i64) (.pair (.int .i64) (.pair (.int .i64) .str)))))))), .cell (.int .i64)]⟩ ⟨[], []⟩ B_laws_eqBundleS_1
def F_laws_eqBundleS : TF := ⟨(.seq (.reg none [.p (.mv 4 (.c (.bool false))) .unit])
 (.seq (.seq (.reg none [.p (.mv 6 (.t 0)) .unit,
  .p (.lenB 7 (.t 6)) .unit,
  .p (.mv 8 (.t 1)) .unit,
  .p (.lenB 9 (.t 8)) .unit,
  .p (.bin 10 false .neq (.t 7) (.t 9)) .unit])
 (.cond (.t 10) (.seq (.reg none [.p (.mv 4 (.c (.bool false))) .unit])
 .ret) .skip))
 (.seq (.seq (.reg none [.p (.mv 5 (.c (.int .i64 0))) .unit])
 (.jl 0 ⟨[(0, true), (1, true), (5, false)], [.cell (.sl false (.pair (.int .i64) (.pair (.int .i64) (.pair (.int .i64) (.sl false (.pair (.int .i64) (.pair (.int .i64) (.pair (.int .i64) .str)))))))), .cell (.sl false (.pair (.int .i64) (.pair (.int .i64) (.pair (.int .i64) (.sl false (.pair (.int .i64) (.pair (.int .i64) (.pair (.int .i64) .str)))))))), .cell (.int .i64)]⟩ ⟨[], []⟩ B_laws_eqBundleS_1))
 (.seq (.reg none [.p (.mv 4 (.c (.bool true))) .unit])
 .ret)))),
 27, 2, [.t 4]⟩
theorem m_laws_eqBundleS : mH Try.prog 60 [] = some (F_laws_eqBundleS.code.x, F_laws_eqBundleS.N, F_laws_eqBundleS.np, F_laws_eqBundleS.res) := by kernel_rfl
noncomputable def T_laws_eqBundleS : (List (Int × Int × Int × List (Int × Int × Int × List UInt8))) × List (Int × Int × Int × List (Int × Int × Int × List UInt8)) → Option (Bool) := evF [fn_laws_eqBundle] F_laws_eqBundleS [.cell (.sl false (.pair (.int .i64) (.pair (.int .i64) (.pair (.int .i64) (.sl false (.pair (.int .i64) (.pair (.int .i64) (.pair (.int .i64) .str)))))))), .cell (.sl false (.pair (.int .i64) (.pair (.int .i64) (.pair (.int .i64) (.sl false (.pair (.int .i64) (.pair (.int .i64) (.pair (.int .i64) .str))))))))] [] [.cell .bool] []
noncomputable def fn_laws_eqBundleS : TFn := ⟨60, [.cell (.sl false (.pair (.int .i64) (.pair (.int .i64) (.pair (.int .i64) (.sl false (.pair (.int .i64) (.pair (.int .i64) (.pair (.int .i64) .str)))))))), .cell (.sl false (.pair (.int .i64) (.pair (.int .i64) (.pair (.int .i64) (.sl false (.pair (.int .i64) (.pair (.int .i64) (.pair (.int .i64) .str))))))))], [], [.cell .bool], [], T_laws_eqBundleS⟩
theorem ok_laws_eqBundleS : FnOk Try.prog fn_laws_eqBundleS := evF_ok mixed (allOk_cons ok_laws_eqBundle allOk_nil) m_laws_eqBundleS (by decide)
def F_laws_eqEvent : TF := ⟨(.seq (.reg none [.p (.box 2 (.t 0)) .unit,
  .p (.box 3 (.t 1)) .unit,
  .p (.mv 4 (.c (.bool false))) .unit])
 (.seq (.seq (.reg none [.p (.fadr 5 (.t 2) 0) .unit,
  .p (.load 6 (.t 5) 1 false) .unit,
  .p (.fadr 7 (.t 3) 0) .unit,
  .p (.load 8 (.t 7) 1 false) .unit,
  .p (.bin 9 false .neq (.t 6) (.t 8)) .unit])
 (.cond (.t 9) (.seq (.reg none [.p (.mv 4 (.c (.bool false))) .unit])
 .ret) .skip))
 (.seq (.seq (.reg none [.p (.fadr 10 (.t 2) 1) .unit,
  .p (.load 11 (.t 10) 2 true) .unit,
  .p (.fadr 12 (.t 3) 1) .unit,
  .p (.load 13 (.t 12) 2 true) .unit,
  .p (.callB 14 n_laws_eqRing [((.t 11), 0), ((.t 13), 0)]) .unit,
  .p (.un 15 .not (.t 14)) .unit])
 (.cond (.t 15) (.seq (.reg none [.p (.mv 4 (.c (.bool false))) .unit])
 .ret) .skip))
 (.seq (.seq (.reg none [.p (.fadr 16 (.t 2) 3) .unit,
  .p (.load 17 (.t 16) 4 true) .unit,
  .p (.fadr 18 (.t 3) 3) .unit,
  .p (.load 19 (.t 18) 4 true) .unit,
  .p (.callB 20 n_laws_eqItem [((.t 17), 0), ((.t 19), 0)]) .unit,
  .p (.un 21 .not (.t 20)) .unit])
 (.cond (.t 21) (.seq (.reg none [.p (.mv 4 (.c (.bool false))) .unit])
 .ret) .skip))
 (.seq (.seq (.reg none [.p (.fadr 22 (.t 2) 7) .unit,
  .p (.load 23 (.t 22) 1 false) .unit,
  .p (.fadr 24 (.t 3) 7) .unit,
  .p (.load 25 (.t 24) 1 false) .unit,
  .p (.callB 26 n_laws_eqIntS [((.t 23), 0), ((.t 25), 0)]) .unit,
  .p (.un 27 .not (.t 26)) .unit])
 (.cond (.t 27) (.seq (.reg none [.p (.mv 4 (.c (.bool false))) .unit])
 .ret) .skip))
 (.seq (.reg none [.p (.mv 4 (.c (.bool true))) .unit])
 .ret)))))),
 28, 2, [.t 4]⟩
theorem m_laws_eqEvent : mH Try.prog 41 [] = some (F_laws_eqEvent.code.x, F_laws_eqEvent.N, F_laws_eqEvent.np, F_laws_eqEvent.res) := by kernel_rfl
noncomputable def T_laws_eqEvent : (Int × (Int × List (Int)) × (Int × Int × Int × List UInt8) × List (Int)) × Int × (Int × List (Int)) × (Int × Int × Int × List UInt8) × List (Int) → Option (Bool) := evF [fn_laws_eqRing, fn_laws_eqItem, fn_laws_eqIntS] F_laws_eqEvent [.agg (.pair (.int .i64) (.pair (.pair (.int .i64) (.sl false (.int .i64))) (.pair (.pair (.int .i64) (.pair (.int .i64) (.pair (.int .i64) .str))) (.sl false (.int .i64))))), .agg (.pair (.int .i64) (.pair (.pair (.int .i64) (.sl false (.int .i64))) (.pair (.pair (.int .i64) (.pair (.int .i64) (.pair (.int .i64) .str))) (.sl false (.int .i64)))))] [] [.cell .bool] []
noncomputable def fn_laws_eqEvent : TFn := ⟨41, [.agg (.pair (.int .i64) (.pair (.pair (.int .i64) (.sl false (.int .i64))) (.pair (.pair (.int .i64) (.pair (.int .i64) (.pair (.int .i64) .str))) (.sl false (.int .i64))))), .agg (.pair (.int .i64) (.pair (.pair (.int .i64) (.sl false (.int .i64))) (.pair (.pair (.int .i64) (.pair (.int .i64) (.pair (.int .i64) .str))) (.sl false (.int .i64)))))], [], [.cell .bool], [], T_laws_eqEvent⟩
theorem ok_laws_eqEvent : FnOk Try.prog fn_laws_eqEvent := evF_ok mixed (allOk_cons ok_laws_eqRing (allOk_cons ok_laws_eqItem (allOk_cons ok_laws_eqIntS allOk_nil))) m_laws_eqEvent (by decide)
def B_laws_eqEventS_1 : TC := (.seq (.seq (.reg none [.p (.mv 11 (.t 5)) .unit,
  .p (.mv 12 (.t 0)) .unit,
  .p (.lenB 13 (.t 12)) .unit,
  .p (.bin 14 false .lss (.t 11) (.t 13)) .unit])
 (.cond (.t 14) .skip (.exit 0)))
 (.seq (.block 1 (.seq (.reg (some [[], [], [0, 1], [2], [], [], [4, 5], [6], [3, 7], [8]]) [.p (.mv 17 (.t 0)) .unit,
  .p (.mv 18 (.t 5)) .unit,
  .p (.iadr 19 8 (.t 17) (.t 18)) .unit,
  .p (.load 20 (.t 19) 8 true) .unit,
  .p (.mv 21 (.t 1)) .unit,
  .p (.mv 22 (.t 5)) .unit,
  .p (.iadr 23 8 (.t 21) (.t 22)) .unit,
  .p (.load 24 (.t 23) 8 true) .unit,
  .p (.callB 25 n_laws_eqEvent [((.t 20), 0), ((.t 24), 0)]) .unit,
  .p (.un 26 .not (.t 25)) .unit])
 (.cond (.t 26) (.seq (.reg none [.p (.mv 4 (.c (.bool false))) .unit])
 .ret) .skip)))
 (.reg none [.p (.mv 15 (.t 5)) .unit,
  .p (.bin 16 false .add (.t 15) (.c (.int .i64 1))) .unit,
  .p (.mv 5 (.t 16)) .unit])))
noncomputable def L_laws_eqEventS_1 : Nat → (List (Int × (Int × List (Int)) × (Int × Int × Int × List UInt8) × List (Int))) × (List (Int × (Int × List (Int)) × (Int × Int × Int × List UInt8) × List (Int))) × Int → Option ((Unit) ⊕ (Bool)) := evL [fn_laws_eqEvent] (finT [.t 4] [] [.cell .bool]) 0 ⟨[(0, true), (1, true), (5, false)], [.cell (.sl false (.pair (.int .i64) (.pair (.pair (.int .i64) (.sl false (.int .i64))) (.pair (.pair (.int .i64) (.pair (.int .i64) (.pair (.int .i64) .str))) (.sl false (.int .i64)))))), .cell (.sl false (.pair (.int .i64) (.pair (.pair (.int .i64) (.sl false (.int .i64))) (.pair (.pair (.int .i64) (.pair (.int .i64) (.pair (.int .i64) .str))) (.sl false (.int .i64)))))), .cell (.int .i64)]⟩ ⟨[], []⟩ B_laws_eqEventS_1
def F_laws_eqEventS : TF := ⟨(.seq (.reg none [.p (.mv 4 (.c (.bool false))) .unit])
 (.seq (.seq (.reg none [.p (.mv 6 (.t 0)) .unit,
  .p (.lenB 7 (.t 6)) .unit,
  .p (.mv 8 (.t 1)) .unit,
  .p (.lenB 9 (.t 8)) .unit,
  .p (.bin 10 false .neq (.t 7) (.t 9)) .unit])
 (.cond (.t 10) (.seq (.reg none [.p (.mv 4 (.c (.bool false))) .unit])
 .ret) .skip))
 (.seq (.seq (.reg none [.p (.mv 5 (.c (.int .i64 0))) .unit])
 (.jl 0 ⟨[(0, true), (1, true), (5, false)], [.cell (.sl false (.pair (.int .i64) (.pair (.pair (.int .i64) (.sl false (.int .i64))) (.pair (.pair (.int .i64) (.pair (.int .i64) (.pair (.int .i64) .str))) (.sl false (.int .i64)))))), .cell (.sl false (.pair (.int .i64) (.pair (.pair (.int .i64) (.sl false (.int .i64))) (.pair (.pair (.int .i64) (.pair (.int .i64) (.pair (.int .i64) .str))) (.sl false (.int .i64)))))), .cell (.int .i64)]⟩ ⟨[], []⟩ B_laws_eqEventS_1))
 (.seq (.reg none [.p (.mv 4 (.c (.bool true))) .unit])
 .ret)))),
 27, 2, [.t 4]⟩
theorem m_laws_eqEventS : mH Try.prog 25 [] = some (F_laws_eqEventS.code.x, F_laws_eqEventS.N, F_laws_eqEventS.np, F_laws_eqEventS.res) := by kernel_rfl
noncomputable def T_laws_eqEventS : (List (Int × (Int × List (Int)) × (Int × Int × Int × List UInt8) × List (Int))) × List (Int × (Int × List (Int)) × (Int × Int × Int × List UInt8) × List (Int)) → Option (Bool) := evF [fn_laws_eqEvent] F_laws_eqEventS [.cell (.sl false (.pair (.int .i64) (.pair (.pair (.int .i64) (.sl false (.int .i64))) (.pair (.pair (.int .i64) (.pair (.int .i64) (.pair (.int .i64) .str))) (.sl false (.int .i64)))))), .cell (.sl false (.pair (.int .i64) (.pair (.pair (.int .i64) (.sl false (.int .i64))) (.pair (.pair (.int .i64) (.pair (.int .i64) (.pair (.int .i64) .str))) (.sl false (.int .i64))))))] [] [.cell .bool] []
noncomputable def fn_laws_eqEventS : TFn := ⟨25, [.cell (.sl false (.pair (.int .i64) (.pair (.pair (.int .i64) (.sl false (.int .i64))) (.pair (.pair (.int .i64) (.pair (.int .i64) (.pair (.int .i64) .str))) (.sl false (.int .i64)))))), .cell (.sl false (.pair (.int .i64) (.pair (.pair (.int .i64) (.sl false (.int .i64))) (.pair (.pair (.int .i64) (.pair (.int .i64) (.pair (.int .i64) .str))) (.sl false (.int .i64))))))], [], [.cell .bool], [], T_laws_eqEventS⟩
theorem ok_laws_eqEventS : FnOk Try.prog fn_laws_eqEventS := evF_ok mixed (allOk_cons ok_laws_eqEvent allOk_nil) m_laws_eqEventS (by decide)
def F_laws_eqDaemon : TF := ⟨(.seq (.reg none [.p (.box 2 (.t 0)) .unit,
  .p (.box 3 (.t 1)) .unit,
  .p (.mv 4 (.c (.bool false))) .unit])
 (.seq (.seq (.reg none [.p (.fadr 5 (.t 2) 0) .unit,
  .p (.load 6 (.t 5) 1 false) .unit,
  .p (.fadr 7 (.t 3) 0) .unit,
  .p (.load 8 (.t 7) 1 false) .unit,
  .p (.bin 9 false .neq (.t 6) (.t 8)) .unit])
 (.cond (.t 9) (.seq (.reg none [.p (.mv 4 (.c (.bool false))) .unit])
 .ret) .skip))
 (.seq (.seq (.reg none [.p (.fadr 10 (.t 2) 1) .unit,
  .p (.load 11 (.t 10) 1 false) .unit,
  .p (.fadr 12 (.t 3) 1) .unit,
  .p (.load 13 (.t 12) 1 false) .unit,
  .p (.bin 14 true .neq (.t 11) (.t 13)) .unit])
 (.cond (.t 14) (.seq (.reg none [.p (.mv 4 (.c (.bool false))) .unit])
 .ret) .skip))
 (.seq (.seq (.reg none [.p (.fadr 15 (.t 2) 2) .unit,
  .p (.load 16 (.t 15) 16 true) .unit,
  .p (.fadr 17 (.t 3) 2) .unit,
  .p (.load 18 (.t 17) 16 true) .unit,
  .p (.callB 19 n_laws_eqMate [((.t 16), 0), ((.t 18), 0)]) .unit,
  .p (.un 20 .not (.t 19)) .unit])
 (.cond (.t 20) (.seq (.reg none [.p (.mv 4 (.c (.bool false))) .unit])
 .ret) .skip))
 (.seq (.seq (.reg none [.p (.fadr 21 (.t 2) 18) .unit,
  .p (.load 22 (.t 21) 1 false) .unit,
  .p (.fadr 23 (.t 3) 18) .unit,
  .p (.load 24 (.t 23) 1 false) .unit,
  .p (.bin 25 false .neq (.t 22) (.t 24)) .unit])
 (.cond (.t 25) (.seq (.reg none [.p (.mv 4 (.c (.bool false))) .unit])
 .ret) .skip))
 (.seq (.seq (.reg none [.p (.fadr 26 (.t 2) 19) .unit,
  .p (.load 27 (.t 26) 1 false) .unit,
  .p (.fadr 28 (.t 3) 19) .unit,
  .p (.load 29 (.t 28) 1 false) .unit,
  .p (.bin 30 false .neq (.t 27) (.t 29)) .unit])
 (.cond (.t 30) (.seq (.reg none [.p (.mv 4 (.c (.bool false))) .unit])
 .ret) .skip))
 (.seq (.seq (.reg none [.p (.fadr 31 (.t 2) 20) .unit,
  .p (.load 32 (.t 31) 2 true) .unit,
  .p (.fadr 33 (.t 3) 20) .unit,
  .p (.load 34 (.t 33) 2 true) .unit,
  .p (.callB 35 n_laws_eqRing [((.t 32), 0), ((.t 34), 0)]) .unit,
  .p (.un 36 .not (.t 35)) .unit])
 (.cond (.t 36) (.seq (.reg none [.p (.mv 4 (.c (.bool false))) .unit])
 .ret) .skip))
 (.seq (.seq (.reg none [.p (.fadr 37 (.t 2) 22) .unit,
  .p (.load 38 (.t 37) 1 false) .unit,
  .p (.fadr 39 (.t 3) 22) .unit,
  .p (.load 40 (.t 39) 1 false) .unit,
  .p (.callB 41 n_laws_eqBundleS [((.t 38), 0), ((.t 40), 0)]) .unit,
  .p (.un 42 .not (.t 41)) .unit])
 (.cond (.t 42) (.seq (.reg none [.p (.mv 4 (.c (.bool false))) .unit])
 .ret) .skip))
 (.seq (.seq (.reg none [.p (.fadr 43 (.t 2) 23) .unit,
  .p (.load 44 (.t 43) 1 false) .unit,
  .p (.fadr 45 (.t 3) 23) .unit,
  .p (.load 46 (.t 45) 1 false) .unit,
  .p (.callB 47 n_laws_eqEventS [((.t 44), 0), ((.t 46), 0)]) .unit,
  .p (.un 48 .not (.t 47)) .unit])
 (.cond (.t 48) (.seq (.reg none [.p (.mv 4 (.c (.bool false))) .unit])
 .ret) .skip))
 (.seq (.reg none [.p (.mv 4 (.c (.bool true))) .unit])
 .ret)))))))))),
 49, 2, [.t 4]⟩
theorem m_laws_eqDaemon : mH Try.prog 39 [] = some (F_laws_eqDaemon.code.x, F_laws_eqDaemon.N, F_laws_eqDaemon.np, F_laws_eqDaemon.res) := by kernel_rfl
noncomputable def T_laws_eqDaemon : (Int × Bool × (Int × (Int × List (Int)) × List (Int × Int × Int × List UInt8) × List (Int) × List (List UInt8) × Int × Int × Int × Int × Int × Int × Int × Int × Int × List (Int)) × Int × Int × (Int × List (Int)) × List (Int × Int × Int × List (Int × Int × Int × List UInt8)) × List (Int × (Int × List (Int)) × (Int × Int × Int × List UInt8) × List (Int))) × Int × Bool × (Int × (Int × List (Int)) × List (Int × Int × Int × List UInt8) × List (Int) × List (List UInt8) × Int × Int × Int × Int × Int × Int × Int × Int × Int × List (Int)) × Int × Int × (Int × List (Int)) × List (Int × Int × Int × List (Int × Int × Int × List UInt8)) × List (Int × (Int × List (Int)) × (Int × Int × Int × List UInt8) × List (Int)) → Option (Bool) := evF [fn_laws_eqMate, fn_laws_eqRing, fn_laws_eqBundleS, fn_laws_eqEventS] F_laws_eqDaemon [.agg (.pair (.int .i64) (.pair .bool (.pair (.pair (.int .i64) (.pair (.pair (.int .i64) (.sl false (.int .i64))) (.pair (.sl false (.pair (.int .i64) (.pair (.int .i64) (.pair (.int .i64) .str)))) (.pair (.sl false (.int .i64)) (.pair (.sl false .str) (.pair (.int .i64) (.pair (.int .i64) (.pair (.int .i64) (.pair (.int .i64) (.pair (.int .i64) (.pair (.int .i64) (.pair (.int .i64) (.pair (.int .i64) (.pair (.int .i64) (.sl false (.int .i64)))))))))))))))) (.pair (.int .i64) (.pair (.int .i64) (.pair (.pair (.int .i64) (.sl false (.int .i64))) (.pair (.sl false (.pair (.int .i64) (.pair (.int .i64) (.pair (.int .i64) (.sl false (.pair (.int .i64) (.pair (.int .i64) (.pair (.int .i64) .str)))))))) (.sl false (.pair (.int .i64) (.pair (.pair (.int .i64) (.sl false (.int .i64))) (.pair (.pair (.int .i64) (.pair (.int .i64) (.pair (.int .i64) .str))) (.sl false (.int .i64))))))))))))), .agg (.pair (.int .i64) (.pair .bool (.pair (.pair (.int .i64) (.pair (.pair (.int .i64) (.sl false (.int .i64))) (.pair (.sl false (.pair (.int .i64) (.pair (.int .i64) (.pair (.int .i64) .str)))) (.pair (.sl false (.int .i64)) (.pair (.sl false .str) (.pair (.int .i64) (.pair (.int .i64) (.pair (.int .i64) (.pair (.int .i64) (.pair (.int .i64) (.pair (.int .i64) (.pair (.int .i64) (.pair (.int .i64) (.pair (.int .i64) (.sl false (.int .i64)))))))))))))))) (.pair (.int .i64) (.pair (.int .i64) (.pair (.pair (.int .i64) (.sl false (.int .i64))) (.pair (.sl false (.pair (.int .i64) (.pair (.int .i64) (.pair (.int .i64) (.sl false (.pair (.int .i64) (.pair (.int .i64) (.pair (.int .i64) .str)))))))) (.sl false (.pair (.int .i64) (.pair (.pair (.int .i64) (.sl false (.int .i64))) (.pair (.pair (.int .i64) (.pair (.int .i64) (.pair (.int .i64) .str))) (.sl false (.int .i64)))))))))))))] [] [.cell .bool] []
noncomputable def fn_laws_eqDaemon : TFn := ⟨39, [.agg (.pair (.int .i64) (.pair .bool (.pair (.pair (.int .i64) (.pair (.pair (.int .i64) (.sl false (.int .i64))) (.pair (.sl false (.pair (.int .i64) (.pair (.int .i64) (.pair (.int .i64) .str)))) (.pair (.sl false (.int .i64)) (.pair (.sl false .str) (.pair (.int .i64) (.pair (.int .i64) (.pair (.int .i64) (.pair (.int .i64) (.pair (.int .i64) (.pair (.int .i64) (.pair (.int .i64) (.pair (.int .i64) (.pair (.int .i64) (.sl false (.int .i64)))))))))))))))) (.pair (.int .i64) (.pair (.int .i64) (.pair (.pair (.int .i64) (.sl false (.int .i64))) (.pair (.sl false (.pair (.int .i64) (.pair (.int .i64) (.pair (.int .i64) (.sl false (.pair (.int .i64) (.pair (.int .i64) (.pair (.int .i64) .str)))))))) (.sl false (.pair (.int .i64) (.pair (.pair (.int .i64) (.sl false (.int .i64))) (.pair (.pair (.int .i64) (.pair (.int .i64) (.pair (.int .i64) .str))) (.sl false (.int .i64))))))))))))), .agg (.pair (.int .i64) (.pair .bool (.pair (.pair (.int .i64) (.pair (.pair (.int .i64) (.sl false (.int .i64))) (.pair (.sl false (.pair (.int .i64) (.pair (.int .i64) (.pair (.int .i64) .str)))) (.pair (.sl false (.int .i64)) (.pair (.sl false .str) (.pair (.int .i64) (.pair (.int .i64) (.pair (.int .i64) (.pair (.int .i64) (.pair (.int .i64) (.pair (.int .i64) (.pair (.int .i64) (.pair (.int .i64) (.pair (.int .i64) (.sl false (.int .i64)))))))))))))))) (.pair (.int .i64) (.pair (.int .i64) (.pair (.pair (.int .i64) (.sl false (.int .i64))) (.pair (.sl false (.pair (.int .i64) (.pair (.int .i64) (.pair (.int .i64) (.sl false (.pair (.int .i64) (.pair (.int .i64) (.pair (.int .i64) .str)))))))) (.sl false (.pair (.int .i64) (.pair (.pair (.int .i64) (.sl false (.int .i64))) (.pair (.pair (.int .i64) (.pair (.int .i64) (.pair (.int .i64) .str))) (.sl false (.int .i64)))))))))))))], [], [.cell .bool], [], T_laws_eqDaemon⟩
theorem ok_laws_eqDaemon : FnOk Try.prog fn_laws_eqDaemon := evF_ok mixed (allOk_cons ok_laws_eqMate (allOk_cons ok_laws_eqRing (allOk_cons ok_laws_eqBundleS (allOk_cons ok_laws_eqEventS allOk_nil)))) m_laws_eqDaemon (by decide)
def B_laws_eqDaemonS_1 : TC := (.seq (.seq (.reg none [.p (.mv 11 (.t 5)) .unit,
  .p (.mv 12 (.t 0)) .unit,
  .p (.lenB 13 (.t 12)) .unit,
  .p (.bin 14 false .lss (.t 11) (.t 13)) .unit])
 (.cond (.t 14) .skip (.exit 0)))
 (.seq (.block 1 (.seq (.reg (some [[], [], [0, 1], [2], [], [], [4, 5], [6], [3, 7], [8]]) [.p (.mv 17 (.t 0)) .unit,
  .p (.mv 18 (.t 5)) .unit,
  .p (.iadr 19 24 (.t 17) (.t 18)) .unit,
  .p (.load 20 (.t 19) 24 true) .unit,
  .p (.mv 21 (.t 1)) .unit,
  .p (.mv 22 (.t 5)) .unit,
  .p (.iadr 23 24 (.t 21) (.t 22)) .unit,
  .p (.load 24 (.t 23) 24 true) .unit,
  .p (.callB 25 n_laws_eqDaemon [((.t 20), 0), ((.t 24), 0)]) .unit,
  .p (.un 26 .not (.t 25)) .unit])
 (.cond (.t 26) (.seq (.reg none [.p (.mv 4 (.c (.bool false))) .unit])
 .ret) .skip)))
 (.reg none [.p (.mv 15 (.t 5)) .unit,
  .p (.bin 16 false .add (.t 15) (.c (.int .i64 1))) .unit,
  .p (.mv 5 (.t 16)) .unit])))
noncomputable def L_laws_eqDaemonS_1 : Nat → (List (Int × Bool × (Int × (Int × List (Int)) × List (Int × Int × Int × List UInt8) × List (Int) × List (List UInt8) × Int × Int × Int × Int × Int × Int × Int × Int × Int × List (Int)) × Int × Int × (Int × List (Int)) × List (Int × Int × Int × List (Int × Int × Int × List UInt8)) × List (Int × (Int × List (Int)) × (Int × Int × Int × List UInt8) × List (Int)))) × (List (Int × Bool × (Int × (Int × List (Int)) × List (Int × Int × Int × List UInt8) × List (Int) × List (List UInt8) × Int × Int × Int × Int × Int × Int × Int × Int × Int × List (Int)) × Int × Int × (Int × List (Int)) × List (Int × Int × Int × List (Int × Int × Int × List UInt8)) × List (Int × (Int × List (Int)) × (Int × Int × Int × List UInt8) × List (Int)))) × Int → Option ((Unit) ⊕ (Bool)) := evL [fn_laws_eqDaemon] (finT [.t 4] [] [.cell .bool]) 0 ⟨[(0, true), (1, true), (5, false)], [.cell (.sl false (.pair (.int .i64) (.pair .bool (.pair (.pair (.int .i64) (.pair (.pair (.int .i64) (.sl false (.int .i64))) (.pair (.sl false (.pair (.int .i64) (.pair (.int .i64) (.pair (.int .i64) .str)))) (.pair (.sl false (.int .i64)) (.pair (.sl false .str) (.pair (.int .i64) (.pair (.int .i64) (.pair (.int .i64) (.pair (.int .i64) (.pair (.int .i64) (.pair (.int .i64) (.pair (.int .i64) (.pair (.int .i64) (.pair (.int .i64) (.sl false (.int .i64)))))))))))))))) (.pair (.int .i64) (.pair (.int .i64) (.pair (.pair (.int .i64) (.sl false (.int .i64))) (.pair (.sl false (.pair (.int .i64) (.pair (.int .i64) (.pair (.int .i64) (.sl false (.pair (.int .i64) (.pair (.int .i64) (.pair (.int .i64) .str)))))))) (.sl false (.pair (.int .i64) (.pair (.pair (.int .i64) (.sl false (.int .i64))) (.pair (.pair (.int .i64) (.pair (.int .i64) (.pair (.int .i64) .str))) (.sl false (.int .i64)))))))))))))), .cell (.sl false (.pair (.int .i64) (.pair .bool (.pair (.pair (.int .i64) (.pair (.pair (.int .i64) (.sl false (.int .i64))) (.pair (.sl false (.pair (.int .i64) (.pair (.int .i64) (.pair (.int .i64) .str)))) (.pair (.sl false (.int .i64)) (.pair (.sl false .str) (.pair (.int .i64) (.pair (.int .i64) (.pair (.int .i64) (.pair (.int .i64) (.pair (.int .i64) (.pair (.int .i64) (.pair (.int .i64) (.pair (.int .i64) (.pair (.int .i64) (.sl false (.int .i64)))))))))))))))) (.pair (.int .i64) (.pair (.int .i64) (.pair (.pair (.int .i64) (.sl false (.int .i64))) (.pair (.sl false (.pair (.int .i64) (.pair (.int .i64) (.pair (.int .i64) (.sl false (.pair (.int .i64) (.pair (.int .i64) (.pair (.int .i64) .str)))))))) (.sl false (.pair (.int .i64) (.pair (.pair (.int .i64) (.sl false (.int .i64))) (.pair (.pair (.int .i64) (.pair (.int .i64) (.pair (.int .i64) .str))) (.sl false (.int .i64)))))))))))))), .cell (.int .i64)]⟩ ⟨[], []⟩ B_laws_eqDaemonS_1
def F_laws_eqDaemonS : TF := ⟨(.seq (.reg none [.p (.mv 4 (.c (.bool false))) .unit])
 (.seq (.seq (.reg none [.p (.mv 6 (.t 0)) .unit,
  .p (.lenB 7 (.t 6)) .unit,
  .p (.mv 8 (.t 1)) .unit,
  .p (.lenB 9 (.t 8)) .unit,
  .p (.bin 10 false .neq (.t 7) (.t 9)) .unit])
 (.cond (.t 10) (.seq (.reg none [.p (.mv 4 (.c (.bool false))) .unit])
 .ret) .skip))
 (.seq (.seq (.reg none [.p (.mv 5 (.c (.int .i64 0))) .unit])
 (.jl 0 ⟨[(0, true), (1, true), (5, false)], [.cell (.sl false (.pair (.int .i64) (.pair .bool (.pair (.pair (.int .i64) (.pair (.pair (.int .i64) (.sl false (.int .i64))) (.pair (.sl false (.pair (.int .i64) (.pair (.int .i64) (.pair (.int .i64) .str)))) (.pair (.sl false (.int .i64)) (.pair (.sl false .str) (.pair (.int .i64) (.pair (.int .i64) (.pair (.int .i64) (.pair (.int .i64) (.pair (.int .i64) (.pair (.int .i64) (.pair (.int .i64) (.pair (.int .i64) (.pair (.int .i64) (.sl false (.int .i64)))))))))))))))) (.pair (.int .i64) (.pair (.int .i64) (.pair (.pair (.int .i64) (.sl false (.int .i64))) (.pair (.sl false (.pair (.int .i64) (.pair (.int .i64) (.pair (.int .i64) (.sl false (.pair (.int .i64) (.pair (.int .i64) (.pair (.int .i64) .str)))))))) (.sl false (.pair (.int .i64) (.pair (.pair (.int .i64) (.sl false (.int .i64))) (.pair (.pair (.int .i64) (.pair (.int .i64) (.pair (.int .i64) .str))) (.sl false (.int .i64)))))))))))))), .cell (.sl false (.pair (.int .i64) (.pair .bool (.pair (.pair (.int .i64) (.pair (.pair (.int .i64) (.sl false (.int .i64))) (.pair (.sl false (.pair (.int .i64) (.pair (.int .i64) (.pair (.int .i64) .str)))) (.pair (.sl false (.int .i64)) (.pair (.sl false .str) (.pair (.int .i64) (.pair (.int .i64) (.pair (.int .i64) (.pair (.int .i64) (.pair (.int .i64) (.pair (.int .i64) (.pair (.int .i64) (.pair (.int .i64) (.pair (.int .i64) (.sl false (.int .i64)))))))))))))))) (.pair (.int .i64) (.pair (.int .i64) (.pair (.pair (.int .i64) (.sl false (.int .i64))) (.pair (.sl false (.pair (.int .i64) (.pair (.int .i64) (.pair (.int .i64) (.sl false (.pair (.int .i64) (.pair (.int .i64) (.pair (.int .i64) .str)))))))) (.sl false (.pair (.int .i64) (.pair (.pair (.int .i64) (.sl false (.int .i64))) (.pair (.pair (.int .i64) (.pair (.int .i64) (.pair (.int .i64) .str))) (.sl false (.int .i64)))))))))))))), .cell (.int .i64)]⟩ ⟨[], []⟩ B_laws_eqDaemonS_1))
 (.seq (.reg none [.p (.mv 4 (.c (.bool true))) .unit])
 .ret)))),
 27, 2, [.t 4]⟩
theorem m_laws_eqDaemonS : mH Try.prog 23 [] = some (F_laws_eqDaemonS.code.x, F_laws_eqDaemonS.N, F_laws_eqDaemonS.np, F_laws_eqDaemonS.res) := by kernel_rfl
noncomputable def T_laws_eqDaemonS : (List (Int × Bool × (Int × (Int × List (Int)) × List (Int × Int × Int × List UInt8) × List (Int) × List (List UInt8) × Int × Int × Int × Int × Int × Int × Int × Int × Int × List (Int)) × Int × Int × (Int × List (Int)) × List (Int × Int × Int × List (Int × Int × Int × List UInt8)) × List (Int × (Int × List (Int)) × (Int × Int × Int × List UInt8) × List (Int)))) × List (Int × Bool × (Int × (Int × List (Int)) × List (Int × Int × Int × List UInt8) × List (Int) × List (List UInt8) × Int × Int × Int × Int × Int × Int × Int × Int × Int × List (Int)) × Int × Int × (Int × List (Int)) × List (Int × Int × Int × List (Int × Int × Int × List UInt8)) × List (Int × (Int × List (Int)) × (Int × Int × Int × List UInt8) × List (Int))) → Option (Bool) := evF [fn_laws_eqDaemon] F_laws_eqDaemonS [.cell (.sl false (.pair (.int .i64) (.pair .bool (.pair (.pair (.int .i64) (.pair (.pair (.int .i64) (.sl false (.int .i64))) (.pair (.sl false (.pair (.int .i64) (.pair (.int .i64) (.pair (.int .i64) .str)))) (.pair (.sl false (.int .i64)) (.pair (.sl false .str) (.pair (.int .i64) (.pair (.int .i64) (.pair (.int .i64) (.pair (.int .i64) (.pair (.int .i64) (.pair (.int .i64) (.pair (.int .i64) (.pair (.int .i64) (.pair (.int .i64) (.sl false (.int .i64)))))))))))))))) (.pair (.int .i64) (.pair (.int .i64) (.pair (.pair (.int .i64) (.sl false (.int .i64))) (.pair (.sl false (.pair (.int .i64) (.pair (.int .i64) (.pair (.int .i64) (.sl false (.pair (.int .i64) (.pair (.int .i64) (.pair (.int .i64) .str)))))))) (.sl false (.pair (.int .i64) (.pair (.pair (.int .i64) (.sl false (.int .i64))) (.pair (.pair (.int .i64) (.pair (.int .i64) (.pair (.int .i64) .str))) (.sl false (.int .i64)))))))))))))), .cell (.sl false (.pair (.int .i64) (.pair .bool (.pair (.pair (.int .i64) (.pair (.pair (.int .i64) (.sl false (.int .i64))) (.pair (.sl false (.pair (.int .i64) (.pair (.int .i64) (.pair (.int .i64) .str)))) (.pair (.sl false (.int .i64)) (.pair (.sl false .str) (.pair (.int .i64) (.pair (.int .i64) (.pair (.int .i64) (.pair (.int .i64) (.pair (.int .i64) (.pair (.int .i64) (.pair (.int .i64) (.pair (.int .i64) (.pair (.int .i64) (.sl false (.int .i64)))))))))))))))) (.pair (.int .i64) (.pair (.int .i64) (.pair (.pair (.int .i64) (.sl false (.int .i64))) (.pair (.sl false (.pair (.int .i64) (.pair (.int .i64) (.pair (.int .i64) (.sl false (.pair (.int .i64) (.pair (.int .i64) (.pair (.int .i64) .str)))))))) (.sl false (.pair (.int .i64) (.pair (.pair (.int .i64) (.sl false (.int .i64))) (.pair (.pair (.int .i64) (.pair (.int .i64) (.pair (.int .i64) .str))) (.sl false (.int .i64))))))))))))))] [] [.cell .bool] []
noncomputable def fn_laws_eqDaemonS : TFn := ⟨23, [.cell (.sl false (.pair (.int .i64) (.pair .bool (.pair (.pair (.int .i64) (.pair (.pair (.int .i64) (.sl false (.int .i64))) (.pair (.sl false (.pair (.int .i64) (.pair (.int .i64) (.pair (.int .i64) .str)))) (.pair (.sl false (.int .i64)) (.pair (.sl false .str) (.pair (.int .i64) (.pair (.int .i64) (.pair (.int .i64) (.pair (.int .i64) (.pair (.int .i64) (.pair (.int .i64) (.pair (.int .i64) (.pair (.int .i64) (.pair (.int .i64) (.sl false (.int .i64)))))))))))))))) (.pair (.int .i64) (.pair (.int .i64) (.pair (.pair (.int .i64) (.sl false (.int .i64))) (.pair (.sl false (.pair (.int .i64) (.pair (.int .i64) (.pair (.int .i64) (.sl false (.pair (.int .i64) (.pair (.int .i64) (.pair (.int .i64) .str)))))))) (.sl false (.pair (.int .i64) (.pair (.pair (.int .i64) (.sl false (.int .i64))) (.pair (.pair (.int .i64) (.pair (.int .i64) (.pair (.int .i64) .str))) (.sl false (.int .i64)))))))))))))), .cell (.sl false (.pair (.int .i64) (.pair .bool (.pair (.pair (.int .i64) (.pair (.pair (.int .i64) (.sl false (.int .i64))) (.pair (.sl false (.pair (.int .i64) (.pair (.int .i64) (.pair (.int .i64) .str)))) (.pair (.sl false (.int .i64)) (.pair (.sl false .str) (.pair (.int .i64) (.pair (.int .i64) (.pair (.int .i64) (.pair (.int .i64) (.pair (.int .i64) (.pair (.int .i64) (.pair (.int .i64) (.pair (.int .i64) (.pair (.int .i64) (.sl false (.int .i64)))))))))))))))) (.pair (.int .i64) (.pair (.int .i64) (.pair (.pair (.int .i64) (.sl false (.int .i64))) (.pair (.sl false (.pair (.int .i64) (.pair (.int .i64) (.pair (.int .i64) (.sl false (.pair (.int .i64) (.pair (.int .i64) (.pair (.int .i64) .str)))))))) (.sl false (.pair (.int .i64) (.pair (.pair (.int .i64) (.sl false (.int .i64))) (.pair (.pair (.int .i64) (.pair (.int .i64) (.pair (.int .i64) .str))) (.sl false (.int .i64))))))))))))))], [], [.cell .bool], [], T_laws_eqDaemonS⟩
theorem ok_laws_eqDaemonS : FnOk Try.prog fn_laws_eqDaemonS := evF_ok mixed (allOk_cons ok_laws_eqDaemon allOk_nil) m_laws_eqDaemonS (by decide)
def F_laws_eqLetter : TF := ⟨(.seq (.reg none [.p (.box 2 (.t 0)) .unit,
  .p (.box 3 (.t 1)) .unit,
  .p (.mv 4 (.c (.bool false))) .unit])
 (.seq (.seq (.reg none [.p (.fadr 5 (.t 2) 0) .unit,
  .p (.load 6 (.t 5) 1 false) .unit,
  .p (.fadr 7 (.t 3) 0) .unit,
  .p (.load 8 (.t 7) 1 false) .unit,
  .p (.bin 9 false .neq (.t 6) (.t 8)) .unit])
 (.cond (.t 9) (.seq (.reg none [.p (.mv 4 (.c (.bool false))) .unit])
 .ret) .skip))
 (.seq (.seq (.reg none [.p (.fadr 10 (.t 2) 1) .unit,
  .p (.load 11 (.t 10) 1 false) .unit,
  .p (.fadr 12 (.t 3) 1) .unit,
  .p (.load 13 (.t 12) 1 false) .unit,
  .p (.bin 14 false .neq (.t 11) (.t 13)) .unit])
 (.cond (.t 14) (.seq (.reg none [.p (.mv 4 (.c (.bool false))) .unit])
 .ret) .skip))
 (.seq (.seq (.reg none [.p (.fadr 15 (.t 2) 2) .unit,
  .p (.load 16 (.t 15) 1 false) .unit,
  .p (.fadr 17 (.t 3) 2) .unit,
  .p (.load 18 (.t 17) 1 false) .unit,
  .p (.bin 19 false .neq (.t 16) (.t 18)) .unit])
 (.cond (.t 19) (.seq (.reg none [.p (.mv 4 (.c (.bool false))) .unit])
 .ret) .skip))
 (.seq (.seq (.reg none [.p (.fadr 20 (.t 2) 3) .unit,
  .p (.load 21 (.t 20) 4 true) .unit,
  .p (.fadr 22 (.t 3) 3) .unit,
  .p (.load 23 (.t 22) 4 true) .unit,
  .p (.callB 24 n_laws_eqItem [((.t 21), 0), ((.t 23), 0)]) .unit,
  .p (.un 25 .not (.t 24)) .unit])
 (.cond (.t 25) (.seq (.reg none [.p (.mv 4 (.c (.bool false))) .unit])
 .ret) .skip))
 (.seq (.seq (.reg none [.p (.fadr 26 (.t 2) 7) .unit,
  .p (.load 27 (.t 26) 6 true) .unit,
  .p (.fadr 28 (.t 3) 7) .unit,
  .p (.load 29 (.t 28) 6 true) .unit,
  .p (.callB 30 n_laws_eqToken [((.t 27), 0), ((.t 29), 0)]) .unit,
  .p (.un 31 .not (.t 30)) .unit])
 (.cond (.t 31) (.seq (.reg none [.p (.mv 4 (.c (.bool false))) .unit])
 .ret) .skip))
 (.seq (.seq (.reg none [.p (.fadr 32 (.t 2) 13) .unit,
  .p (.load 33 (.t 32) 4 true) .unit,
  .p (.fadr 34 (.t 3) 13) .unit,
  .p (.load 35 (.t 34) 4 true) .unit,
  .p (.callB 36 n_laws_eqBundle [((.t 33), 0), ((.t 35), 0)]) .unit,
  .p (.un 37 .not (.t 36)) .unit])
 (.cond (.t 37) (.seq (.reg none [.p (.mv 4 (.c (.bool false))) .unit])
 .ret) .skip))
 (.seq (.reg none [.p (.mv 4 (.c (.bool true))) .unit])
 .ret)))))))),
 38, 2, [.t 4]⟩
theorem m_laws_eqLetter : mH Try.prog 40 [] = some (F_laws_eqLetter.code.x, F_laws_eqLetter.N, F_laws_eqLetter.np, F_laws_eqLetter.res) := by kernel_rfl
noncomputable def T_laws_eqLetter : (Int × Int × Int × (Int × Int × Int × List UInt8) × (Int × Int × Int × Int × Int × List (Int)) × Int × Int × Int × List (Int × Int × Int × List UInt8)) × Int × Int × Int × (Int × Int × Int × List UInt8) × (Int × Int × Int × Int × Int × List (Int)) × Int × Int × Int × List (Int × Int × Int × List UInt8) → Option (Bool) := evF [fn_laws_eqItem, fn_laws_eqToken, fn_laws_eqBundle] F_laws_eqLetter [.agg (.pair (.int .i64) (.pair (.int .i64) (.pair (.int .i64) (.pair (.pair (.int .i64) (.pair (.int .i64) (.pair (.int .i64) .str))) (.pair (.pair (.int .i64) (.pair (.int .i64) (.pair (.int .i64) (.pair (.int .i64) (.pair (.int .i64) (.sl false (.int .i64))))))) (.pair (.int .i64) (.pair (.int .i64) (.pair (.int .i64) (.sl false (.pair (.int .i64) (.pair (.int .i64) (.pair (.int .i64) .str)))))))))))), .agg (.pair (.int .i64) (.pair (.int .i64) (.pair (.int .i64) (.pair (.pair (.int .i64) (.pair (.int .i64) (.pair (.int .i64) .str))) (.pair (.pair (.int .i64) (.pair (.int .i64) (.pair (.int .i64) (.pair (.int .i64) (.pair (.int .i64) (.sl false (.int .i64))))))) (.pair (.int .i64) (.pair (.int .i64) (.pair (.int .i64) (.sl false (.pair (.int .i64) (.pair (.int .i64) (.pair (.int .i64) .str))))))))))))] [] [.cell .bool] []
noncomputable def fn_laws_eqLetter : TFn := ⟨40, [.agg (.pair (.int .i64) (.pair (.int .i64) (.pair (.int .i64) (.pair (.pair (.int .i64) (.pair (.int .i64) (.pair (.int .i64) .str))) (.pair (.pair (.int .i64) (.pair (.int .i64) (.pair (.int .i64) (.pair (.int .i64) (.pair (.int .i64) (.sl false (.int .i64))))))) (.pair (.int .i64) (.pair (.int .i64) (.pair (.int .i64) (.sl false (.pair (.int .i64) (.pair (.int .i64) (.pair (.int .i64) .str)))))))))))), .agg (.pair (.int .i64) (.pair (.int .i64) (.pair (.int .i64) (.pair (.pair (.int .i64) (.pair (.int .i64) (.pair (.int .i64) .str))) (.pair (.pair (.int .i64) (.pair (.int .i64) (.pair (.int .i64) (.pair (.int .i64) (.pair (.int .i64) (.sl false (.int .i64))))))) (.pair (.int .i64) (.pair (.int .i64) (.pair (.int .i64) (.sl false (.pair (.int .i64) (.pair (.int .i64) (.pair (.int .i64) .str))))))))))))], [], [.cell .bool], [], T_laws_eqLetter⟩
theorem ok_laws_eqLetter : FnOk Try.prog fn_laws_eqLetter := evF_ok mixed (allOk_cons ok_laws_eqItem (allOk_cons ok_laws_eqToken (allOk_cons ok_laws_eqBundle allOk_nil))) m_laws_eqLetter (by decide)
def B_laws_eqLetterS_1 : TC := (.seq (.seq (.reg none [.p (.mv 11 (.t 5)) .unit,
  .p (.mv 12 (.t 0)) .unit,
  .p (.lenB 13 (.t 12)) .unit,
  .p (.bin 14 false .lss (.t 11) (.t 13)) .unit])
 (.cond (.t 14) .skip (.exit 0)))
 (.seq (.block 1 (.seq (.reg (some [[], [], [0, 1], [2], [], [], [4, 5], [6], [3, 7], [8]]) [.p (.mv 17 (.t 0)) .unit,
  .p (.mv 18 (.t 5)) .unit,
  .p (.iadr 19 17 (.t 17) (.t 18)) .unit,
  .p (.load 20 (.t 19) 17 true) .unit,
  .p (.mv 21 (.t 1)) .unit,
  .p (.mv 22 (.t 5)) .unit,
  .p (.iadr 23 17 (.t 21) (.t 22)) .unit,
  .p (.load 24 (.t 23) 17 true) .unit,
  .p (.callB 25 n_laws_eqLetter [((.t 20), 0), ((.t 24), 0)]) .unit,
  .p (.un 26 .not (.t 25)) .unit])
 (.cond (.t 26) (.seq (.reg none [.p (.mv 4 (.c (.bool false))) .unit])
 .ret) .skip)))
 (.reg none [.p (.mv 15 (.t 5)) .unit,
  .p (.bin 16 false .add (.t 15) (.c (.int .i64 1))) .unit,
  .p (.mv 5 (.t 16)) .unit])))
noncomputable def L_laws_eqLetterS_1 : Nat → (List (Int × Int × Int × (Int × Int × Int × List UInt8) × (Int × Int × Int × Int × Int × List (Int)) × Int × Int × Int × List (Int × Int × Int × List UInt8))) × (List (Int × Int × Int × (Int × Int × Int × List UInt8) × (Int × Int × Int × Int × Int × List (Int)) × Int × Int × Int × List (Int × Int × Int × List UInt8))) × Int → Option ((Unit) ⊕ (Bool)) := evL [fn_laws_eqLetter] (finT [.t 4] [] [.cell .bool]) 0 ⟨[(0, true), (1, true), (5, false)], [.cell (.sl false (.pair (.int .i64) (.pair (.int .i64) (.pair (.int .i64) (.pair (.pair (.int .i64) (.pair (.int .i64) (.pair (.int .i64) .str))) (.pair (.pair (.int .i64) (.pair (.int .i64) (.pair (.int .i64) (.pair (.int .i64) (.pair (.int .i64) (.sl false (.int .i64))))))) (.pair (.int .i64) (.pair (.int .i64) (.pair (.int .i64) (.sl false (.pair (.int .i64) (.pair (.int .i64) (.pair (.int .i64) .str))))))))))))), .cell (.sl false (.pair (.int .i64) (.pair (.int .i64) (.pair (.int .i64) (.pair (.pair (.int .i64) (.pair (.int .i64) (.pair (.int .i64) .str))) (.pair (.pair (.int .i64) (.pair (.int .i64) (.pair (.int .i64) (.pair (.int .i64) (.pair (.int .i64) (.sl false (.int .i64))))))) (.pair (.int .i64) (.pair (.int .i64) (.pair (.int .i64) (.sl false (.pair (.int .i64) (.pair (.int .i64) (.pair (.int .i64) .str))))))))))))), .cell (.int .i64)]⟩ ⟨[], []⟩ B_laws_eqLetterS_1
def F_laws_eqLetterS : TF := ⟨(.seq (.reg none [.p (.mv 4 (.c (.bool false))) .unit])
 (.seq (.seq (.reg none [.p (.mv 6 (.t 0)) .unit,
  .p (.lenB 7 (.t 6)) .unit,
  .p (.mv 8 (.t 1)) .unit,
  .p (.lenB 9 (.t 8)) .unit,
  .p (.bin 10 false .neq (.t 7) (.t 9)) .unit])
 (.cond (.t 10) (.seq (.reg none [.p (.mv 4 (.c (.bool false))) .unit])
 .ret) .skip))
 (.seq (.seq (.reg none [.p (.mv 5 (.c (.int .i64 0))) .unit])
 (.jl 0 ⟨[(0, true), (1, true), (5, false)], [.cell (.sl false (.pair (.int .i64) (.pair (.int .i64) (.pair (.int .i64) (.pair (.pair (.int .i64) (.pair (.int .i64) (.pair (.int .i64) .str))) (.pair (.pair (.int .i64) (.pair (.int .i64) (.pair (.int .i64) (.pair (.int .i64) (.pair (.int .i64) (.sl false (.int .i64))))))) (.pair (.int .i64) (.pair (.int .i64) (.pair (.int .i64) (.sl false (.pair (.int .i64) (.pair (.int .i64) (.pair (.int .i64) .str))))))))))))), .cell (.sl false (.pair (.int .i64) (.pair (.int .i64) (.pair (.int .i64) (.pair (.pair (.int .i64) (.pair (.int .i64) (.pair (.int .i64) .str))) (.pair (.pair (.int .i64) (.pair (.int .i64) (.pair (.int .i64) (.pair (.int .i64) (.pair (.int .i64) (.sl false (.int .i64))))))) (.pair (.int .i64) (.pair (.int .i64) (.pair (.int .i64) (.sl false (.pair (.int .i64) (.pair (.int .i64) (.pair (.int .i64) .str))))))))))))), .cell (.int .i64)]⟩ ⟨[], []⟩ B_laws_eqLetterS_1))
 (.seq (.reg none [.p (.mv 4 (.c (.bool true))) .unit])
 .ret)))),
 27, 2, [.t 4]⟩
theorem m_laws_eqLetterS : mH Try.prog 24 [] = some (F_laws_eqLetterS.code.x, F_laws_eqLetterS.N, F_laws_eqLetterS.np, F_laws_eqLetterS.res) := by kernel_rfl
noncomputable def T_laws_eqLetterS : (List (Int × Int × Int × (Int × Int × Int × List UInt8) × (Int × Int × Int × Int × Int × List (Int)) × Int × Int × Int × List (Int × Int × Int × List UInt8))) × List (Int × Int × Int × (Int × Int × Int × List UInt8) × (Int × Int × Int × Int × Int × List (Int)) × Int × Int × Int × List (Int × Int × Int × List UInt8)) → Option (Bool) := evF [fn_laws_eqLetter] F_laws_eqLetterS [.cell (.sl false (.pair (.int .i64) (.pair (.int .i64) (.pair (.int .i64) (.pair (.pair (.int .i64) (.pair (.int .i64) (.pair (.int .i64) .str))) (.pair (.pair (.int .i64) (.pair (.int .i64) (.pair (.int .i64) (.pair (.int .i64) (.pair (.int .i64) (.sl false (.int .i64))))))) (.pair (.int .i64) (.pair (.int .i64) (.pair (.int .i64) (.sl false (.pair (.int .i64) (.pair (.int .i64) (.pair (.int .i64) .str))))))))))))), .cell (.sl false (.pair (.int .i64) (.pair (.int .i64) (.pair (.int .i64) (.pair (.pair (.int .i64) (.pair (.int .i64) (.pair (.int .i64) .str))) (.pair (.pair (.int .i64) (.pair (.int .i64) (.pair (.int .i64) (.pair (.int .i64) (.pair (.int .i64) (.sl false (.int .i64))))))) (.pair (.int .i64) (.pair (.int .i64) (.pair (.int .i64) (.sl false (.pair (.int .i64) (.pair (.int .i64) (.pair (.int .i64) .str)))))))))))))] [] [.cell .bool] []
noncomputable def fn_laws_eqLetterS : TFn := ⟨24, [.cell (.sl false (.pair (.int .i64) (.pair (.int .i64) (.pair (.int .i64) (.pair (.pair (.int .i64) (.pair (.int .i64) (.pair (.int .i64) .str))) (.pair (.pair (.int .i64) (.pair (.int .i64) (.pair (.int .i64) (.pair (.int .i64) (.pair (.int .i64) (.sl false (.int .i64))))))) (.pair (.int .i64) (.pair (.int .i64) (.pair (.int .i64) (.sl false (.pair (.int .i64) (.pair (.int .i64) (.pair (.int .i64) .str))))))))))))), .cell (.sl false (.pair (.int .i64) (.pair (.int .i64) (.pair (.int .i64) (.pair (.pair (.int .i64) (.pair (.int .i64) (.pair (.int .i64) .str))) (.pair (.pair (.int .i64) (.pair (.int .i64) (.pair (.int .i64) (.pair (.int .i64) (.pair (.int .i64) (.sl false (.int .i64))))))) (.pair (.int .i64) (.pair (.int .i64) (.pair (.int .i64) (.sl false (.pair (.int .i64) (.pair (.int .i64) (.pair (.int .i64) .str)))))))))))))], [], [.cell .bool], [], T_laws_eqLetterS⟩
theorem ok_laws_eqLetterS : FnOk Try.prog fn_laws_eqLetterS := evF_ok mixed (allOk_cons ok_laws_eqLetter allOk_nil) m_laws_eqLetterS (by decide)
def F_laws_eqWorld : TF := ⟨(.seq (.reg none [.p (.box 2 (.t 0)) .unit,
  .p (.box 3 (.t 1)) .unit,
  .p (.mv 4 (.c (.bool false))) .unit])
 (.seq (.seq (.reg none [.p (.fadr 5 (.t 2) 0) .unit,
  .p (.load 6 (.t 5) 1 false) .unit,
  .p (.fadr 7 (.t 3) 0) .unit,
  .p (.load 8 (.t 7) 1 false) .unit,
  .p (.callB 9 n_laws_eqRingS [((.t 6), 0), ((.t 8), 0)]) .unit,
  .p (.un 10 .not (.t 9)) .unit])
 (.cond (.t 10) (.seq (.reg none [.p (.mv 4 (.c (.bool false))) .unit])
 .ret) .skip))
 (.seq (.seq (.reg none [.p (.fadr 11 (.t 2) 1) .unit,
  .p (.load 12 (.t 11) 1 false) .unit,
  .p (.fadr 13 (.t 3) 1) .unit,
  .p (.load 14 (.t 13) 1 false) .unit,
  .p (.callB 15 n_laws_eqDaemonS [((.t 12), 0), ((.t 14), 0)]) .unit,
  .p (.un 16 .not (.t 15)) .unit])
 (.cond (.t 16) (.seq (.reg none [.p (.mv 4 (.c (.bool false))) .unit])
 .ret) .skip))
 (.seq (.seq (.reg none [.p (.fadr 17 (.t 2) 2) .unit,
  .p (.load 18 (.t 17) 1 false) .unit,
  .p (.fadr 19 (.t 3) 2) .unit,
  .p (.load 20 (.t 19) 1 false) .unit,
  .p (.callB 21 n_laws_eqLetterS [((.t 18), 0), ((.t 20), 0)]) .unit,
  .p (.un 22 .not (.t 21)) .unit])
 (.cond (.t 22) (.seq (.reg none [.p (.mv 4 (.c (.bool false))) .unit])
 .ret) .skip))
 (.seq (.seq (.reg none [.p (.fadr 23 (.t 2) 3) .unit,
  .p (.load 24 (.t 23) 1 false) .unit,
  .p (.fadr 25 (.t 3) 3) .unit,
  .p (.load 26 (.t 25) 1 false) .unit,
  .p (.callB 27 n_laws_eqEventS [((.t 24), 0), ((.t 26), 0)]) .unit,
  .p (.un 28 .not (.t 27)) .unit])
 (.cond (.t 28) (.seq (.reg none [.p (.mv 4 (.c (.bool false))) .unit])
 .ret) .skip))
 (.seq (.reg none [.p (.mv 4 (.c (.bool true))) .unit])
 .ret)))))),
 29, 2, [.t 4]⟩
theorem m_laws_eqWorld : mH Try.prog 9 [] = some (F_laws_eqWorld.code.x, F_laws_eqWorld.N, F_laws_eqWorld.np, F_laws_eqWorld.res) := by kernel_rfl
noncomputable def T_laws_eqWorld : (List (Int × List (Int)) × List (Int × Bool × (Int × (Int × List (Int)) × List (Int × Int × Int × List UInt8) × List (Int) × List (List UInt8) × Int × Int × Int × Int × Int × Int × Int × Int × Int × List (Int)) × Int × Int × (Int × List (Int)) × List (Int × Int × Int × List (Int × Int × Int × List UInt8)) × List (Int × (Int × List (Int)) × (Int × Int × Int × List UInt8) × List (Int))) × List (Int × Int × Int × (Int × Int × Int × List UInt8) × (Int × Int × Int × Int × Int × List (Int)) × Int × Int × Int × List (Int × Int × Int × List UInt8)) × List (Int × (Int × List (Int)) × (Int × Int × Int × List UInt8) × List (Int))) × List (Int × List (Int)) × List (Int × Bool × (Int × (Int × List (Int)) × List (Int × Int × Int × List UInt8) × List (Int) × List (List UInt8) × Int × Int × Int × Int × Int × Int × Int × Int × Int × List (Int)) × Int × Int × (Int × List (Int)) × List (Int × Int × Int × List (Int × Int × Int × List UInt8)) × List (Int × (Int × List (Int)) × (Int × Int × Int × List UInt8) × List (Int))) × List (Int × Int × Int × (Int × Int × Int × List UInt8) × (Int × Int × Int × Int × Int × List (Int)) × Int × Int × Int × List (Int × Int × Int × List UInt8)) × List (Int × (Int × List (Int)) × (Int × Int × Int × List UInt8) × List (Int)) → Option (Bool) := evF [fn_laws_eqRingS, fn_laws_eqDaemonS, fn_laws_eqLetterS, fn_laws_eqEventS] F_laws_eqWorld [.agg (.pair (.sl false (.pair (.int .i64) (.sl false (.int .i64)))) (.pair (.sl false (.pair (.int .i64) (.pair .bool (.pair (.pair (.int .i64) (.pair (.pair (.int .i64) (.sl false (.int .i64))) (.pair (.sl false (.pair (.int .i64) (.pair (.int .i64) (.pair (.int .i64) .str)))) (.pair (.sl false (.int .i64)) (.pair (.sl false .str) (.pair (.int .i64) (.pair (.int .i64) (.pair (.int .i64) (.pair (.int .i64) (.pair (.int .i64) (.pair (.int .i64) (.pair (.int .i64) (.pair (.int .i64) (.pair (.int .i64) (.sl false (.int .i64)))))))))))))))) (.pair (.int .i64) (.pair (.int .i64) (.pair (.pair (.int .i64) (.sl false (.int .i64))) (.pair (.sl false (.pair (.int .i64) (.pair (.int .i64) (.pair (.int .i64) (.sl false (.pair (.int .i64) (.pair (.int .i64) (.pair (.int .i64) .str)))))))) (.sl false (.pair (.int .i64) (.pair (.pair (.int .i64) (.sl false (.int .i64))) (.pair (.pair (.int .i64) (.pair (.int .i64) (.pair (.int .i64) .str))) (.sl false (.int .i64)))))))))))))) (.pair (.sl false (.pair (.int .i64) (.pair (.int .i64) (.pair (.int .i64) (.pair (.pair (.int .i64) (.pair (.int .i64) (.pair (.int .i64) .str))) (.pair (.pair (.int .i64) (.pair (.int .i64) (.pair (.int .i64) (.pair (.int .i64) (.pair (.int .i64) (.sl false (.int .i64))))))) (.pair (.int .i64) (.pair (.int .i64) (.pair (.int .i64) (.sl false (.pair (.int .i64) (.pair (.int .i64) (.pair (.int .i64) .str))))))))))))) (.sl false (.pair (.int .i64) (.pair (.pair (.int .i64) (.sl false (.int .i64))) (.pair (.pair (.int .i64) (.pair (.int .i64) (.pair (.int .i64) .str))) (.sl false (.int .i64))))))))), .agg (.pair (.sl false (.pair (.int .i64) (.sl false (.int .i64)))) (.pair (.sl false (.pair (.int .i64) (.pair .bool (.pair (.pair (.int .i64) (.pair (.pair (.int .i64) (.sl false (.int .i64))) (.pair (.sl false (.pair (.int .i64) (.pair (.int .i64) (.pair (.int .i64) .str)))) (.pair (.sl false (.int .i64)) (.pair (.sl false .str) (.pair (.int .i64) (.pair (.int .i64) (.pair (.int .i64) (.pair (.int .i64) (.pair (.int .i64) (.pair (.int .i64) (.pair (.int .i64) (.pair (.int .i64) (.pair (.int .i64) (.sl false (.int .i64)))))))))))))))) (.pair (.int .i64) (.pair (.int .i64) (.pair (.pair (.int .i64) (.sl false (.int .i64))) (.pair (.sl false (.pair (.int .i64) (.pair (.int .i64) (.pair (.int .i64) (.sl false (.pair (.int .i64) (.pair (.int .i64) (.pair (.int .i64) .str)))))))) (.sl false (.pair (.int .i64) (.pair (.pair (.int .i64) (.sl false (.int .i64))) (.pair (.pair (.int .i64) (.pair (.int .i64) (.pair (.int .i64) .str))) (.sl false (.int .i64)))))))))))))) (.pair (.sl false (.pair (.int .i64) (.pair (.int .i64) (.pair (.int .i64) (.pair (.pair (.int .i64) (.pair (.int .i64) (.pair (.int .i64) .str))) (.pair (.pair (.int .i64) (.pair (.int .i64) (.pair (.int .i64) (.pair (.int .i64) (.pair (.int .i64) (.sl false (.int .i64))))))) (.pair (.int .i64) (.pair (.int .i64) (.pair (.int .i64) (.sl false (.pair (.int .i64) (.pair (.int .i64) (.pair (.int .i64) .str))))))))))))) (.sl false (.pair (.int .i64) (.pair (.pair (.int .i64) (.sl false (.int .i64))) (.pair (.pair (.int .i64) (.pair (.int .i64) (.pair (.int .i64) .str))) (.sl false (.int .i64)))))))))] [] [.cell .bool] []
noncomputable def fn_laws_eqWorld : TFn := ⟨9, [.agg (.pair (.sl false (.pair (.int .i64) (.sl false (.int .i64)))) (.pair (.sl false (.pair (.int .i64) (.pair .bool (.pair (.pair (.int .i64) (.pair (.pair (.int .i64) (.sl false (.int .i64))) (.pair (.sl false (.pair (.int .i64) (.pair (.int .i64) (.pair (.int .i64) .str)))) (.pair (.sl false (.int .i64)) (.pair (.sl false .str) (.pair (.int .i64) (.pair (.int .i64) (.pair (.int .i64) (.pair (.int .i64) (.pair (.int .i64) (.pair (.int .i64) (.pair (.int .i64) (.pair (.int .i64) (.pair (.int .i64) (.sl false (.int .i64)))))))))))))))) (.pair (.int .i64) (.pair (.int .i64) (.pair (.pair (.int .i64) (.sl false (.int .i64))) (.pair (.sl false (.pair (.int .i64) (.pair (.int .i64) (.pair (.int .i64) (.sl false (.pair (.int .i64) (.pair (.int .i64) (.pair (.int .i64) .str)))))))) (.sl false (.pair (.int .i64) (.pair (.pair (.int .i64) (.sl false (.int .i64))) (.pair (.pair (.int .i64) (.pair (.int .i64) (.pair (.int .i64) .str))) (.sl false (.int .i64)))))))))))))) (.pair (.sl false (.pair (.int .i64) (.pair (.int .i64) (.pair (.int .i64) (.pair (.pair (.int .i64) (.pair (.int .i64) (.pair (.int .i64) .str))) (.pair (.pair (.int .i64) (.pair (.int .i64) (.pair (.int .i64) (.pair (.int .i64) (.pair (.int .i64) (.sl false (.int .i64))))))) (.pair (.int .i64) (.pair (.int .i64) (.pair (.int .i64) (.sl false (.pair (.int .i64) (.pair (.int .i64) (.pair (.int .i64) .str))))))))))))) (.sl false (.pair (.int .i64) (.pair (.pair (.int .i64) (.sl false (.int .i64))) (.pair (.pair (.int .i64) (.pair (.int .i64) (.pair (.int .i64) .str))) (.sl false (.int .i64))))))))), .agg (.pair (.sl false (.pair (.int .i64) (.sl false (.int .i64)))) (.pair (.sl false (.pair (.int .i64) (.pair .bool (.pair (.pair (.int .i64) (.pair (.pair (.int .i64) (.sl false (.int .i64))) (.pair (.sl false (.pair (.int .i64) (.pair (.int .i64) (.pair (.int .i64) .str)))) (.pair (.sl false (.int .i64)) (.pair (.sl false .str) (.pair (.int .i64) (.pair (.int .i64) (.pair (.int .i64) (.pair (.int .i64) (.pair (.int .i64) (.pair (.int .i64) (.pair (.int .i64) (.pair (.int .i64) (.pair (.int .i64) (.sl false (.int .i64)))))))))))))))) (.pair (.int .i64) (.pair (.int .i64) (.pair (.pair (.int .i64) (.sl false (.int .i64))) (.pair (.sl false (.pair (.int .i64) (.pair (.int .i64) (.pair (.int .i64) (.sl false (.pair (.int .i64) (.pair (.int .i64) (.pair (.int .i64) .str)))))))) (.sl false (.pair (.int .i64) (.pair (.pair (.int .i64) (.sl false (.int .i64))) (.pair (.pair (.int .i64) (.pair (.int .i64) (.pair (.int .i64) .str))) (.sl false (.int .i64)))))))))))))) (.pair (.sl false (.pair (.int .i64) (.pair (.int .i64) (.pair (.int .i64) (.pair (.pair (.int .i64) (.pair (.int .i64) (.pair (.int .i64) .str))) (.pair (.pair (.int .i64) (.pair (.int .i64) (.pair (.int .i64) (.pair (.int .i64) (.pair (.int .i64) (.sl false (.int .i64))))))) (.pair (.int .i64) (.pair (.int .i64) (.pair (.int .i64) (.sl false (.pair (.int .i64) (.pair (.int .i64) (.pair (.int .i64) .str))))))))))))) (.sl false (.pair (.int .i64) (.pair (.pair (.int .i64) (.sl false (.int .i64))) (.pair (.pair (.int .i64) (.pair (.int .i64) (.pair (.int .i64) .str))) (.sl false (.int .i64)))))))))], [], [.cell .bool], [], T_laws_eqWorld⟩
theorem ok_laws_eqWorld : FnOk Try.prog fn_laws_eqWorld := evF_ok mixed (allOk_cons ok_laws_eqRingS (allOk_cons ok_laws_eqDaemonS (allOk_cons ok_laws_eqLetterS (allOk_cons ok_laws_eqEventS allOk_nil)))) m_laws_eqWorld (by decide)
def F_laws_FnExactSafeKept : TF := ⟨(.seq (.reg none [.p (.box 1 (.t 0)) .unit,
  .p (.mv 2 (.c (.bool false))) .unit])
 (.seq (.reg none [.p (.mv 3 (.c (.int .i64 1048576))) .unit])
 (.seq (.reg none [.p (.load 7 (.t 1) 4 true) .unit,
  .p (.mv 8 (.t 3)) .unit,
  .p (.callB 9 n_laws_szWorld [((.t 7), 0), ((.t 8), 0)]) .unit,
  .p (.mv 3 (.t 9)) .unit])
 (.seq (.seq (.reg none [.p (.mv 10 (.t 3)) .unit,
  .p (.bin 11 false .lss (.t 10) (.c (.int .i64 0))) .unit])
 (.cond (.t 11) (.seq (.reg none [.p (.mv 2 (.c (.bool true))) .unit])
 .ret) .skip))
 (.seq (.reg none [.p (.load 12 (.t 1) 4 true) .unit,
  .p (.callB 13 n_laws_toWorld [((.t 12), 0)]) .unit,
  .p (.callB 14 n_spec_SafeKept [((.t 13), 0)]) .unit,
  .p (.mv 4 (.t 14)) .unit])
 (.seq (.reg none [.p (.load 15 (.t 1) 4 true) .unit,
  .p (.callB 16 n_laws_toWorld [((.t 15), 0)]) .unit,
  .p (.alloc 5 [(.sl true 2 []), (.sl true 24 []), (.sl true 17 []), (.sl true 8 [])]) .unit,
  .p (.storeT (.t 5) 16 4) .unit])
 (.seq (.reg none [.p (.load 17 (.t 5) 4 true) .unit,
  .p (.callB 18 n_impl_SafeKept [((.t 17), 0)]) .unit,
  .p (.mv 6 (.t 18)) .unit])
 (.seq (.seq (.reg none [.p (.mv 19 (.t 6)) .unit,
  .p (.mv 20 (.t 4)) .unit,
  .p (.bin 21 true .neq (.t 19) (.t 20)) .unit])
 (.cond (.t 21) (.seq (.reg none [.p (.mv 2 (.c (.bool false))) .unit])
 .ret) .skip))
 (.seq (.seq (.reg (some [[], [], [1], [0, 2, 2], [3]]) [.p (.load 22 (.t 5) 4 true) .unit,
  .p (.load 23 (.t 1) 4 true) .unit,
  .p (.callB 24 n_laws_toWorld [((.t 23), 0)]) .unit,
  .p (.callB 25 n_laws_eqWorld [((.t 22), 0), ((.t 24), 0)]) .unit,
  .p (.un 26 .not (.t 25)) .unit])
 (.cond (.t 26) (.seq (.reg none [.p (.mv 2 (.c (.bool false))) .unit])
 .ret) .skip))
 (.seq (.reg none [.p (.mv 2 (.c (.bool true))) .unit])
 .ret)))))))))),
 27, 1, [.t 2]⟩
theorem m_laws_FnExactSafeKept : mH Try.prog 4 [(6, 3, .t)] = some (F_laws_FnExactSafeKept.code.x, F_laws_FnExactSafeKept.N, F_laws_FnExactSafeKept.np, F_laws_FnExactSafeKept.res) := by kernel_rfl
noncomputable def T_laws_FnExactSafeKept : List (Int × List (Int)) × List (Int × Bool × (Int × (Int × List (Int)) × List (Int × Int × Int × List UInt8) × List (Int) × List (List UInt8) × Int × Int × Int × Int × Int × Int × Int × Int × Int × List (Int)) × Int × Int × (Int × List (Int)) × List (Int × Int × Int × List (Int × Int × Int × List UInt8)) × List (Int × (Int × List (Int)) × (Int × Int × Int × List UInt8) × List (Int))) × List (Int × Int × Int × (Int × Int × Int × List UInt8) × (Int × Int × Int × Int × Int × List (Int)) × Int × Int × Int × List (Int × Int × Int × List UInt8)) × List (Int × (Int × List (Int)) × (Int × Int × Int × List UInt8) × List (Int)) → Option (Bool) := evF [fn_laws_szWorld, fn_laws_toWorld, fn_spec_SafeKept, fn_impl_SafeKept, fn_laws_eqWorld] F_laws_FnExactSafeKept [.agg (.pair (.sl false (.pair (.int .i64) (.sl false (.int .i64)))) (.pair (.sl false (.pair (.int .i64) (.pair .bool (.pair (.pair (.int .i64) (.pair (.pair (.int .i64) (.sl false (.int .i64))) (.pair (.sl false (.pair (.int .i64) (.pair (.int .i64) (.pair (.int .i64) .str)))) (.pair (.sl false (.int .i64)) (.pair (.sl false .str) (.pair (.int .i64) (.pair (.int .i64) (.pair (.int .i64) (.pair (.int .i64) (.pair (.int .i64) (.pair (.int .i64) (.pair (.int .i64) (.pair (.int .i64) (.pair (.int .i64) (.sl false (.int .i64)))))))))))))))) (.pair (.int .i64) (.pair (.int .i64) (.pair (.pair (.int .i64) (.sl false (.int .i64))) (.pair (.sl false (.pair (.int .i64) (.pair (.int .i64) (.pair (.int .i64) (.sl false (.pair (.int .i64) (.pair (.int .i64) (.pair (.int .i64) .str)))))))) (.sl false (.pair (.int .i64) (.pair (.pair (.int .i64) (.sl false (.int .i64))) (.pair (.pair (.int .i64) (.pair (.int .i64) (.pair (.int .i64) .str))) (.sl false (.int .i64)))))))))))))) (.pair (.sl false (.pair (.int .i64) (.pair (.int .i64) (.pair (.int .i64) (.pair (.pair (.int .i64) (.pair (.int .i64) (.pair (.int .i64) .str))) (.pair (.pair (.int .i64) (.pair (.int .i64) (.pair (.int .i64) (.pair (.int .i64) (.pair (.int .i64) (.sl false (.int .i64))))))) (.pair (.int .i64) (.pair (.int .i64) (.pair (.int .i64) (.sl false (.pair (.int .i64) (.pair (.int .i64) (.pair (.int .i64) .str))))))))))))) (.sl false (.pair (.int .i64) (.pair (.pair (.int .i64) (.sl false (.int .i64))) (.pair (.pair (.int .i64) (.pair (.int .i64) (.pair (.int .i64) .str))) (.sl false (.int .i64)))))))))] [] [.cell .bool] []
noncomputable def fn_laws_FnExactSafeKept : TFn := ⟨4, [.agg (.pair (.sl false (.pair (.int .i64) (.sl false (.int .i64)))) (.pair (.sl false (.pair (.int .i64) (.pair .bool (.pair (.pair (.int .i64) (.pair (.pair (.int .i64) (.sl false (.int .i64))) (.pair (.sl false (.pair (.int .i64) (.pair (.int .i64) (.pair (.int .i64) .str)))) (.pair (.sl false (.int .i64)) (.pair (.sl false .str) (.pair (.int .i64) (.pair (.int .i64) (.pair (.int .i64) (.pair (.int .i64) (.pair (.int .i64) (.pair (.int .i64) (.pair (.int .i64) (.pair (.int .i64) (.pair (.int .i64) (.sl false (.int .i64)))))))))))))))) (.pair (.int .i64) (.pair (.int .i64) (.pair (.pair (.int .i64) (.sl false (.int .i64))) (.pair (.sl false (.pair (.int .i64) (.pair (.int .i64) (.pair (.int .i64) (.sl false (.pair (.int .i64) (.pair (.int .i64) (.pair (.int .i64) .str)))))))) (.sl false (.pair (.int .i64) (.pair (.pair (.int .i64) (.sl false (.int .i64))) (.pair (.pair (.int .i64) (.pair (.int .i64) (.pair (.int .i64) .str))) (.sl false (.int .i64)))))))))))))) (.pair (.sl false (.pair (.int .i64) (.pair (.int .i64) (.pair (.int .i64) (.pair (.pair (.int .i64) (.pair (.int .i64) (.pair (.int .i64) .str))) (.pair (.pair (.int .i64) (.pair (.int .i64) (.pair (.int .i64) (.pair (.int .i64) (.pair (.int .i64) (.sl false (.int .i64))))))) (.pair (.int .i64) (.pair (.int .i64) (.pair (.int .i64) (.sl false (.pair (.int .i64) (.pair (.int .i64) (.pair (.int .i64) .str))))))))))))) (.sl false (.pair (.int .i64) (.pair (.pair (.int .i64) (.sl false (.int .i64))) (.pair (.pair (.int .i64) (.pair (.int .i64) (.pair (.int .i64) .str))) (.sl false (.int .i64)))))))))], [], [.cell .bool], [], T_laws_FnExactSafeKept⟩
theorem ok_laws_FnExactSafeKept : FnOk Try.prog fn_laws_FnExactSafeKept := evF_ok mixed (allOk_cons ok_laws_szWorld (allOk_cons ok_laws_toWorld (allOk_cons ok_spec_SafeKept (allOk_cons ok_impl_SafeKept (allOk_cons ok_laws_eqWorld allOk_nil))))) m_laws_FnExactSafeKept (by decide)


end Xs
end Go.Proofs.Ytkjpdhdmjjepfaa
