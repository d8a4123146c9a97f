/- The typed code of the functions, printed by program. -/
import Derived.Test.YtkjpdhdmjjepfaaGreatXOneHeardq1
namespace Go.Proofs.YtkjpdhdmjjepfaaGreat
open Go Vm
namespace Xs
def F_spec_l01In : TF := ⟨(.seq (.reg none [.p (.mv 6 (.c (.bool false))) .unit])
 (.seq (.reg none [.p (.mv 7 (.t 0)) .unit,
  .p (.mv 8 (.t 1)) .unit,
  .p (.bin 9 false .geq (.t 7) (.t 8)) .unit,
  .p (.mv 10 (.t 9)) .unit,
  .g 10 true (some 11) (.mv 11 (.t 0)) .unit,
  .g 10 true (some 12) (.mv 12 (.t 2)) .unit,
  .g 10 true (some 13) (.bin 13 false .leq (.t 11) (.t 12)) .unit,
  .p (.pick 14 (.t 10) (.t 13) (.c (.bool false))) .unit,
  .p (.mv 6 (.t 14)) .unit])
 .ret)),
 15, 3, [.t 6]⟩
theorem m_spec_l01In : mH Tryz.prog 20 [] = some (F_spec_l01In.code.x, F_spec_l01In.N, F_spec_l01In.np, F_spec_l01In.res) := by kernel_rfl
noncomputable def T_spec_l01In : (Int) × (Int) × Int → Option (Bool) := evF [] F_spec_l01In [.cell (.int .i64), .cell (.int .i64), .cell (.int .i64)] [] [.cell .bool] []
noncomputable def fn_spec_l01In : TFn := ⟨20, [.cell (.int .i64), .cell (.int .i64), .cell (.int .i64)], [], [.cell .bool], [], T_spec_l01In⟩
theorem ok_spec_l01In : FnOk Tryz.prog fn_spec_l01In := evF_ok mixed allOk_nil m_spec_l01In (by decide)
def F_spec_Heard : TF := ⟨(.seq (.reg none [.p (.box 2 (.t 0)) .unit,
  .p (.mvN 4 1) .unit])
 (.seq (.seq (.reg none [.p (.mv 6 (.t 1)) .unit,
  .p (.fadr 7 (.t 2) 4) .unit,
  .p (.load 8 (.t 7) 1 false) .unit,
  .p (.lenB 9 (.t 8)) .unit,
  .p (.callB 10 n_spec_l01In [((.t 6), 0), ((.c (.int .i64 1)), 0), ((.t 9), 0)]) .unit,
  .p (.un 11 .not (.t 10)) .unit])
 (.cond (.t 11) (.seq (.reg none [.p (.bldS 12 0 [(.lit (.string (ba [])))] []) .str,
  .p (.mvT 4 12) .unit])
 .ret) .skip))
 (.seq (.reg none [.p (.fadr 13 (.t 2) 4) .unit,
  .p (.load 14 (.t 13) 1 false) .unit,
  .p (.mv 15 (.t 1)) .unit,
  .p (.bin 16 false .sub (.t 15) (.c (.int .i64 1))) .unit,
  .p (.iadr 17 11 (.t 14) (.t 16)) .unit,
  .p (.load 18 (.t 17) 11 true) .unit,
  .p (.alloc 5 [(.lit (.int .i64 0)), (.lit (.string (ba []))), (.lit (.string (ba []))), (.lit (.bool false)), (.lit (.bool false)), (.sl true 1 []), (.lit (.string (ba []))), (.sl true 1 []), (.lit (.bool false)), (.lit (.string (ba []))), (.sl true 1 [])]) .unit,
  .p (.store (.t 5) (.t 18) 11) .unit])
 (.seq (.reg (some [[], [], [1], [0, 2], [], [4], [5], [3, 6, 3], [7, 7, 0, 1, 2, 3, 4, 5, 6, 7]]) [.p (.bldS 19 0 [(.lit (.string (ba [])))] []) .str,
  .p (.fadr 20 (.t 5) 10) .unit,
  .p (.load 21 (.t 20) 1 false) .unit,
  .p (.app 22 1 16 (.t 19) (.t 21)) .str,
  .p (.fadr 23 (.t 5) 6) .unit,
  .p (.fadr 24 (.t 23) 1) .unit,
  .p (.load 25 (.t 24) 1 false) .unit,
  .p (.app 26 1 16 (.t 22) (.t 25)) .str,
  .p (.mvT 4 26) .unit])
 .ret)))),
 27, 2, [.t 4]⟩
theorem m_spec_Heard : mH Tryz.prog 10 [(2, 1, .t), (4, 8, .t)] = some (F_spec_Heard.code.x, F_spec_Heard.N, F_spec_Heard.np, F_spec_Heard.res) := by kernel_rfl
noncomputable def T_spec_Heard : ((List (Int × List (Int)) × List (Int × Bool × (Int × (Int × List (Int)) × List (Int × Int × Int × List UInt8) × List (Int) × List (List UInt8) × Int × Int × Int × Int × Int × Int × Int × Int × Int × List (Int)) × Int × Int × (Int × List (Int)) × List (Int × Int × Int × List (Int × Int × Int × List UInt8)) × List (Int × (Int × List (Int)) × (Int × Int × Int × List UInt8) × List (Int))) × List (Int × Int × Int × (Int × Int × Int × List UInt8) × (Int × Int × Int × Int × Int × List (Int)) × Int × Int × Int × List (Int × Int × Int × List UInt8)) × List (Int × (Int × List (Int)) × (Int × Int × Int × List UInt8) × List (Int))) × List ((Int × List UInt8 × (List UInt8 × Bool) × Bool × List (List UInt8)) × (List UInt8 × List (List UInt8) × Bool) × List UInt8 × List (List UInt8)) × List (List (List UInt8 × List (List UInt8))) × List (Int)) × Int → Option (List (List UInt8)) := evF [fn_spec_l01In] F_spec_Heard [.agg (.pair (.pair (.sl false (.pair (.int .i64) (.sl false (.int .i64)))) (.pair (.sl false (.pair (.int .i64) (.pair .bool (.pair (.pair (.int .i64) (.pair (.pair (.int .i64) (.sl false (.int .i64))) (.pair (.sl false (.pair (.int .i64) (.pair (.int .i64) (.pair (.int .i64) .str)))) (.pair (.sl false (.int .i64)) (.pair (.sl false .str) (.pair (.int .i64) (.pair (.int .i64) (.pair (.int .i64) (.pair (.int .i64) (.pair (.int .i64) (.pair (.int .i64) (.pair (.int .i64) (.pair (.int .i64) (.pair (.int .i64) (.sl false (.int .i64)))))))))))))))) (.pair (.int .i64) (.pair (.int .i64) (.pair (.pair (.int .i64) (.sl false (.int .i64))) (.pair (.sl false (.pair (.int .i64) (.pair (.int .i64) (.pair (.int .i64) (.sl false (.pair (.int .i64) (.pair (.int .i64) (.pair (.int .i64) .str)))))))) (.sl false (.pair (.int .i64) (.pair (.pair (.int .i64) (.sl false (.int .i64))) (.pair (.pair (.int .i64) (.pair (.int .i64) (.pair (.int .i64) .str))) (.sl false (.int .i64)))))))))))))) (.pair (.sl false (.pair (.int .i64) (.pair (.int .i64) (.pair (.int .i64) (.pair (.pair (.int .i64) (.pair (.int .i64) (.pair (.int .i64) .str))) (.pair (.pair (.int .i64) (.pair (.int .i64) (.pair (.int .i64) (.pair (.int .i64) (.pair (.int .i64) (.sl false (.int .i64))))))) (.pair (.int .i64) (.pair (.int .i64) (.pair (.int .i64) (.sl false (.pair (.int .i64) (.pair (.int .i64) (.pair (.int .i64) .str))))))))))))) (.sl false (.pair (.int .i64) (.pair (.pair (.int .i64) (.sl false (.int .i64))) (.pair (.pair (.int .i64) (.pair (.int .i64) (.pair (.int .i64) .str))) (.sl false (.int .i64))))))))) (.pair (.sl false (.pair (.pair (.int .i64) (.pair .str (.pair (.pair .str .bool) (.pair .bool (.sl false .str))))) (.pair (.pair .str (.pair (.sl false .str) .bool)) (.pair .str (.sl false .str))))) (.pair (.sl false (.sl false (.pair .str (.sl false .str)))) (.sl false (.int .i64))))), .cell (.int .i64)] [] [.cell (.sl true .str)] []
noncomputable def fn_spec_Heard : TFn := ⟨10, [.agg (.pair (.pair (.sl false (.pair (.int .i64) (.sl false (.int .i64)))) (.pair (.sl false (.pair (.int .i64) (.pair .bool (.pair (.pair (.int .i64) (.pair (.pair (.int .i64) (.sl false (.int .i64))) (.pair (.sl false (.pair (.int .i64) (.pair (.int .i64) (.pair (.int .i64) .str)))) (.pair (.sl false (.int .i64)) (.pair (.sl false .str) (.pair (.int .i64) (.pair (.int .i64) (.pair (.int .i64) (.pair (.int .i64) (.pair (.int .i64) (.pair (.int .i64) (.pair (.int .i64) (.pair (.int .i64) (.pair (.int .i64) (.sl false (.int .i64)))))))))))))))) (.pair (.int .i64) (.pair (.int .i64) (.pair (.pair (.int .i64) (.sl false (.int .i64))) (.pair (.sl false (.pair (.int .i64) (.pair (.int .i64) (.pair (.int .i64) (.sl false (.pair (.int .i64) (.pair (.int .i64) (.pair (.int .i64) .str)))))))) (.sl false (.pair (.int .i64) (.pair (.pair (.int .i64) (.sl false (.int .i64))) (.pair (.pair (.int .i64) (.pair (.int .i64) (.pair (.int .i64) .str))) (.sl false (.int .i64)))))))))))))) (.pair (.sl false (.pair (.int .i64) (.pair (.int .i64) (.pair (.int .i64) (.pair (.pair (.int .i64) (.pair (.int .i64) (.pair (.int .i64) .str))) (.pair (.pair (.int .i64) (.pair (.int .i64) (.pair (.int .i64) (.pair (.int .i64) (.pair (.int .i64) (.sl false (.int .i64))))))) (.pair (.int .i64) (.pair (.int .i64) (.pair (.int .i64) (.sl false (.pair (.int .i64) (.pair (.int .i64) (.pair (.int .i64) .str))))))))))))) (.sl false (.pair (.int .i64) (.pair (.pair (.int .i64) (.sl false (.int .i64))) (.pair (.pair (.int .i64) (.pair (.int .i64) (.pair (.int .i64) .str))) (.sl false (.int .i64))))))))) (.pair (.sl false (.pair (.pair (.int .i64) (.pair .str (.pair (.pair .str .bool) (.pair .bool (.sl false .str))))) (.pair (.pair .str (.pair (.sl false .str) .bool)) (.pair .str (.sl false .str))))) (.pair (.sl false (.sl false (.pair .str (.sl false .str)))) (.sl false (.int .i64))))), .cell (.int .i64)], [], [.cell (.sl true .str)], [], T_spec_Heard⟩
theorem ok_spec_Heard : FnOk Tryz.prog fn_spec_Heard := evF_ok mixed (allOk_cons ok_spec_l01In allOk_nil) m_spec_Heard (by decide)
def B_spec_l21Texts_1 : TC := (.seq (.seq (.reg none [.p (.mv 6 (.t 4)) .unit,
  .p (.mv 7 (.t 0)) .unit,
  .p (.lenB 8 (.t 7)) .unit,
  .p (.bin 9 false .lss (.t 6) (.t 8)) .unit])
 (.cond (.t 9) .skip (.exit 0)))
 (.seq (.join ⟨[(0, true), (3, false), (4, false)], [.cell (.sl false (.pair (.int .i64) (.pair (.pair (.int .i64) (.sl false (.int .i64))) (.pair (.pair (.int .i64) (.pair (.int .i64) (.pair (.int .i64) .str))) (.sl false (.int .i64)))))), .cell (.sl true .str), .cell (.int .i64)]⟩ (.block 1 (.seq (.reg none [.p (.mv 12 (.t 0)) .unit,
  .p (.mv 13 (.t 4)) .unit,
  .p (.iadr 14 8 (.t 12) (.t 13)) .unit,
  .p (.fadr 15 (.t 14) 0) .unit,
  .p (.load 16 (.t 15) 1 false) .unit,
  .p (.bin 17 false .eql (.t 16) (.c (.int .i64 1))) .unit])
 (.cond (.t 17) (.reg none [.p (.mvT 18 3) .unit,
  .p (.mv 19 (.t 0)) .unit,
  .p (.mv 20 (.t 4)) .unit,
  .p (.iadr 21 8 (.t 19) (.t 20)) .unit,
  .p (.fadr 22 (.t 21) 3) .unit,
  .p (.fadr 23 (.t 22) 3) .unit,
  .p (.load 24 (.t 23) 1 false) .unit,
  .p (.bldS 25 1 [(.lit (.string (ba [])))] [⟨0, 1, (.t 24)⟩]) .str,
  .p (.app 26 1 16 (.t 18) (.t 25)) .str,
  .p (.mvT 3 26) .unit]) .skip))))
 (.reg none [.p (.mv 10 (.t 4)) .unit,
  .p (.bin 11 false .add (.t 10) (.c (.int .i64 1))) .unit,
  .p (.mv 4 (.t 11)) .unit])))
noncomputable def L_spec_l21Texts_1 : Nat → (List (Int × (Int × List (Int)) × (Int × Int × Int × List UInt8) × List (Int))) × (List (List UInt8)) × Int → Option ((List (List UInt8)) ⊕ (List (List UInt8))) := evL [] (finT [.t 2] [] [.cell (.sl true .str)]) 0 ⟨[(0, true), (3, false), (4, false)], [.cell (.sl false (.pair (.int .i64) (.pair (.pair (.int .i64) (.sl false (.int .i64))) (.pair (.pair (.int .i64) (.pair (.int .i64) (.pair (.int .i64) .str))) (.sl false (.int .i64)))))), .cell (.sl true .str), .cell (.int .i64)]⟩ ⟨[(3, false)], [.cell (.sl true .str)]⟩ B_spec_l21Texts_1
def F_spec_l21Texts : TF := ⟨(.seq (.reg none [.p (.mvN 2 1) .unit])
 (.seq (.reg none [.p (.bldS 5 0 [(.lit (.string (ba [])))] []) .str,
  .p (.mvT 3 5) .unit])
 (.seq (.seq (.reg none [.p (.mv 4 (.c (.int .i64 0))) .unit])
 (.jl 0 ⟨[(0, true), (3, false), (4, false)], [.cell (.sl false (.pair (.int .i64) (.pair (.pair (.int .i64) (.sl false (.int .i64))) (.pair (.pair (.int .i64) (.pair (.int .i64) (.pair (.int .i64) .str))) (.sl false (.int .i64)))))), .cell (.sl true .str), .cell (.int .i64)]⟩ ⟨[(3, false)], [.cell (.sl true .str)]⟩ B_spec_l21Texts_1))
 (.seq (.reg none [.p (.mvT 27 3) .unit,
  .p (.mvT 2 27) .unit])
 .ret)))),
 28, 1, [.t 2]⟩
theorem m_spec_l21Texts : mH Tryz.prog 22 [(1, 1, .t), (6, 0, .t), (6, 9, .t), (7, 0, .t), (7, 1, .t)] = some (F_spec_l21Texts.code.x, F_spec_l21Texts.N, F_spec_l21Texts.np, F_spec_l21Texts.res) := by kernel_rfl
noncomputable def T_spec_l21Texts : List (Int × (Int × List (Int)) × (Int × Int × Int × List UInt8) × List (Int)) → Option (List (List UInt8)) := evF [] F_spec_l21Texts [.cell (.sl false (.pair (.int .i64) (.pair (.pair (.int .i64) (.sl false (.int .i64))) (.pair (.pair (.int .i64) (.pair (.int .i64) (.pair (.int .i64) .str))) (.sl false (.int .i64))))))] [] [.cell (.sl true .str)] []
noncomputable def fn_spec_l21Texts : TFn := ⟨22, [.cell (.sl false (.pair (.int .i64) (.pair (.pair (.int .i64) (.sl false (.int .i64))) (.pair (.pair (.int .i64) (.pair (.int .i64) (.pair (.int .i64) .str))) (.sl false (.int .i64))))))], [], [.cell (.sl true .str)], [], T_spec_l21Texts⟩
theorem ok_spec_l21Texts : FnOk Tryz.prog fn_spec_l21Texts := evF_ok mixed allOk_nil m_spec_l21Texts (by decide)
def B_spec_l21Count_1 : TC := (.seq (.seq (.reg none [.p (.mv 7 (.t 6)) .unit,
  .p (.mv 8 (.t 0)) .unit,
  .p (.lenB 9 (.t 8)) .unit,
  .p (.bin 10 false .lss (.t 7) (.t 9)) .unit])
 (.cond (.t 10) .skip (.exit 0)))
 (.seq (.join ⟨[(0, true), (1, true), (5, false), (6, false)], [.cell (.sl false .str), .cell .str, .cell (.int .i64), .cell (.int .i64)]⟩ (.block 1 (.seq (.reg none [.p (.mv 13 (.t 0)) .unit,
  .p (.mv 14 (.t 6)) .unit,
  .p (.iadr 15 1 (.t 13) (.t 14)) .unit,
  .p (.load 16 (.t 15) 1 false) .unit,
  .p (.mv 17 (.t 1)) .unit,
  .p (.bin 18 false .eql (.t 16) (.t 17)) .unit])
 (.cond (.t 18) (.reg none [.p (.mv 19 (.t 5)) .unit,
  .p (.bin 20 false .add (.t 19) (.c (.int .i64 1))) .unit,
  .p (.mv 5 (.t 20)) .unit]) .skip))))
 (.reg none [.p (.mv 11 (.t 6)) .unit,
  .p (.bin 12 false .add (.t 11) (.c (.int .i64 1))) .unit,
  .p (.mv 6 (.t 12)) .unit])))
noncomputable def L_spec_l21Count_1 : Nat → (List (List UInt8)) × (List UInt8) × (Int) × Int → Option ((Int) ⊕ (Int)) := evL [] (finT [.t 4] [] [.cell (.int .i64)]) 0 ⟨[(0, true), (1, true), (5, false), (6, false)], [.cell (.sl false .str), .cell .str, .cell (.int .i64), .cell (.int .i64)]⟩ ⟨[(5, false)], [.cell (.int .i64)]⟩ B_spec_l21Count_1
def F_spec_l21Count : TF := ⟨(.seq (.reg none [.p (.mv 4 (.c (.int .i64 0))) .unit])
 (.seq (.reg none [.p (.mv 5 (.c (.int .i64 0))) .unit])
 (.seq (.seq (.reg none [.p (.mv 6 (.c (.int .i64 0))) .unit])
 (.jl 0 ⟨[(0, true), (1, true), (5, false), (6, false)], [.cell (.sl false .str), .cell .str, .cell (.int .i64), .cell (.int .i64)]⟩ ⟨[(5, false)], [.cell (.int .i64)]⟩ B_spec_l21Count_1))
 (.seq (.reg none [.p (.mv 21 (.t 5)) .unit,
  .p (.mv 4 (.t 21)) .unit])
 .ret)))),
 22, 2, [.t 4]⟩
theorem m_spec_l21Count : mH Tryz.prog 48 [] = some (F_spec_l21Count.code.x, F_spec_l21Count.N, F_spec_l21Count.np, F_spec_l21Count.res) := by kernel_rfl
noncomputable def T_spec_l21Count : (List (List UInt8)) × List UInt8 → Option (Int) := evF [] F_spec_l21Count [.cell (.sl false .str), .cell .str] [] [.cell (.int .i64)] []
noncomputable def fn_spec_l21Count : TFn := ⟨48, [.cell (.sl false .str), .cell .str], [], [.cell (.int .i64)], [], T_spec_l21Count⟩
theorem ok_spec_l21Count : FnOk Tryz.prog fn_spec_l21Count := evF_ok mixed allOk_nil m_spec_l21Count (by decide)
def B_spec_l21Place_1 : TC := (.seq (.seq (.reg none [.p (.mv 6 (.t 5)) .unit,
  .p (.mv 7 (.t 0)) .unit,
  .p (.lenB 8 (.t 7)) .unit,
  .p (.bin 9 false .lss (.t 6) (.t 8)) .unit])
 (.cond (.t 9) .skip (.exit 0)))
 (.seq (.block 1 (.seq (.reg none [.p (.mv 12 (.t 0)) .unit,
  .p (.mv 13 (.t 5)) .unit,
  .p (.iadr 14 1 (.t 12) (.t 13)) .unit,
  .p (.load 15 (.t 14) 1 false) .unit,
  .p (.mv 16 (.t 1)) .unit,
  .p (.bin 17 false .eql (.t 15) (.t 16)) .unit])
 (.cond (.t 17) (.seq (.reg none [.p (.mv 18 (.t 5)) .unit,
  .p (.mv 4 (.t 18)) .unit])
 .ret) .skip)))
 (.reg none [.p (.mv 10 (.t 5)) .unit,
  .p (.bin 11 false .add (.t 10) (.c (.int .i64 1))) .unit,
  .p (.mv 5 (.t 11)) .unit])))
noncomputable def L_spec_l21Place_1 : Nat → (List (List UInt8)) × (List UInt8) × Int → Option ((Unit) ⊕ (Int)) := evL [] (finT [.t 4] [] [.cell (.int .i64)]) 0 ⟨[(0, true), (1, true), (5, false)], [.cell (.sl false .str), .cell .str, .cell (.int .i64)]⟩ ⟨[], []⟩ B_spec_l21Place_1
def F_spec_l21Place : TF := ⟨(.seq (.reg none [.p (.mv 4 (.c (.int .i64 0))) .unit])
 (.seq (.seq (.reg none [.p (.mv 5 (.c (.int .i64 0))) .unit])
 (.jl 0 ⟨[(0, true), (1, true), (5, false)], [.cell (.sl false .str), .cell .str, .cell (.int .i64)]⟩ ⟨[], []⟩ B_spec_l21Place_1))
 (.seq (.reg none [.p (.mv 4 (.c (.int .i64 (-1)))) .unit])
 .ret))),
 19, 2, [.t 4]⟩
theorem m_spec_l21Place : mH Tryz.prog 49 [] = some (F_spec_l21Place.code.x, F_spec_l21Place.N, F_spec_l21Place.np, F_spec_l21Place.res) := by kernel_rfl
noncomputable def T_spec_l21Place : (List (List UInt8)) × List UInt8 → Option (Int) := evF [] F_spec_l21Place [.cell (.sl false .str), .cell .str] [] [.cell (.int .i64)] []
noncomputable def fn_spec_l21Place : TFn := ⟨49, [.cell (.sl false .str), .cell .str], [], [.cell (.int .i64)], [], T_spec_l21Place⟩
theorem ok_spec_l21Place : FnOk Tryz.prog fn_spec_l21Place := evF_ok mixed allOk_nil m_spec_l21Place (by decide)
def B_spec_l21Pair_1 : TC := (.seq (.seq (.reg none [.p (.mv 18 (.t 8)) .unit,
  .p (.mv 19 (.t 7)) .unit,
  .p (.bin 20 false .lss (.t 18) (.t 19)) .unit])
 (.cond (.t 20) .skip (.exit 2)))
 (.seq (.block 3 (.seq (.reg none [.p (.mv 23 (.t 0)) .unit,
  .p (.mv 24 (.t 8)) .unit,
  .p (.iadr 25 1 (.t 23) (.t 24)) .unit,
  .p (.load 26 (.t 25) 1 false) .unit,
  .p (.mv 9 (.t 26)) .unit])
 (.seq (.reg none [.p (.mv 27 (.t 0)) .unit,
  .p (.mv 28 (.t 7)) .unit,
  .p (.iadr 29 1 (.t 27) (.t 28)) .unit,
  .p (.load 30 (.t 29) 1 false) .unit,
  .p (.mv 10 (.t 30)) .unit])
 (.seq (.join ⟨[(0, true), (1, true), (2, true), (7, false), (8, false), (9, false), (10, false), (11, false)], [.cell (.sl false .str), .cell (.sl false .str), .cell (.sl false .str), .cell (.int .i64), .cell (.int .i64), .cell .str, .cell .str, .cell .bool]⟩ (.reg none [.p (.mv 31 (.t 0)) .unit,
  .p (.mv 32 (.t 9)) .unit,
  .p (.callB 33 n_spec_l21Count [((.t 31), 0), ((.t 32), 0)]) .unit,
  .p (.bin 34 false .eql (.t 33) (.c (.int .i64 1))) .unit,
  .p (.mv 35 (.t 34)) .unit,
  .g 35 true (some 36) (.mv 36 (.t 0)) .unit,
  .g 35 true (some 37) (.mv 37 (.t 10)) .unit,
  .g 35 true (some 38) (.callB 38 n_spec_l21Count [((.t 36), 0), ((.t 37), 0)]) .unit,
  .g 35 true (some 39) (.bin 39 false .eql (.t 38) (.c (.int .i64 1))) .unit,
  .p (.pick 40 (.t 35) (.t 39) (.c (.bool false))) .unit,
  .p (.mv 41 (.t 40)) .unit,
  .g 41 true (some 42) (.mv 42 (.t 1)) .unit,
  .g 41 true (some 43) (.mv 43 (.t 9)) .unit,
  .g 41 true (some 44) (.callB 44 n_spec_l21Count [((.t 42), 0), ((.t 43), 0)]) .unit,
  .g 41 true (some 45) (.bin 45 false .eql (.t 44) (.c (.int .i64 1))) .unit,
  .p (.pick 46 (.t 41) (.t 45) (.c (.bool false))) .unit,
  .p (.mv 47 (.t 46)) .unit,
  .g 47 true (some 48) (.mv 48 (.t 1)) .unit,
  .g 47 true (some 49) (.mv 49 (.t 10)) .unit,
  .g 47 true (some 50) (.callB 50 n_spec_l21Count [((.t 48), 0), ((.t 49), 0)]) .unit,
  .g 47 true (some 51) (.bin 51 false .eql (.t 50) (.c (.int .i64 1))) .unit,
  .p (.pick 52 (.t 47) (.t 51) (.c (.bool false))) .unit,
  .p (.mv 53 (.t 52)) .unit,
  .g 53 true (some 54) (.mv 54 (.t 2)) .unit,
  .g 53 true (some 55) (.mv 55 (.t 9)) .unit,
  .g 53 true (some 56) (.callB 56 n_spec_l21Count [((.t 54), 0), ((.t 55), 0)]) .unit,
  .g 53 true (some 57) (.bin 57 false .eql (.t 56) (.c (.int .i64 1))) .unit,
  .p (.pick 58 (.t 53) (.t 57) (.c (.bool false))) .unit,
  .p (.mv 59 (.t 58)) .unit,
  .g 59 true (some 60) (.mv 60 (.t 2)) .unit,
  .g 59 true (some 61) (.mv 61 (.t 10)) .unit,
  .g 59 true (some 62) (.callB 62 n_spec_l21Count [((.t 60), 0), ((.t 61), 0)]) .unit,
  .g 59 true (some 63) (.bin 63 false .eql (.t 62) (.c (.int .i64 1))) .unit,
  .p (.pick 64 (.t 59) (.t 63) (.c (.bool false))) .unit,
  .p (.mv 11 (.t 64)) .unit]))
 (.seq (.join ⟨[(0, true), (1, true), (2, true), (7, false), (8, false), (74, false)], [.cell (.sl false .str), .cell (.sl false .str), .cell (.sl false .str), .cell (.int .i64), .cell (.int .i64), .cell .bool]⟩ (.reg none [.p (.mv 65 (.t 11)) .unit,
  .p (.mv 66 (.t 65)) .unit,
  .g 66 true (some 67) (.mv 67 (.t 1)) .unit,
  .g 66 true (some 68) (.mv 68 (.t 9)) .unit,
  .g 66 true (some 69) (.callB 69 n_spec_l21Place [((.t 67), 0), ((.t 68), 0)]) .unit,
  .g 66 true (some 70) (.mv 70 (.t 1)) .unit,
  .g 66 true (some 71) (.mv 71 (.t 10)) .unit,
  .g 66 true (some 72) (.callB 72 n_spec_l21Place [((.t 70), 0), ((.t 71), 0)]) .unit,
  .g 66 true (some 73) (.bin 73 false .gtr (.t 69) (.t 72)) .unit,
  .p (.pick 74 (.t 66) (.t 73) (.c (.bool false))) .unit]))
 (.cond (.t 74) (.seq (.reg none [.p (.mv 6 (.c (.bool false))) .unit])
 .ret) .skip))))))
 (.reg none [.p (.mv 21 (.t 8)) .unit,
  .p (.bin 22 false .add (.t 21) (.c (.int .i64 1))) .unit,
  .p (.mv 8 (.t 22)) .unit])))
noncomputable def L_spec_l21Pair_1 : Nat → (List (List UInt8)) × (List (List UInt8)) × (List (List UInt8)) × (Int) × Int → Option (((List (List UInt8)) × (List (List UInt8)) × (List (List UInt8)) × Int) ⊕ (Bool)) := evL [fn_spec_l21Count, fn_spec_l21Place] (finT [.t 6] [] [.cell .bool]) 2 ⟨[(0, true), (1, true), (2, true), (7, false), (8, false)], [.cell (.sl false .str), .cell (.sl false .str), .cell (.sl false .str), .cell (.int .i64), .cell (.int .i64)]⟩ ⟨[(0, true), (1, true), (2, true), (7, false)], [.cell (.sl false .str), .cell (.sl false .str), .cell (.sl false .str), .cell (.int .i64)]⟩ B_spec_l21Pair_1
def B_spec_l21Pair_2 : TC := (.seq (.seq (.reg none [.p (.mv 12 (.t 7)) .unit,
  .p (.mv 13 (.t 0)) .unit,
  .p (.lenB 14 (.t 13)) .unit,
  .p (.bin 15 false .lss (.t 12) (.t 14)) .unit])
 (.cond (.t 15) .skip (.exit 0)))
 (.seq (.block 1 (.seq (.reg none [.p (.mv 8 (.c (.int .i64 0))) .unit])
 (.jl 2 ⟨[(0, true), (1, true), (2, true), (7, false), (8, false)], [.cell (.sl false .str), .cell (.sl false .str), .cell (.sl false .str), .cell (.int .i64), .cell (.int .i64)]⟩ ⟨[(0, true), (1, true), (2, true), (7, false)], [.cell (.sl false .str), .cell (.sl false .str), .cell (.sl false .str), .cell (.int .i64)]⟩ B_spec_l21Pair_1)))
 (.reg none [.p (.mv 16 (.t 7)) .unit,
  .p (.bin 17 false .add (.t 16) (.c (.int .i64 1))) .unit,
  .p (.mv 7 (.t 17)) .unit])))
noncomputable def L_spec_l21Pair_2 : Nat → (List (List UInt8)) × (List (List UInt8)) × (List (List UInt8)) × Int → Option ((Unit) ⊕ (Bool)) := evL [fn_spec_l21Count, fn_spec_l21Place] (finT [.t 6] [] [.cell .bool]) 0 ⟨[(0, true), (1, true), (2, true), (7, false)], [.cell (.sl false .str), .cell (.sl false .str), .cell (.sl false .str), .cell (.int .i64)]⟩ ⟨[], []⟩ B_spec_l21Pair_2
def F_spec_l21Pair : TF := ⟨(.seq (.reg none [.p (.mv 6 (.c (.bool false))) .unit])
 (.seq (.seq (.reg none [.p (.mv 7 (.c (.int .i64 0))) .unit])
 (.jl 0 ⟨[(0, true), (1, true), (2, true), (7, false)], [.cell (.sl false .str), .cell (.sl false .str), .cell (.sl false .str), .cell (.int .i64)]⟩ ⟨[], []⟩ B_spec_l21Pair_2))
 (.seq (.reg none [.p (.mv 6 (.c (.bool true))) .unit])
 .ret))),
 75, 3, [.t 6]⟩
theorem m_spec_l21Pair : mH Tryz.prog 21 [] = some (F_spec_l21Pair.code.x, F_spec_l21Pair.N, F_spec_l21Pair.np, F_spec_l21Pair.res) := by kernel_rfl
noncomputable def T_spec_l21Pair : (List (List UInt8)) × (List (List UInt8)) × List (List UInt8) → Option (Bool) := evF [fn_spec_l21Count, fn_spec_l21Place] F_spec_l21Pair [.cell (.sl false .str), .cell (.sl false .str), .cell (.sl false .str)] [] [.cell .bool] []
noncomputable def fn_spec_l21Pair : TFn := ⟨21, [.cell (.sl false .str), .cell (.sl false .str), .cell (.sl false .str)], [], [.cell .bool], [], T_spec_l21Pair⟩
theorem ok_spec_l21Pair : FnOk Tryz.prog fn_spec_l21Pair := evF_ok mixed (allOk_cons ok_spec_l21Count (allOk_cons ok_spec_l21Place allOk_nil)) m_spec_l21Pair (by decide)
def B_spec_OneHeard_1 : TC := (.seq (.seq (.reg none [.p (.mv 13 (.t 4)) .unit,
  .p (.mv 14 (.t 3)) .unit,
  .p (.bin 15 false .lss (.t 13) (.t 14)) .unit])
 (.cond (.t 15) .skip (.exit 2)))
 (.seq (.block 3 (.seq (.reg none [.p (.fadr 18 (.t 1) 4) .unit,
  .p (.load 19 (.t 18) 1 false) .unit,
  .p (.mv 20 (.t 3)) .unit,
  .p (.iadr 21 11 (.t 19) (.t 20)) .unit,
  .p (.fadr 22 (.t 21) 0) .unit,
  .p (.fadr 23 (.t 22) 0) .unit,
  .p (.load 24 (.t 23) 1 false) .unit,
  .p (.mv 5 (.t 24)) .unit])
 (.seq (.join ⟨[(1, false), (3, false), (4, false), (62, false)], [.box (.pair (.pair (.sl false (.pair (.int .i64) (.sl false (.int .i64)))) (.pair (.sl false (.pair (.int .i64) (.pair .bool (.pair (.pair (.int .i64) (.pair (.pair (.int .i64) (.sl false (.int .i64))) (.pair (.sl false (.pair (.int .i64) (.pair (.int .i64) (.pair (.int .i64) .str)))) (.pair (.sl false (.int .i64)) (.pair (.sl false .str) (.pair (.int .i64) (.pair (.int .i64) (.pair (.int .i64) (.pair (.int .i64) (.pair (.int .i64) (.pair (.int .i64) (.pair (.int .i64) (.pair (.int .i64) (.pair (.int .i64) (.sl false (.int .i64)))))))))))))))) (.pair (.int .i64) (.pair (.int .i64) (.pair (.pair (.int .i64) (.sl false (.int .i64))) (.pair (.sl false (.pair (.int .i64) (.pair (.int .i64) (.pair (.int .i64) (.sl false (.pair (.int .i64) (.pair (.int .i64) (.pair (.int .i64) .str)))))))) (.sl false (.pair (.int .i64) (.pair (.pair (.int .i64) (.sl false (.int .i64))) (.pair (.pair (.int .i64) (.pair (.int .i64) (.pair (.int .i64) .str))) (.sl false (.int .i64)))))))))))))) (.pair (.sl false (.pair (.int .i64) (.pair (.int .i64) (.pair (.int .i64) (.pair (.pair (.int .i64) (.pair (.int .i64) (.pair (.int .i64) .str))) (.pair (.pair (.int .i64) (.pair (.int .i64) (.pair (.int .i64) (.pair (.int .i64) (.pair (.int .i64) (.sl false (.int .i64))))))) (.pair (.int .i64) (.pair (.int .i64) (.pair (.int .i64) (.sl false (.pair (.int .i64) (.pair (.int .i64) (.pair (.int .i64) .str))))))))))))) (.sl false (.pair (.int .i64) (.pair (.pair (.int .i64) (.sl false (.int .i64))) (.pair (.pair (.int .i64) (.pair (.int .i64) (.pair (.int .i64) .str))) (.sl false (.int .i64))))))))) (.pair (.sl false (.pair (.pair (.int .i64) (.pair .str (.pair (.pair .str .bool) (.pair .bool (.sl false .str))))) (.pair (.pair .str (.pair (.sl false .str) .bool)) (.pair .str (.sl false .str))))) (.pair (.sl false (.sl false (.pair .str (.sl false .str)))) (.sl false (.int .i64))))), .cell (.int .i64), .cell (.int .i64), .cell .bool]⟩ (.reg (some [[], [], [1], [], [2, 3], [4], [5], [6], [0, 7], [8], [9], [9], [11, 9], [12, 9], [13, 9], [10, 14, 9, 9], [9, 15], [16, 15], [17], [17], [19, 17], [18, 20, 17, 17], [17], [17], [23, 17], [22, 24, 21, 17], [17], [26, 17], [27, 17], [17], [29, 17], [28, 30, 17], [31, 17], [32, 17], [33, 25, 17], [21, 25, 34, 34, 17], [35, 17], [17, 36]]) [.p (.mv 25 (.t 5)) .unit,
  .p (.fadr 26 (.t 1) 4) .unit,
  .p (.load 27 (.t 26) 1 false) .unit,
  .p (.mv 28 (.t 4)) .unit,
  .p (.iadr 29 11 (.t 27) (.t 28)) .unit,
  .p (.fadr 30 (.t 29) 0) .unit,
  .p (.fadr 31 (.t 30) 0) .unit,
  .p (.load 32 (.t 31) 1 false) .unit,
  .p (.bin 33 false .eql (.t 25) (.t 32)) .unit,
  .p (.mv 34 (.t 33)) .unit,
  .g 34 true (some 35) (.mv 35 (.t 5)) .unit,
  .g 34 true (some 36) (.fadr 36 (.t 1) 0) .unit,
  .g 34 true (some 37) (.fadr 37 (.t 36) 1) .unit,
  .g 34 true (some 38) (.load 38 (.t 37) 1 false) .unit,
  .g 34 true (some 39) (.lenB 39 (.t 38)) .unit,
  .g 34 true (some 40) (.callB 40 n_spec_l01In [((.t 35), 0), ((.c (.int .i64 1)), 0), ((.t 39), 0)]) .unit,
  .p (.pick 41 (.t 34) (.t 40) (.c (.bool false))) .unit,
  .p (.mv 42 (.t 41)) .unit,
  .g 42 true (some 43) (.load 43 (.t 1) 7 true) .unit,
  .g 42 true (some 44) (.mv 44 (.t 3)) .unit,
  .g 42 true (some 45) (.bin 45 false .add (.t 44) (.c (.int .i64 1))) .unit,
  .g 42 true (some 46) (.callB 46 n_spec_Heard [((.t 43), 0), ((.t 45), 0)]) .unit,
  .g 42 true (some 47) (.load 47 (.t 1) 7 true) .unit,
  .g 42 true (some 48) (.mv 48 (.t 4)) .unit,
  .g 42 true (some 49) (.bin 49 false .add (.t 48) (.c (.int .i64 1))) .unit,
  .g 42 true (some 50) (.callB 50 n_spec_Heard [((.t 47), 0), ((.t 49), 0)]) .unit,
  .g 42 true (some 51) (.fadr 51 (.t 1) 0) .unit,
  .g 42 true (some 52) (.fadr 52 (.t 51) 1) .unit,
  .g 42 true (some 53) (.load 53 (.t 52) 1 false) .unit,
  .g 42 true (some 54) (.mv 54 (.t 5)) .unit,
  .g 42 true (some 55) (.bin 55 false .sub (.t 54) (.c (.int .i64 1))) .unit,
  .g 42 true (some 56) (.iadr 56 24 (.t 53) (.t 55)) .unit,
  .g 42 true (some 57) (.fadr 57 (.t 56) 23) .unit,
  .g 42 true (some 58) (.load 58 (.t 57) 1 false) .unit,
  .g 42 true (some 59) (.callB 59 n_spec_l21Texts [((.t 58), 0)]) .unit,
  .g 42 true (some 60) (.callB 60 n_spec_l21Pair [((.t 46), 0), ((.t 50), 0), ((.t 59), 0)]) .unit,
  .g 42 true (some 61) (.un 61 .not (.t 60)) .unit,
  .p (.pick 62 (.t 42) (.t 61) (.c (.bool false))) .unit]))
 (.cond (.t 62) (.seq (.reg none [.p (.mv 2 (.c (.bool false))) .unit])
 .ret) .skip))))
 (.reg none [.p (.mv 16 (.t 4)) .unit,
  .p (.bin 17 false .add (.t 16) (.c (.int .i64 1))) .unit,
  .p (.mv 4 (.t 17)) .unit])))
noncomputable def L_spec_OneHeard_1 : Nat → ((List (Int × List (Int)) × List (Int × Bool × (Int × (Int × List (Int)) × List (Int × Int × Int × List UInt8) × List (Int) × List (List UInt8) × Int × Int × Int × Int × Int × Int × Int × Int × Int × List (Int)) × Int × Int × (Int × List (Int)) × List (Int × Int × Int × List (Int × Int × Int × List UInt8)) × List (Int × (Int × List (Int)) × (Int × Int × Int × List UInt8) × List (Int))) × List (Int × Int × Int × (Int × Int × Int × List UInt8) × (Int × Int × Int × Int × Int × List (Int)) × Int × Int × Int × List (Int × Int × Int × List UInt8)) × List (Int × (Int × List (Int)) × (Int × Int × Int × List UInt8) × List (Int))) × List ((Int × List UInt8 × (List UInt8 × Bool) × Bool × List (List UInt8)) × (List UInt8 × List (List UInt8) × Bool) × List UInt8 × List (List UInt8)) × List (List (List UInt8 × List (List UInt8))) × List (Int)) × (Int) × Int → Option ((((List (Int × List (Int)) × List (Int × Bool × (Int × (Int × List (Int)) × List (Int × Int × Int × List UInt8) × List (Int) × List (List UInt8) × Int × Int × Int × Int × Int × Int × Int × Int × Int × List (Int)) × Int × Int × (Int × List (Int)) × List (Int × Int × Int × List (Int × Int × Int × List UInt8)) × List (Int × (Int × List (Int)) × (Int × Int × Int × List UInt8) × List (Int))) × List (Int × Int × Int × (Int × Int × Int × List UInt8) × (Int × Int × Int × Int × Int × List (Int)) × Int × Int × Int × List (Int × Int × Int × List UInt8)) × List (Int × (Int × List (Int)) × (Int × Int × Int × List UInt8) × List (Int))) × List ((Int × List UInt8 × (List UInt8 × Bool) × Bool × List (List UInt8)) × (List UInt8 × List (List UInt8) × Bool) × List UInt8 × List (List UInt8)) × List (List (List UInt8 × List (List UInt8))) × List (Int)) × Int) ⊕ (Bool)) := evL [fn_spec_l01In, fn_spec_Heard, fn_spec_l21Texts, fn_spec_l21Pair] (finT [.t 2] [] [.cell .bool]) 2 ⟨[(1, false), (3, false), (4, false)], [.box (.pair (.pair (.sl false (.pair (.int .i64) (.sl false (.int .i64)))) (.pair (.sl false (.pair (.int .i64) (.pair .bool (.pair (.pair (.int .i64) (.pair (.pair (.int .i64) (.sl false (.int .i64))) (.pair (.sl false (.pair (.int .i64) (.pair (.int .i64) (.pair (.int .i64) .str)))) (.pair (.sl false (.int .i64)) (.pair (.sl false .str) (.pair (.int .i64) (.pair (.int .i64) (.pair (.int .i64) (.pair (.int .i64) (.pair (.int .i64) (.pair (.int .i64) (.pair (.int .i64) (.pair (.int .i64) (.pair (.int .i64) (.sl false (.int .i64)))))))))))))))) (.pair (.int .i64) (.pair (.int .i64) (.pair (.pair (.int .i64) (.sl false (.int .i64))) (.pair (.sl false (.pair (.int .i64) (.pair (.int .i64) (.pair (.int .i64) (.sl false (.pair (.int .i64) (.pair (.int .i64) (.pair (.int .i64) .str)))))))) (.sl false (.pair (.int .i64) (.pair (.pair (.int .i64) (.sl false (.int .i64))) (.pair (.pair (.int .i64) (.pair (.int .i64) (.pair (.int .i64) .str))) (.sl false (.int .i64)))))))))))))) (.pair (.sl false (.pair (.int .i64) (.pair (.int .i64) (.pair (.int .i64) (.pair (.pair (.int .i64) (.pair (.int .i64) (.pair (.int .i64) .str))) (.pair (.pair (.int .i64) (.pair (.int .i64) (.pair (.int .i64) (.pair (.int .i64) (.pair (.int .i64) (.sl false (.int .i64))))))) (.pair (.int .i64) (.pair (.int .i64) (.pair (.int .i64) (.sl false (.pair (.int .i64) (.pair (.int .i64) (.pair (.int .i64) .str))))))))))))) (.sl false (.pair (.int .i64) (.pair (.pair (.int .i64) (.sl false (.int .i64))) (.pair (.pair (.int .i64) (.pair (.int .i64) (.pair (.int .i64) .str))) (.sl false (.int .i64))))))))) (.pair (.sl false (.pair (.pair (.int .i64) (.pair .str (.pair (.pair .str .bool) (.pair .bool (.sl false .str))))) (.pair (.pair .str (.pair (.sl false .str) .bool)) (.pair .str (.sl false .str))))) (.pair (.sl false (.sl false (.pair .str (.sl false .str)))) (.sl false (.int .i64))))), .cell (.int .i64), .cell (.int .i64)]⟩ ⟨[(1, false), (3, false)], [.box (.pair (.pair (.sl false (.pair (.int .i64) (.sl false (.int .i64)))) (.pair (.sl false (.pair (.int .i64) (.pair .bool (.pair (.pair (.int .i64) (.pair (.pair (.int .i64) (.sl false (.int .i64))) (.pair (.sl false (.pair (.int .i64) (.pair (.int .i64) (.pair (.int .i64) .str)))) (.pair (.sl false (.int .i64)) (.pair (.sl false .str) (.pair (.int .i64) (.pair (.int .i64) (.pair (.int .i64) (.pair (.int .i64) (.pair (.int .i64) (.pair (.int .i64) (.pair (.int .i64) (.pair (.int .i64) (.pair (.int .i64) (.sl false (.int .i64)))))))))))))))) (.pair (.int .i64) (.pair (.int .i64) (.pair (.pair (.int .i64) (.sl false (.int .i64))) (.pair (.sl false (.pair (.int .i64) (.pair (.int .i64) (.pair (.int .i64) (.sl false (.pair (.int .i64) (.pair (.int .i64) (.pair (.int .i64) .str)))))))) (.sl false (.pair (.int .i64) (.pair (.pair (.int .i64) (.sl false (.int .i64))) (.pair (.pair (.int .i64) (.pair (.int .i64) (.pair (.int .i64) .str))) (.sl false (.int .i64)))))))))))))) (.pair (.sl false (.pair (.int .i64) (.pair (.int .i64) (.pair (.int .i64) (.pair (.pair (.int .i64) (.pair (.int .i64) (.pair (.int .i64) .str))) (.pair (.pair (.int .i64) (.pair (.int .i64) (.pair (.int .i64) (.pair (.int .i64) (.pair (.int .i64) (.sl false (.int .i64))))))) (.pair (.int .i64) (.pair (.int .i64) (.pair (.int .i64) (.sl false (.pair (.int .i64) (.pair (.int .i64) (.pair (.int .i64) .str))))))))))))) (.sl false (.pair (.int .i64) (.pair (.pair (.int .i64) (.sl false (.int .i64))) (.pair (.pair (.int .i64) (.pair (.int .i64) (.pair (.int .i64) .str))) (.sl false (.int .i64))))))))) (.pair (.sl false (.pair (.pair (.int .i64) (.pair .str (.pair (.pair .str .bool) (.pair .bool (.sl false .str))))) (.pair (.pair .str (.pair (.sl false .str) .bool)) (.pair .str (.sl false .str))))) (.pair (.sl false (.sl false (.pair .str (.sl false .str)))) (.sl false (.int .i64))))), .cell (.int .i64)]⟩ B_spec_OneHeard_1
def B_spec_OneHeard_2 : TC := (.seq (.seq (.reg none [.p (.mv 6 (.t 3)) .unit,
  .p (.fadr 7 (.t 1) 4) .unit,
  .p (.load 8 (.t 7) 1 false) .unit,
  .p (.lenB 9 (.t 8)) .unit,
  .p (.bin 10 false .lss (.t 6) (.t 9)) .unit])
 (.cond (.t 10) .skip (.exit 0)))
 (.seq (.block 1 (.seq (.reg none [.p (.mv 4 (.c (.int .i64 0))) .unit])
 (.jl 2 ⟨[(1, false), (3, false), (4, false)], [.box (.pair (.pair (.sl false (.pair (.int .i64) (.sl false (.int .i64)))) (.pair (.sl false (.pair (.int .i64) (.pair .bool (.pair (.pair (.int .i64) (.pair (.pair (.int .i64) (.sl false (.int .i64))) (.pair (.sl false (.pair (.int .i64) (.pair (.int .i64) (.pair (.int .i64) .str)))) (.pair (.sl false (.int .i64)) (.pair (.sl false .str) (.pair (.int .i64) (.pair (.int .i64) (.pair (.int .i64) (.pair (.int .i64) (.pair (.int .i64) (.pair (.int .i64) (.pair (.int .i64) (.pair (.int .i64) (.pair (.int .i64) (.sl false (.int .i64)))))))))))))))) (.pair (.int .i64) (.pair (.int .i64) (.pair (.pair (.int .i64) (.sl false (.int .i64))) (.pair (.sl false (.pair (.int .i64) (.pair (.int .i64) (.pair (.int .i64) (.sl false (.pair (.int .i64) (.pair (.int .i64) (.pair (.int .i64) .str)))))))) (.sl false (.pair (.int .i64) (.pair (.pair (.int .i64) (.sl false (.int .i64))) (.pair (.pair (.int .i64) (.pair (.int .i64) (.pair (.int .i64) .str))) (.sl false (.int .i64)))))))))))))) (.pair (.sl false (.pair (.int .i64) (.pair (.int .i64) (.pair (.int .i64) (.pair (.pair (.int .i64) (.pair (.int .i64) (.pair (.int .i64) .str))) (.pair (.pair (.int .i64) (.pair (.int .i64) (.pair (.int .i64) (.pair (.int .i64) (.pair (.int .i64) (.sl false (.int .i64))))))) (.pair (.int .i64) (.pair (.int .i64) (.pair (.int .i64) (.sl false (.pair (.int .i64) (.pair (.int .i64) (.pair (.int .i64) .str))))))))))))) (.sl false (.pair (.int .i64) (.pair (.pair (.int .i64) (.sl false (.int .i64))) (.pair (.pair (.int .i64) (.pair (.int .i64) (.pair (.int .i64) .str))) (.sl false (.int .i64))))))))) (.pair (.sl false (.pair (.pair (.int .i64) (.pair .str (.pair (.pair .str .bool) (.pair .bool (.sl false .str))))) (.pair (.pair .str (.pair (.sl false .str) .bool)) (.pair .str (.sl false .str))))) (.pair (.sl false (.sl false (.pair .str (.sl false .str)))) (.sl false (.int .i64))))), .cell (.int .i64), .cell (.int .i64)]⟩ ⟨[(1, false), (3, false)], [.box (.pair (.pair (.sl false (.pair (.int .i64) (.sl false (.int .i64)))) (.pair (.sl false (.pair (.int .i64) (.pair .bool (.pair (.pair (.int .i64) (.pair (.pair (.int .i64) (.sl false (.int .i64))) (.pair (.sl false (.pair (.int .i64) (.pair (.int .i64) (.pair (.int .i64) .str)))) (.pair (.sl false (.int .i64)) (.pair (.sl false .str) (.pair (.int .i64) (.pair (.int .i64) (.pair (.int .i64) (.pair (.int .i64) (.pair (.int .i64) (.pair (.int .i64) (.pair (.int .i64) (.pair (.int .i64) (.pair (.int .i64) (.sl false (.int .i64)))))))))))))))) (.pair (.int .i64) (.pair (.int .i64) (.pair (.pair (.int .i64) (.sl false (.int .i64))) (.pair (.sl false (.pair (.int .i64) (.pair (.int .i64) (.pair (.int .i64) (.sl false (.pair (.int .i64) (.pair (.int .i64) (.pair (.int .i64) .str)))))))) (.sl false (.pair (.int .i64) (.pair (.pair (.int .i64) (.sl false (.int .i64))) (.pair (.pair (.int .i64) (.pair (.int .i64) (.pair (.int .i64) .str))) (.sl false (.int .i64)))))))))))))) (.pair (.sl false (.pair (.int .i64) (.pair (.int .i64) (.pair (.int .i64) (.pair (.pair (.int .i64) (.pair (.int .i64) (.pair (.int .i64) .str))) (.pair (.pair (.int .i64) (.pair (.int .i64) (.pair (.int .i64) (.pair (.int .i64) (.pair (.int .i64) (.sl false (.int .i64))))))) (.pair (.int .i64) (.pair (.int .i64) (.pair (.int .i64) (.sl false (.pair (.int .i64) (.pair (.int .i64) (.pair (.int .i64) .str))))))))))))) (.sl false (.pair (.int .i64) (.pair (.pair (.int .i64) (.sl false (.int .i64))) (.pair (.pair (.int .i64) (.pair (.int .i64) (.pair (.int .i64) .str))) (.sl false (.int .i64))))))))) (.pair (.sl false (.pair (.pair (.int .i64) (.pair .str (.pair (.pair .str .bool) (.pair .bool (.sl false .str))))) (.pair (.pair .str (.pair (.sl false .str) .bool)) (.pair .str (.sl false .str))))) (.pair (.sl false (.sl false (.pair .str (.sl false .str)))) (.sl false (.int .i64))))), .cell (.int .i64)]⟩ B_spec_OneHeard_1)))
 (.reg none [.p (.mv 11 (.t 3)) .unit,
  .p (.bin 12 false .add (.t 11) (.c (.int .i64 1))) .unit,
  .p (.mv 3 (.t 12)) .unit])))
noncomputable def L_spec_OneHeard_2 : Nat → ((List (Int × List (Int)) × List (Int × Bool × (Int × (Int × List (Int)) × List (Int × Int × Int × List UInt8) × List (Int) × List (List UInt8) × Int × Int × Int × Int × Int × Int × Int × Int × Int × List (Int)) × Int × Int × (Int × List (Int)) × List (Int × Int × Int × List (Int × Int × Int × List UInt8)) × List (Int × (Int × List (Int)) × (Int × Int × Int × List UInt8) × List (Int))) × List (Int × Int × Int × (Int × Int × Int × List UInt8) × (Int × Int × Int × Int × Int × List (Int)) × Int × Int × Int × List (Int × Int × Int × List UInt8)) × List (Int × (Int × List (Int)) × (Int × Int × Int × List UInt8) × List (Int))) × List ((Int × List UInt8 × (List UInt8 × Bool) × Bool × List (List UInt8)) × (List UInt8 × List (List UInt8) × Bool) × List UInt8 × List (List UInt8)) × List (List (List UInt8 × List (List UInt8))) × List (Int)) × Int → Option ((Unit) ⊕ (Bool)) := evL [fn_spec_l01In, fn_spec_Heard, fn_spec_l21Texts, fn_spec_l21Pair] (finT [.t 2] [] [.cell .bool]) 0 ⟨[(1, false), (3, false)], [.box (.pair (.pair (.sl false (.pair (.int .i64) (.sl false (.int .i64)))) (.pair (.sl false (.pair (.int .i64) (.pair .bool (.pair (.pair (.int .i64) (.pair (.pair (.int .i64) (.sl false (.int .i64))) (.pair (.sl false (.pair (.int .i64) (.pair (.int .i64) (.pair (.int .i64) .str)))) (.pair (.sl false (.int .i64)) (.pair (.sl false .str) (.pair (.int .i64) (.pair (.int .i64) (.pair (.int .i64) (.pair (.int .i64) (.pair (.int .i64) (.pair (.int .i64) (.pair (.int .i64) (.pair (.int .i64) (.pair (.int .i64) (.sl false (.int .i64)))))))))))))))) (.pair (.int .i64) (.pair (.int .i64) (.pair (.pair (.int .i64) (.sl false (.int .i64))) (.pair (.sl false (.pair (.int .i64) (.pair (.int .i64) (.pair (.int .i64) (.sl false (.pair (.int .i64) (.pair (.int .i64) (.pair (.int .i64) .str)))))))) (.sl false (.pair (.int .i64) (.pair (.pair (.int .i64) (.sl false (.int .i64))) (.pair (.pair (.int .i64) (.pair (.int .i64) (.pair (.int .i64) .str))) (.sl false (.int .i64)))))))))))))) (.pair (.sl false (.pair (.int .i64) (.pair (.int .i64) (.pair (.int .i64) (.pair (.pair (.int .i64) (.pair (.int .i64) (.pair (.int .i64) .str))) (.pair (.pair (.int .i64) (.pair (.int .i64) (.pair (.int .i64) (.pair (.int .i64) (.pair (.int .i64) (.sl false (.int .i64))))))) (.pair (.int .i64) (.pair (.int .i64) (.pair (.int .i64) (.sl false (.pair (.int .i64) (.pair (.int .i64) (.pair (.int .i64) .str))))))))))))) (.sl false (.pair (.int .i64) (.pair (.pair (.int .i64) (.sl false (.int .i64))) (.pair (.pair (.int .i64) (.pair (.int .i64) (.pair (.int .i64) .str))) (.sl false (.int .i64))))))))) (.pair (.sl false (.pair (.pair (.int .i64) (.pair .str (.pair (.pair .str .bool) (.pair .bool (.sl false .str))))) (.pair (.pair .str (.pair (.sl false .str) .bool)) (.pair .str (.sl false .str))))) (.pair (.sl false (.sl false (.pair .str (.sl false .str)))) (.sl false (.int .i64))))), .cell (.int .i64)]⟩ ⟨[], []⟩ B_spec_OneHeard_2
def F_spec_OneHeard : TF := ⟨(.seq (.reg none [.p (.box 1 (.t 0)) .unit,
  .p (.mv 2 (.c (.bool false))) .unit])
 (.seq (.seq (.reg none [.p (.mv 3 (.c (.int .i64 0))) .unit])
 (.jl 0 ⟨[(1, false), (3, false)], [.box (.pair (.pair (.sl false (.pair (.int .i64) (.sl false (.int .i64)))) (.pair (.sl false (.pair (.int .i64) (.pair .bool (.pair (.pair (.int .i64) (.pair (.pair (.int .i64) (.sl false (.int .i64))) (.pair (.sl false (.pair (.int .i64) (.pair (.int .i64) (.pair (.int .i64) .str)))) (.pair (.sl false (.int .i64)) (.pair (.sl false .str) (.pair (.int .i64) (.pair (.int .i64) (.pair (.int .i64) (.pair (.int .i64) (.pair (.int .i64) (.pair (.int .i64) (.pair (.int .i64) (.pair (.int .i64) (.pair (.int .i64) (.sl false (.int .i64)))))))))))))))) (.pair (.int .i64) (.pair (.int .i64) (.pair (.pair (.int .i64) (.sl false (.int .i64))) (.pair (.sl false (.pair (.int .i64) (.pair (.int .i64) (.pair (.int .i64) (.sl false (.pair (.int .i64) (.pair (.int .i64) (.pair (.int .i64) .str)))))))) (.sl false (.pair (.int .i64) (.pair (.pair (.int .i64) (.sl false (.int .i64))) (.pair (.pair (.int .i64) (.pair (.int .i64) (.pair (.int .i64) .str))) (.sl false (.int .i64)))))))))))))) (.pair (.sl false (.pair (.int .i64) (.pair (.int .i64) (.pair (.int .i64) (.pair (.pair (.int .i64) (.pair (.int .i64) (.pair (.int .i64) .str))) (.pair (.pair (.int .i64) (.pair (.int .i64) (.pair (.int .i64) (.pair (.int .i64) (.pair (.int .i64) (.sl false (.int .i64))))))) (.pair (.int .i64) (.pair (.int .i64) (.pair (.int .i64) (.sl false (.pair (.int .i64) (.pair (.int .i64) (.pair (.int .i64) .str))))))))))))) (.sl false (.pair (.int .i64) (.pair (.pair (.int .i64) (.sl false (.int .i64))) (.pair (.pair (.int .i64) (.pair (.int .i64) (.pair (.int .i64) .str))) (.sl false (.int .i64))))))))) (.pair (.sl false (.pair (.pair (.int .i64) (.pair .str (.pair (.pair .str .bool) (.pair .bool (.sl false .str))))) (.pair (.pair .str (.pair (.sl false .str) .bool)) (.pair .str (.sl false .str))))) (.pair (.sl false (.sl false (.pair .str (.sl false .str)))) (.sl false (.int .i64))))), .cell (.int .i64)]⟩ ⟨[], []⟩ B_spec_OneHeard_2))
 (.seq (.reg none [.p (.mv 2 (.c (.bool true))) .unit])
 .ret))),
 63, 1, [.t 2]⟩
theorem m_spec_OneHeard : mH Tryz.prog 6 [] = some (F_spec_OneHeard.code.x, F_spec_OneHeard.N, F_spec_OneHeard.np, F_spec_OneHeard.res) := by kernel_rfl
noncomputable def T_spec_OneHeard : (List (Int × List (Int)) × List (Int × Bool × (Int × (Int × List (Int)) × List (Int × Int × Int × List UInt8) × List (Int) × List (List UInt8) × Int × Int × Int × Int × Int × Int × Int × Int × Int × List (Int)) × Int × Int × (Int × List (Int)) × List (Int × Int × Int × List (Int × Int × Int × List UInt8)) × List (Int × (Int × List (Int)) × (Int × Int × Int × List UInt8) × List (Int))) × List (Int × Int × Int × (Int × Int × Int × List UInt8) × (Int × Int × Int × Int × Int × List (Int)) × Int × Int × Int × List (Int × Int × Int × List UInt8)) × List (Int × (Int × List (Int)) × (Int × Int × Int × List UInt8) × List (Int))) × List ((Int × List UInt8 × (List UInt8 × Bool) × Bool × List (List UInt8)) × (List UInt8 × List (List UInt8) × Bool) × List UInt8 × List (List UInt8)) × List (List (List UInt8 × List (List UInt8))) × List (Int) → Option (Bool) := evF [fn_spec_l01In, fn_spec_Heard, fn_spec_l21Texts, fn_spec_l21Pair] F_spec_OneHeard [.agg (.pair (.pair (.sl false (.pair (.int .i64) (.sl false (.int .i64)))) (.pair (.sl false (.pair (.int .i64) (.pair .bool (.pair (.pair (.int .i64) (.pair (.pair (.int .i64) (.sl false (.int .i64))) (.pair (.sl false (.pair (.int .i64) (.pair (.int .i64) (.pair (.int .i64) .str)))) (.pair (.sl false (.int .i64)) (.pair (.sl false .str) (.pair (.int .i64) (.pair (.int .i64) (.pair (.int .i64) (.pair (.int .i64) (.pair (.int .i64) (.pair (.int .i64) (.pair (.int .i64) (.pair (.int .i64) (.pair (.int .i64) (.sl false (.int .i64)))))))))))))))) (.pair (.int .i64) (.pair (.int .i64) (.pair (.pair (.int .i64) (.sl false (.int .i64))) (.pair (.sl false (.pair (.int .i64) (.pair (.int .i64) (.pair (.int .i64) (.sl false (.pair (.int .i64) (.pair (.int .i64) (.pair (.int .i64) .str)))))))) (.sl false (.pair (.int .i64) (.pair (.pair (.int .i64) (.sl false (.int .i64))) (.pair (.pair (.int .i64) (.pair (.int .i64) (.pair (.int .i64) .str))) (.sl false (.int .i64)))))))))))))) (.pair (.sl false (.pair (.int .i64) (.pair (.int .i64) (.pair (.int .i64) (.pair (.pair (.int .i64) (.pair (.int .i64) (.pair (.int .i64) .str))) (.pair (.pair (.int .i64) (.pair (.int .i64) (.pair (.int .i64) (.pair (.int .i64) (.pair (.int .i64) (.sl false (.int .i64))))))) (.pair (.int .i64) (.pair (.int .i64) (.pair (.int .i64) (.sl false (.pair (.int .i64) (.pair (.int .i64) (.pair (.int .i64) .str))))))))))))) (.sl false (.pair (.int .i64) (.pair (.pair (.int .i64) (.sl false (.int .i64))) (.pair (.pair (.int .i64) (.pair (.int .i64) (.pair (.int .i64) .str))) (.sl false (.int .i64))))))))) (.pair (.sl false (.pair (.pair (.int .i64) (.pair .str (.pair (.pair .str .bool) (.pair .bool (.sl false .str))))) (.pair (.pair .str (.pair (.sl false .str) .bool)) (.pair .str (.sl false .str))))) (.pair (.sl false (.sl false (.pair .str (.sl false .str)))) (.sl false (.int .i64)))))] [] [.cell .bool] []
noncomputable def fn_spec_OneHeard : TFn := ⟨6, [.agg (.pair (.pair (.sl false (.pair (.int .i64) (.sl false (.int .i64)))) (.pair (.sl false (.pair (.int .i64) (.pair .bool (.pair (.pair (.int .i64) (.pair (.pair (.int .i64) (.sl false (.int .i64))) (.pair (.sl false (.pair (.int .i64) (.pair (.int .i64) (.pair (.int .i64) .str)))) (.pair (.sl false (.int .i64)) (.pair (.sl false .str) (.pair (.int .i64) (.pair (.int .i64) (.pair (.int .i64) (.pair (.int .i64) (.pair (.int .i64) (.pair (.int .i64) (.pair (.int .i64) (.pair (.int .i64) (.pair (.int .i64) (.sl false (.int .i64)))))))))))))))) (.pair (.int .i64) (.pair (.int .i64) (.pair (.pair (.int .i64) (.sl false (.int .i64))) (.pair (.sl false (.pair (.int .i64) (.pair (.int .i64) (.pair (.int .i64) (.sl false (.pair (.int .i64) (.pair (.int .i64) (.pair (.int .i64) .str)))))))) (.sl false (.pair (.int .i64) (.pair (.pair (.int .i64) (.sl false (.int .i64))) (.pair (.pair (.int .i64) (.pair (.int .i64) (.pair (.int .i64) .str))) (.sl false (.int .i64)))))))))))))) (.pair (.sl false (.pair (.int .i64) (.pair (.int .i64) (.pair (.int .i64) (.pair (.pair (.int .i64) (.pair (.int .i64) (.pair (.int .i64) .str))) (.pair (.pair (.int .i64) (.pair (.int .i64) (.pair (.int .i64) (.pair (.int .i64) (.pair (.int .i64) (.sl false (.int .i64))))))) (.pair (.int .i64) (.pair (.int .i64) (.pair (.int .i64) (.sl false (.pair (.int .i64) (.pair (.int .i64) (.pair (.int .i64) .str))))))))))))) (.sl false (.pair (.int .i64) (.pair (.pair (.int .i64) (.sl false (.int .i64))) (.pair (.pair (.int .i64) (.pair (.int .i64) (.pair (.int .i64) .str))) (.sl false (.int .i64))))))))) (.pair (.sl false (.pair (.pair (.int .i64) (.pair .str (.pair (.pair .str .bool) (.pair .bool (.sl false .str))))) (.pair (.pair .str (.pair (.sl false .str) .bool)) (.pair .str (.sl false .str))))) (.pair (.sl false (.sl false (.pair .str (.sl false .str)))) (.sl false (.int .i64)))))], [], [.cell .bool], [], T_spec_OneHeard⟩
theorem ok_spec_OneHeard : FnOk Tryz.prog fn_spec_OneHeard := evF_ok mixed (allOk_cons ok_spec_l01In (allOk_cons ok_spec_Heard (allOk_cons ok_spec_l21Texts (allOk_cons ok_spec_l21Pair allOk_nil)))) m_spec_OneHeard (by decide)
def F_impl_inRange : TF := ⟨(.seq (.reg none [.p (.mv 6 (.c (.bool false))) .unit])
 (.seq (.reg none [.p (.mv 7 (.t 0)) .unit,
  .p (.mv 8 (.t 1)) .unit,
  .p (.bin 9 false .geq (.t 7) (.t 8)) .unit,
  .p (.mv 10 (.t 9)) .unit,
  .g 10 true (some 11) (.mv 11 (.t 0)) .unit,
  .g 10 true (some 12) (.mv 12 (.t 2)) .unit,
  .g 10 true (some 13) (.bin 13 false .leq (.t 11) (.t 12)) .unit,
  .p (.pick 14 (.t 10) (.t 13) (.c (.bool false))) .unit,
  .p (.mv 6 (.t 14)) .unit])
 .ret)),
 15, 3, [.t 6]⟩
theorem m_impl_inRange : mH Tryz.prog 35 [] = some (F_impl_inRange.code.x, F_impl_inRange.N, F_impl_inRange.np, F_impl_inRange.res) := by kernel_rfl
noncomputable def T_impl_inRange : (Int) × (Int) × Int → Option (Bool) := evF [] F_impl_inRange [.cell (.int .i64), .cell (.int .i64), .cell (.int .i64)] [] [.cell .bool] []
noncomputable def fn_impl_inRange : TFn := ⟨35, [.cell (.int .i64), .cell (.int .i64), .cell (.int .i64)], [], [.cell .bool], [], T_impl_inRange⟩
theorem ok_impl_inRange : FnOk Tryz.prog fn_impl_inRange := evF_ok mixed allOk_nil m_impl_inRange (by decide)
def B_slices_Concat___string_string__1 : TC := (.seq (.reg none [.p (.bin 12 false .lss (.t 11) (.t 10)) .unit])
 (.seq (.cond (.t 12) .skip (.exit 0))
 (.seq (.block 1 (.seq (.reg none [.p (.iadr 13 1 (.t 9) (.t 11)) .unit,
  .p (.load 14 (.t 13) 1 false) .unit,
  .p (.mv 5 (.t 14)) .unit])
 (.seq (.reg none [.p (.mv 15 (.t 3)) .unit,
  .p (.mv 16 (.t 5)) .unit,
  .p (.lenB 17 (.t 16)) .unit,
  .p (.bin 18 false .add (.t 15) (.t 17)) .unit,
  .p (.mv 3 (.t 18)) .unit])
 (.seq (.reg none [.p (.mv 19 (.t 3)) .unit,
  .p (.bin 20 false .lss (.t 19) (.c (.int .i64 0))) .unit])
 (.cond (.t 20) (.reg none [.p .dead .unit,
  .p .dead .unit]) .skip)))))
 (.reg none [.p (.bin 22 false .add (.t 11) (.c (.int .i64 1))) .unit,
  .p (.mv 11 (.t 22)) .unit]))))
noncomputable def L_slices_Concat___string_string__1 : Nat → (List (List (List UInt8))) × (Int) × (List (List (List UInt8))) × (Int) × Int → Option (((List (List (List UInt8))) × Int) ⊕ (List (List UInt8))) := evL [fn_slices_Grow___string_string_] (finT [.t 2] [] [.cell (.sl true .str)]) 0 ⟨[(0, true), (3, false), (9, false), (10, false), (11, false)], [.cell (.sl false (.sl false .str)), .cell (.int .i64), .cell (.sl false (.sl false .str)), .cell (.int .i64), .cell (.int .i64)]⟩ ⟨[(0, true), (3, false)], [.cell (.sl false (.sl false .str)), .cell (.int .i64)]⟩ B_slices_Concat___string_string__1
def B_slices_Concat___string_string__2 : TC := (.seq (.reg none [.p (.bin 28 false .lss (.t 27) (.t 26)) .unit])
 (.seq (.cond (.t 28) .skip (.exit 2))
 (.seq (.block 3 (.seq (.reg none [.p (.iadr 29 1 (.t 25) (.t 27)) .unit,
  .p (.load 30 (.t 29) 1 false) .unit,
  .p (.mv 8 (.t 30)) .unit])
 (.reg none [.p (.mvT 31 6) .unit,
  .p (.mv 32 (.t 8)) .unit,
  .p (.app 33 1 16 (.t 31) (.t 32)) .str,
  .p (.mvT 6 33) .unit])))
 (.reg none [.p (.bin 34 false .add (.t 27) (.c (.int .i64 1))) .unit,
  .p (.mv 27 (.t 34)) .unit]))))
noncomputable def L_slices_Concat___string_string__2 : Nat → (List (List UInt8)) × (List (List (List UInt8))) × (Int) × Int → Option ((List (List UInt8)) ⊕ (List (List UInt8))) := evL [fn_slices_Grow___string_string_] (finT [.t 2] [] [.cell (.sl true .str)]) 2 ⟨[(6, false), (25, false), (26, false), (27, false)], [.cell (.sl true .str), .cell (.sl false (.sl false .str)), .cell (.int .i64), .cell (.int .i64)]⟩ ⟨[(6, false)], [.cell (.sl true .str)]⟩ B_slices_Concat___string_string__2
def F_slices_Concat___string_string_ : TF := ⟨(.seq (.reg none [.p (.mvN 2 1) .unit])
 (.seq (.reg none [.p (.mv 3 (.c (.int .i64 0))) .unit])
 (.seq (.seq (.reg none [.p (.mv 9 (.t 0)) .unit,
  .p (.lenB 10 (.t 9)) .unit,
  .p (.mv 11 (.c (.int .i64 0))) .unit])
 (.jl 0 ⟨[(0, true), (3, false), (9, false), (10, false), (11, false)], [.cell (.sl false (.sl false .str)), .cell (.int .i64), .cell (.sl false (.sl false .str)), .cell (.int .i64), .cell (.int .i64)]⟩ ⟨[(0, true), (3, false)], [.cell (.sl false (.sl false .str)), .cell (.int .i64)]⟩ B_slices_Concat___string_string__1))
 (.seq (.reg none [.p (.mv 23 (.t 3)) .unit,
  .p (.callB 24 n_slices_Grow___string_string_ [((.nil 1), 1), ((.t 23), 0)]) .unit,
  .p (.mvT 6 24) .unit])
 (.seq (.seq (.reg none [.p (.mv 25 (.t 0)) .unit,
  .p (.lenB 26 (.t 25)) .unit,
  .p (.mv 27 (.c (.int .i64 0))) .unit])
 (.jl 2 ⟨[(6, false), (25, false), (26, false), (27, false)], [.cell (.sl true .str), .cell (.sl false (.sl false .str)), .cell (.int .i64), .cell (.int .i64)]⟩ ⟨[(6, false)], [.cell (.sl true .str)]⟩ B_slices_Concat___string_string__2))
 (.seq (.reg none [.p (.mvT 35 6) .unit,
  .p (.mvT 2 35) .unit])
 .ret)))))),
 36, 1, [.t 2]⟩
theorem m_slices_Concat___string_string_ : mH Tryz.prog 36 [(9, 1, .v), (9, 2, .t), (13, 0, .t), (13, 3, .t), (15, 0, .t), (15, 1, .t)] = some (F_slices_Concat___string_string_.code.x, F_slices_Concat___string_string_.N, F_slices_Concat___string_string_.np, F_slices_Concat___string_string_.res) := by kernel_rfl
noncomputable def T_slices_Concat___string_string_ : List (List (List UInt8)) → Option (List (List UInt8)) := evF [fn_slices_Grow___string_string_] F_slices_Concat___string_string_ [.cell (.sl false (.sl false .str))] [] [.cell (.sl true .str)] []
noncomputable def fn_slices_Concat___string_string_ : TFn := ⟨36, [.cell (.sl false (.sl false .str))], [], [.cell (.sl true .str)], [], T_slices_Concat___string_string_⟩
theorem ok_slices_Concat___string_string_ : FnOk Tryz.prog fn_slices_Concat___string_string_ := evF_ok mixed (allOk_cons ok_slices_Grow___string_string_ allOk_nil) m_slices_Concat___string_string_ (by decide)
def F_impl_Heard : TF := ⟨(.seq (.reg none [.p (.box 2 (.t 0)) .unit,
  .p (.mvN 4 1) .unit])
 (.seq (.seq (.reg none [.p (.mv 6 (.t 1)) .unit,
  .p (.fadr 7 (.t 2) 4) .unit,
  .p (.load 8 (.t 7) 1 false) .unit,
  .p (.lenB 9 (.t 8)) .unit,
  .p (.callB 10 n_impl_inRange [((.t 6), 0), ((.c (.int .i64 1)), 0), ((.t 9), 0)]) .unit,
  .p (.un 11 .not (.t 10)) .unit])
 (.cond (.t 11) (.seq (.reg none [.p (.mvN 4 1) .unit])
 .ret) .skip))
 (.seq (.reg none [.p (.fadr 12 (.t 2) 4) .unit,
  .p (.load 13 (.t 12) 1 false) .unit,
  .p (.mv 14 (.t 1)) .unit,
  .p (.bin 15 false .sub (.t 14) (.c (.int .i64 1))) .unit,
  .p (.iadr 16 11 (.t 13) (.t 15)) .unit,
  .p (.load 17 (.t 16) 11 true) .unit,
  .p (.alloc 5 [(.lit (.int .i64 0)), (.lit (.string (ba []))), (.lit (.string (ba []))), (.lit (.bool false)), (.lit (.bool false)), (.sl true 1 []), (.lit (.string (ba []))), (.sl true 1 []), (.lit (.bool false)), (.lit (.string (ba []))), (.sl true 1 [])]) .unit,
  .p (.store (.t 5) (.t 17) 11) .unit])
 (.seq (.reg none [.p (.fadr 18 (.t 5) 10) .unit,
  .p (.load 19 (.t 18) 1 false) .unit,
  .p (.fadr 20 (.t 5) 6) .unit,
  .p (.fadr 21 (.t 20) 1) .unit,
  .p (.load 22 (.t 21) 1 false) .unit,
  .p (.bldS 23 2 [(.sl true 1 [])] [⟨0, 1, (.t 19)⟩, ⟨1, 1, (.t 22)⟩]) (.sl false .str),
  .p (.callB 24 n_slices_Concat___string_string_ [((.t 23), 0)]) .unit,
  .p (.mvT 4 24) .unit])
 .ret)))),
 25, 2, [.t 4]⟩
theorem m_impl_Heard : mH Tryz.prog 11 [(4, 7, .t)] = some (F_impl_Heard.code.x, F_impl_Heard.N, F_impl_Heard.np, F_impl_Heard.res) := by kernel_rfl
noncomputable def T_impl_Heard : ((List (Int × List (Int)) × List (Int × Bool × (Int × (Int × List (Int)) × List (Int × Int × Int × List UInt8) × List (Int) × List (List UInt8) × Int × Int × Int × Int × Int × Int × Int × Int × Int × List (Int)) × Int × Int × (Int × List (Int)) × List (Int × Int × Int × List (Int × Int × Int × List UInt8)) × List (Int × (Int × List (Int)) × (Int × Int × Int × List UInt8) × List (Int))) × List (Int × Int × Int × (Int × Int × Int × List UInt8) × (Int × Int × Int × Int × Int × List (Int)) × Int × Int × Int × List (Int × Int × Int × List UInt8)) × List (Int × (Int × List (Int)) × (Int × Int × Int × List UInt8) × List (Int))) × List ((Int × List UInt8 × (List UInt8 × Bool) × Bool × List (List UInt8)) × (List UInt8 × List (List UInt8) × Bool) × List UInt8 × List (List UInt8)) × List (List (List UInt8 × List (List UInt8))) × List (Int)) × Int → Option (List (List UInt8)) := evF [fn_impl_inRange, fn_slices_Concat___string_string_] F_impl_Heard [.agg (.pair (.pair (.sl false (.pair (.int .i64) (.sl false (.int .i64)))) (.pair (.sl false (.pair (.int .i64) (.pair .bool (.pair (.pair (.int .i64) (.pair (.pair (.int .i64) (.sl false (.int .i64))) (.pair (.sl false (.pair (.int .i64) (.pair (.int .i64) (.pair (.int .i64) .str)))) (.pair (.sl false (.int .i64)) (.pair (.sl false .str) (.pair (.int .i64) (.pair (.int .i64) (.pair (.int .i64) (.pair (.int .i64) (.pair (.int .i64) (.pair (.int .i64) (.pair (.int .i64) (.pair (.int .i64) (.pair (.int .i64) (.sl false (.int .i64)))))))))))))))) (.pair (.int .i64) (.pair (.int .i64) (.pair (.pair (.int .i64) (.sl false (.int .i64))) (.pair (.sl false (.pair (.int .i64) (.pair (.int .i64) (.pair (.int .i64) (.sl false (.pair (.int .i64) (.pair (.int .i64) (.pair (.int .i64) .str)))))))) (.sl false (.pair (.int .i64) (.pair (.pair (.int .i64) (.sl false (.int .i64))) (.pair (.pair (.int .i64) (.pair (.int .i64) (.pair (.int .i64) .str))) (.sl false (.int .i64)))))))))))))) (.pair (.sl false (.pair (.int .i64) (.pair (.int .i64) (.pair (.int .i64) (.pair (.pair (.int .i64) (.pair (.int .i64) (.pair (.int .i64) .str))) (.pair (.pair (.int .i64) (.pair (.int .i64) (.pair (.int .i64) (.pair (.int .i64) (.pair (.int .i64) (.sl false (.int .i64))))))) (.pair (.int .i64) (.pair (.int .i64) (.pair (.int .i64) (.sl false (.pair (.int .i64) (.pair (.int .i64) (.pair (.int .i64) .str))))))))))))) (.sl false (.pair (.int .i64) (.pair (.pair (.int .i64) (.sl false (.int .i64))) (.pair (.pair (.int .i64) (.pair (.int .i64) (.pair (.int .i64) .str))) (.sl false (.int .i64))))))))) (.pair (.sl false (.pair (.pair (.int .i64) (.pair .str (.pair (.pair .str .bool) (.pair .bool (.sl false .str))))) (.pair (.pair .str (.pair (.sl false .str) .bool)) (.pair .str (.sl false .str))))) (.pair (.sl false (.sl false (.pair .str (.sl false .str)))) (.sl false (.int .i64))))), .cell (.int .i64)] [] [.cell (.sl true .str)] []
noncomputable def fn_impl_Heard : TFn := ⟨11, [.agg (.pair (.pair (.sl false (.pair (.int .i64) (.sl false (.int .i64)))) (.pair (.sl false (.pair (.int .i64) (.pair .bool (.pair (.pair (.int .i64) (.pair (.pair (.int .i64) (.sl false (.int .i64))) (.pair (.sl false (.pair (.int .i64) (.pair (.int .i64) (.pair (.int .i64) .str)))) (.pair (.sl false (.int .i64)) (.pair (.sl false .str) (.pair (.int .i64) (.pair (.int .i64) (.pair (.int .i64) (.pair (.int .i64) (.pair (.int .i64) (.pair (.int .i64) (.pair (.int .i64) (.pair (.int .i64) (.pair (.int .i64) (.sl false (.int .i64)))))))))))))))) (.pair (.int .i64) (.pair (.int .i64) (.pair (.pair (.int .i64) (.sl false (.int .i64))) (.pair (.sl false (.pair (.int .i64) (.pair (.int .i64) (.pair (.int .i64) (.sl false (.pair (.int .i64) (.pair (.int .i64) (.pair (.int .i64) .str)))))))) (.sl false (.pair (.int .i64) (.pair (.pair (.int .i64) (.sl false (.int .i64))) (.pair (.pair (.int .i64) (.pair (.int .i64) (.pair (.int .i64) .str))) (.sl false (.int .i64)))))))))))))) (.pair (.sl false (.pair (.int .i64) (.pair (.int .i64) (.pair (.int .i64) (.pair (.pair (.int .i64) (.pair (.int .i64) (.pair (.int .i64) .str))) (.pair (.pair (.int .i64) (.pair (.int .i64) (.pair (.int .i64) (.pair (.int .i64) (.pair (.int .i64) (.sl false (.int .i64))))))) (.pair (.int .i64) (.pair (.int .i64) (.pair (.int .i64) (.sl false (.pair (.int .i64) (.pair (.int .i64) (.pair (.int .i64) .str))))))))))))) (.sl false (.pair (.int .i64) (.pair (.pair (.int .i64) (.sl false (.int .i64))) (.pair (.pair (.int .i64) (.pair (.int .i64) (.pair (.int .i64) .str))) (.sl false (.int .i64))))))))) (.pair (.sl false (.pair (.pair (.int .i64) (.pair .str (.pair (.pair .str .bool) (.pair .bool (.sl false .str))))) (.pair (.pair .str (.pair (.sl false .str) .bool)) (.pair .str (.sl false .str))))) (.pair (.sl false (.sl false (.pair .str (.sl false .str)))) (.sl false (.int .i64))))), .cell (.int .i64)], [], [.cell (.sl true .str)], [], T_impl_Heard⟩
theorem ok_impl_Heard : FnOk Tryz.prog fn_impl_Heard := evF_ok mixed (allOk_cons ok_impl_inRange (allOk_cons ok_slices_Concat___string_string_ allOk_nil)) m_impl_Heard (by decide)
def F_slices_Clone___int_int_ : TF := ⟨(.seq (.reg none [.p (.mvN 2 1) .unit])
 (.seq (.seq (.nq [.p (.mv 3 (.t 0)) .unit] 4 false (.t 3))
 (.cond (.t 4) (.seq (.reg none [.p (.mvN 2 1) .unit])
 .ret) .skip))
 (.seq (.reg none [.p (.bldS 5 0 [(.lit (.int .i64 0))] []) (.int .i64),
  .p (.mv 6 (.t 0)) .unit,
  .p (.app 7 1 8 (.t 5) (.t 6)) (.int .i64),
  .p (.mvT 2 7) .unit])
 .ret))),
 8, 1, [.t 2]⟩
theorem m_slices_Clone___int_int_ : mH Tryz.prog 111 [(3, 3, .t)] = some (F_slices_Clone___int_int_.code.x, F_slices_Clone___int_int_.N, F_slices_Clone___int_int_.np, F_slices_Clone___int_int_.res) := by kernel_rfl
noncomputable def T_slices_Clone___int_int_ : List (Int) → Option (List (Int)) := evF [] F_slices_Clone___int_int_ [.cell (.sl false (.int .i64))] [] [.cell (.sl true (.int .i64))] []
noncomputable def fn_slices_Clone___int_int_ : TFn := ⟨111, [.cell (.sl false (.int .i64))], [], [.cell (.sl true (.int .i64))], [], T_slices_Clone___int_int_⟩
theorem ok_slices_Clone___int_int_ : FnOk Tryz.prog fn_slices_Clone___int_int_ := evF_ok mixed allOk_nil m_slices_Clone___int_int_ (by decide)
def F_impl_copyRing : TF := ⟨(.seq (.reg none [.p (.box 1 (.t 0)) .unit,
  .p (.alloc 2 [(.lit (.int .i64 0)), (.sl true 1 [])]) .unit])
 (.seq (.reg (some [[], [0], [], [2], [3], [1, 4], [5, 4, 0, 1, 2, 3, 4, 5]]) [.p (.fadr 3 (.t 1) 0) .unit,
  .p (.load 4 (.t 3) 1 false) .unit,
  .p (.fadr 5 (.t 1) 1) .unit,
  .p (.load 6 (.t 5) 1 false) .unit,
  .p (.callB 7 n_slices_Clone___int_int_ [((.t 6), 0)]) .unit,
  .p (.bld 8 [(.lit (.int .i64 0)), (.sl true 1 [])] [⟨0, 1, (.t 4)⟩, ⟨1, 1, (.t 7)⟩]) .unit,
  .p (.storeT (.t 2) 8 2) .unit])
 .ret)),
 9, 1, [.c 2 2 true]⟩
theorem m_impl_copyRing : mH Tryz.prog 110 [(1, 6, .t)] = some (F_impl_copyRing.code.x, F_impl_copyRing.N, F_impl_copyRing.np, F_impl_copyRing.res) := by kernel_rfl
noncomputable def T_impl_copyRing : Int × List (Int) → Option (Int × List (Int)) := evF [fn_slices_Clone___int_int_] F_impl_copyRing [.agg (.pair (.int .i64) (.sl false (.int .i64)))] [] [.agg (.pair (.int .i64) (.sl true (.int .i64)))] []
noncomputable def fn_impl_copyRing : TFn := ⟨110, [.agg (.pair (.int .i64) (.sl false (.int .i64)))], [], [.agg (.pair (.int .i64) (.sl true (.int .i64)))], [], T_impl_copyRing⟩
theorem ok_impl_copyRing : FnOk Tryz.prog fn_impl_copyRing := evF_ok mixed (allOk_cons ok_slices_Clone___int_int_ allOk_nil) m_impl_copyRing (by decide)
def F_impl_copyEvent : TF := ⟨(.seq (.reg none [.p (.box 1 (.t 0)) .unit,
  .p (.alloc 2 [(.lit (.int .i64 0)), (.lit (.int .i64 0)), (.sl true 1 []), (.lit (.int .i64 0)), (.lit (.int .i64 0)), (.lit (.int .i64 0)), (.lit (.string (ba []))), (.sl true 1 [])]) .unit])
 (.seq (.reg none [.p (.fadr 3 (.t 1) 1) .unit,
  .p (.load 4 (.t 3) 2 true) .unit,
  .p (.callB 5 n_impl_copyRing [((.t 4), 0)]) .unit,
  .p (.fadr 6 (.t 1) 1) .unit,
  .p (.storeT (.t 6) 5 2) .unit])
 (.seq (.reg none [.p (.fadr 7 (.t 1) 7) .unit,
  .p (.load 8 (.t 7) 1 false) .unit,
  .p (.callB 9 n_slices_Clone___int_int_ [((.t 8), 0)]) .unit,
  .p (.fadr 10 (.t 1) 7) .unit,
  .p (.storeT (.t 10) 9 1) .unit])
 (.seq (.reg none [.p (.loadT 11 (.t 1) 8 true) .unit,
  .p (.storeT (.t 2) 11 8) .unit])
 .ret)))),
 12, 1, [.c 2 8 true]⟩
theorem m_impl_copyEvent : mH Tryz.prog 86 [(1, 4, .t), (2, 4, .t), (3, 0, .t), (3, 1, .t)] = some (F_impl_copyEvent.code.x, F_impl_copyEvent.N, F_impl_copyEvent.np, F_impl_copyEvent.res) := by kernel_rfl
noncomputable def T_impl_copyEvent : Int × (Int × List (Int)) × (Int × Int × Int × List UInt8) × List (Int) → Option (Int × (Int × List (Int)) × (Int × Int × Int × List UInt8) × List (Int)) := evF [fn_impl_copyRing, fn_slices_Clone___int_int_] F_impl_copyEvent [.agg (.pair (.int .i64) (.pair (.pair (.int .i64) (.sl false (.int .i64))) (.pair (.pair (.int .i64) (.pair (.int .i64) (.pair (.int .i64) .str))) (.sl false (.int .i64)))))] [] [.agg (.pair (.int .i64) (.pair (.pair (.int .i64) (.sl true (.int .i64))) (.pair (.pair (.int .i64) (.pair (.int .i64) (.pair (.int .i64) .str))) (.sl true (.int .i64)))))] []
noncomputable def fn_impl_copyEvent : TFn := ⟨86, [.agg (.pair (.int .i64) (.pair (.pair (.int .i64) (.sl false (.int .i64))) (.pair (.pair (.int .i64) (.pair (.int .i64) (.pair (.int .i64) .str))) (.sl false (.int .i64)))))], [], [.agg (.pair (.int .i64) (.pair (.pair (.int .i64) (.sl true (.int .i64))) (.pair (.pair (.int .i64) (.pair (.int .i64) (.pair (.int .i64) .str))) (.sl true (.int .i64)))))], [], T_impl_copyEvent⟩
theorem ok_impl_copyEvent : FnOk Tryz.prog fn_impl_copyEvent := evF_ok mixed (allOk_cons ok_impl_copyRing (allOk_cons ok_slices_Clone___int_int_ allOk_nil)) m_impl_copyEvent (by decide)
def B_impl_copyLog_1 : TC := (.seq (.reg none [.p (.bin 9 false .lss (.t 8) (.t 7)) .unit])
 (.seq (.cond (.t 9) .skip (.exit 0))
 (.seq (.block 1 (.seq (.reg none [.p (.iadr 10 8 (.t 6) (.t 8)) .unit,
  .p (.load 11 (.t 10) 8 true) .unit,
  .p (.alloc 5 [(.lit (.int .i64 0)), (.lit (.int .i64 0)), (.sl true 1 []), (.lit (.int .i64 0)), (.lit (.int .i64 0)), (.lit (.int .i64 0)), (.lit (.string (ba []))), (.sl true 1 [])]) .unit,
  .p (.store (.t 5) (.t 11) 8) .unit])
 (.reg none [.p (.mvT 12 3) .unit,
  .p (.load 13 (.t 5) 8 true) .unit,
  .p (.callB 14 n_impl_copyEvent [((.t 13), 0)]) .unit,
  .p (.bldS 15 1 [(.lit (.int .i64 0)), (.lit (.int .i64 0)), (.sl true 1 []), (.lit (.int .i64 0)), (.lit (.int .i64 0)), (.lit (.int .i64 0)), (.lit (.string (ba []))), (.sl true 1 [])] [⟨0, 8, (.t 14)⟩]) (.pair (.int .i64) (.pair (.pair (.int .i64) (.sl true (.int .i64))) (.pair (.pair (.int .i64) (.pair (.int .i64) (.pair (.int .i64) .str))) (.sl true (.int .i64))))),
  .p (.appT 16 8 104 (.t 12) 15) (.pair (.int .i64) (.pair (.pair (.int .i64) (.sl true (.int .i64))) (.pair (.pair (.int .i64) (.pair (.int .i64) (.pair (.int .i64) .str))) (.sl true (.int .i64))))),
  .p (.mvT 3 16) .unit])))
 (.reg none [.p (.bin 17 false .add (.t 8) (.c (.int .i64 1))) .unit,
  .p (.mv 8 (.t 17)) .unit]))))
noncomputable def L_impl_copyLog_1 : Nat → (List (Int × (Int × List (Int)) × (Int × Int × Int × List UInt8) × List (Int))) × (List (Int × (Int × List (Int)) × (Int × Int × Int × List UInt8) × List (Int))) × (Int) × Int → Option ((List (Int × (Int × List (Int)) × (Int × Int × Int × List UInt8) × List (Int))) ⊕ (List (Int × (Int × List (Int)) × (Int × Int × Int × List UInt8) × List (Int)))) := evL [fn_impl_copyEvent] (finT [.t 2] [] [.cell (.sl true (.pair (.int .i64) (.pair (.pair (.int .i64) (.sl true (.int .i64))) (.pair (.pair (.int .i64) (.pair (.int .i64) (.pair (.int .i64) .str))) (.sl true (.int .i64))))))]) 0 ⟨[(3, false), (6, false), (7, false), (8, false)], [.cell (.sl true (.pair (.int .i64) (.pair (.pair (.int .i64) (.sl true (.int .i64))) (.pair (.pair (.int .i64) (.pair (.int .i64) (.pair (.int .i64) .str))) (.sl true (.int .i64)))))), .cell (.sl false (.pair (.int .i64) (.pair (.pair (.int .i64) (.sl false (.int .i64))) (.pair (.pair (.int .i64) (.pair (.int .i64) (.pair (.int .i64) .str))) (.sl false (.int .i64)))))), .cell (.int .i64), .cell (.int .i64)]⟩ ⟨[(3, false)], [.cell (.sl true (.pair (.int .i64) (.pair (.pair (.int .i64) (.sl true (.int .i64))) (.pair (.pair (.int .i64) (.pair (.int .i64) (.pair (.int .i64) .str))) (.sl true (.int .i64))))))]⟩ B_impl_copyLog_1
def F_impl_copyLog : TF := ⟨(.seq (.reg none [.p (.mvN 2 8) .unit])
 (.seq (.reg none [.p (.mvN 3 8) .unit])
 (.seq (.seq (.reg none [.p (.mv 6 (.t 0)) .unit,
  .p (.lenB 7 (.t 6)) .unit,
  .p (.mv 8 (.c (.int .i64 0))) .unit])
 (.jl 0 ⟨[(3, false), (6, false), (7, false), (8, false)], [.cell (.sl true (.pair (.int .i64) (.pair (.pair (.int .i64) (.sl true (.int .i64))) (.pair (.pair (.int .i64) (.pair (.int .i64) (.pair (.int .i64) .str))) (.sl true (.int .i64)))))), .cell (.sl false (.pair (.int .i64) (.pair (.pair (.int .i64) (.sl false (.int .i64))) (.pair (.pair (.int .i64) (.pair (.int .i64) (.pair (.int .i64) .str))) (.sl false (.int .i64)))))), .cell (.int .i64), .cell (.int .i64)]⟩ ⟨[(3, false)], [.cell (.sl true (.pair (.int .i64) (.pair (.pair (.int .i64) (.sl true (.int .i64))) (.pair (.pair (.int .i64) (.pair (.int .i64) (.pair (.int .i64) .str))) (.sl true (.int .i64))))))]⟩ B_impl_copyLog_1))
 (.seq (.reg none [.p (.mvT 18 3) .unit,
  .p (.mvT 2 18) .unit])
 .ret)))),
 19, 1, [.t 2]⟩
theorem m_impl_copyLog : mH Tryz.prog 56 [(5, 0, .t), (5, 4, .t), (5, 5, .t), (7, 0, .t), (7, 1, .t)] = some (F_impl_copyLog.code.x, F_impl_copyLog.N, F_impl_copyLog.np, F_impl_copyLog.res) := by kernel_rfl
noncomputable def T_impl_copyLog : List (Int × (Int × List (Int)) × (Int × Int × Int × List UInt8) × List (Int)) → Option (List (Int × (Int × List (Int)) × (Int × Int × Int × List UInt8) × List (Int))) := evF [fn_impl_copyEvent] F_impl_copyLog [.cell (.sl false (.pair (.int .i64) (.pair (.pair (.int .i64) (.sl false (.int .i64))) (.pair (.pair (.int .i64) (.pair (.int .i64) (.pair (.int .i64) .str))) (.sl false (.int .i64))))))] [] [.cell (.sl true (.pair (.int .i64) (.pair (.pair (.int .i64) (.sl true (.int .i64))) (.pair (.pair (.int .i64) (.pair (.int .i64) (.pair (.int .i64) .str))) (.sl true (.int .i64))))))] []
noncomputable def fn_impl_copyLog : TFn := ⟨56, [.cell (.sl false (.pair (.int .i64) (.pair (.pair (.int .i64) (.sl false (.int .i64))) (.pair (.pair (.int .i64) (.pair (.int .i64) (.pair (.int .i64) .str))) (.sl false (.int .i64))))))], [], [.cell (.sl true (.pair (.int .i64) (.pair (.pair (.int .i64) (.sl true (.int .i64))) (.pair (.pair (.int .i64) (.pair (.int .i64) (.pair (.int .i64) .str))) (.sl true (.int .i64))))))], [], T_impl_copyLog⟩
theorem ok_impl_copyLog : FnOk Tryz.prog fn_impl_copyLog := evF_ok mixed (allOk_cons ok_impl_copyEvent allOk_nil) m_impl_copyLog (by decide)
def F_impl_LogOf : TF := ⟨(.seq (.reg none [.p (.box 2 (.t 0)) .unit,
  .p (.mvN 4 8) .unit])
 (.seq (.seq (.reg none [.p (.mv 5 (.t 1)) .unit,
  .p (.fadr 6 (.t 2) 1) .unit,
  .p (.load 7 (.t 6) 1 false) .unit,
  .p (.lenB 8 (.t 7)) .unit,
  .p (.callB 9 n_impl_inRange [((.t 5), 0), ((.c (.int .i64 1)), 0), ((.t 8), 0)]) .unit,
  .p (.un 10 .not (.t 9)) .unit])
 (.cond (.t 10) (.seq (.reg none [.p (.mvN 4 8) .unit])
 .ret) .skip))
 (.seq (.reg none [.p (.fadr 11 (.t 2) 1) .unit,
  .p (.load 12 (.t 11) 1 false) .unit,
  .p (.mv 13 (.t 1)) .unit,
  .p (.bin 14 false .sub (.t 13) (.c (.int .i64 1))) .unit,
  .p (.iadr 15 24 (.t 12) (.t 14)) .unit,
  .p (.fadr 16 (.t 15) 23) .unit,
  .p (.load 17 (.t 16) 1 false) .unit,
  .p (.callB 18 n_impl_copyLog [((.t 17), 0)]) .unit,
  .p (.mvT 4 18) .unit])
 .ret))),
 19, 2, [.t 4]⟩
theorem m_impl_LogOf : mH Tryz.prog 28 [(3, 8, .t)] = some (F_impl_LogOf.code.x, F_impl_LogOf.N, F_impl_LogOf.np, F_impl_LogOf.res) := by kernel_rfl
noncomputable def T_impl_LogOf : (List (Int × List (Int)) × List (Int × Bool × (Int × (Int × List (Int)) × List (Int × Int × Int × List UInt8) × List (Int) × List (List UInt8) × Int × Int × Int × Int × Int × Int × Int × Int × Int × List (Int)) × Int × Int × (Int × List (Int)) × List (Int × Int × Int × List (Int × Int × Int × List UInt8)) × List (Int × (Int × List (Int)) × (Int × Int × Int × List UInt8) × List (Int))) × List (Int × Int × Int × (Int × Int × Int × List UInt8) × (Int × Int × Int × Int × Int × List (Int)) × Int × Int × Int × List (Int × Int × Int × List UInt8)) × List (Int × (Int × List (Int)) × (Int × Int × Int × List UInt8) × List (Int))) × Int → Option (List (Int × (Int × List (Int)) × (Int × Int × Int × List UInt8) × List (Int))) := evF [fn_impl_inRange, fn_impl_copyLog] F_impl_LogOf [.agg (.pair (.sl false (.pair (.int .i64) (.sl false (.int .i64)))) (.pair (.sl false (.pair (.int .i64) (.pair .bool (.pair (.pair (.int .i64) (.pair (.pair (.int .i64) (.sl false (.int .i64))) (.pair (.sl false (.pair (.int .i64) (.pair (.int .i64) (.pair (.int .i64) .str)))) (.pair (.sl false (.int .i64)) (.pair (.sl false .str) (.pair (.int .i64) (.pair (.int .i64) (.pair (.int .i64) (.pair (.int .i64) (.pair (.int .i64) (.pair (.int .i64) (.pair (.int .i64) (.pair (.int .i64) (.pair (.int .i64) (.sl false (.int .i64)))))))))))))))) (.pair (.int .i64) (.pair (.int .i64) (.pair (.pair (.int .i64) (.sl false (.int .i64))) (.pair (.sl false (.pair (.int .i64) (.pair (.int .i64) (.pair (.int .i64) (.sl false (.pair (.int .i64) (.pair (.int .i64) (.pair (.int .i64) .str)))))))) (.sl false (.pair (.int .i64) (.pair (.pair (.int .i64) (.sl false (.int .i64))) (.pair (.pair (.int .i64) (.pair (.int .i64) (.pair (.int .i64) .str))) (.sl false (.int .i64)))))))))))))) (.pair (.sl false (.pair (.int .i64) (.pair (.int .i64) (.pair (.int .i64) (.pair (.pair (.int .i64) (.pair (.int .i64) (.pair (.int .i64) .str))) (.pair (.pair (.int .i64) (.pair (.int .i64) (.pair (.int .i64) (.pair (.int .i64) (.pair (.int .i64) (.sl false (.int .i64))))))) (.pair (.int .i64) (.pair (.int .i64) (.pair (.int .i64) (.sl false (.pair (.int .i64) (.pair (.int .i64) (.pair (.int .i64) .str))))))))))))) (.sl false (.pair (.int .i64) (.pair (.pair (.int .i64) (.sl false (.int .i64))) (.pair (.pair (.int .i64) (.pair (.int .i64) (.pair (.int .i64) .str))) (.sl false (.int .i64))))))))), .cell (.int .i64)] [] [.cell (.sl true (.pair (.int .i64) (.pair (.pair (.int .i64) (.sl true (.int .i64))) (.pair (.pair (.int .i64) (.pair (.int .i64) (.pair (.int .i64) .str))) (.sl true (.int .i64))))))] []
noncomputable def fn_impl_LogOf : TFn := ⟨28, [.agg (.pair (.sl false (.pair (.int .i64) (.sl false (.int .i64)))) (.pair (.sl false (.pair (.int .i64) (.pair .bool (.pair (.pair (.int .i64) (.pair (.pair (.int .i64) (.sl false (.int .i64))) (.pair (.sl false (.pair (.int .i64) (.pair (.int .i64) (.pair (.int .i64) .str)))) (.pair (.sl false (.int .i64)) (.pair (.sl false .str) (.pair (.int .i64) (.pair (.int .i64) (.pair (.int .i64) (.pair (.int .i64) (.pair (.int .i64) (.pair (.int .i64) (.pair (.int .i64) (.pair (.int .i64) (.pair (.int .i64) (.sl false (.int .i64)))))))))))))))) (.pair (.int .i64) (.pair (.int .i64) (.pair (.pair (.int .i64) (.sl false (.int .i64))) (.pair (.sl false (.pair (.int .i64) (.pair (.int .i64) (.pair (.int .i64) (.sl false (.pair (.int .i64) (.pair (.int .i64) (.pair (.int .i64) .str)))))))) (.sl false (.pair (.int .i64) (.pair (.pair (.int .i64) (.sl false (.int .i64))) (.pair (.pair (.int .i64) (.pair (.int .i64) (.pair (.int .i64) .str))) (.sl false (.int .i64)))))))))))))) (.pair (.sl false (.pair (.int .i64) (.pair (.int .i64) (.pair (.int .i64) (.pair (.pair (.int .i64) (.pair (.int .i64) (.pair (.int .i64) .str))) (.pair (.pair (.int .i64) (.pair (.int .i64) (.pair (.int .i64) (.pair (.int .i64) (.pair (.int .i64) (.sl false (.int .i64))))))) (.pair (.int .i64) (.pair (.int .i64) (.pair (.int .i64) (.sl false (.pair (.int .i64) (.pair (.int .i64) (.pair (.int .i64) .str))))))))))))) (.sl false (.pair (.int .i64) (.pair (.pair (.int .i64) (.sl false (.int .i64))) (.pair (.pair (.int .i64) (.pair (.int .i64) (.pair (.int .i64) .str))) (.sl false (.int .i64))))))))), .cell (.int .i64)], [], [.cell (.sl true (.pair (.int .i64) (.pair (.pair (.int .i64) (.sl true (.int .i64))) (.pair (.pair (.int .i64) (.pair (.int .i64) (.pair (.int .i64) .str))) (.sl true (.int .i64))))))], [], T_impl_LogOf⟩
theorem ok_impl_LogOf : FnOk Tryz.prog fn_impl_LogOf := evF_ok mixed (allOk_cons ok_impl_inRange (allOk_cons ok_impl_copyLog allOk_nil)) m_impl_LogOf (by decide)
def B_impl_textsOf_1 : TC := (.seq (.reg none [.p (.bin 9 false .lss (.t 8) (.t 7)) .unit])
 (.seq (.cond (.t 9) .skip (.exit 0))
 (.seq (.join ⟨[(3, false), (6, false), (7, false), (8, false)], [.cell (.sl true .str), .cell (.sl false (.pair (.int .i64) (.pair (.pair (.int .i64) (.sl false (.int .i64))) (.pair (.pair (.int .i64) (.pair (.int .i64) (.pair (.int .i64) .str))) (.sl false (.int .i64)))))), .cell (.int .i64), .cell (.int .i64)]⟩ (.block 1 (.seq (.reg none [.p (.iadr 10 8 (.t 6) (.t 8)) .unit,
  .p (.load 11 (.t 10) 8 true) .unit,
  .p (.alloc 5 [(.lit (.int .i64 0)), (.lit (.int .i64 0)), (.sl true 1 []), (.lit (.int .i64 0)), (.lit (.int .i64 0)), (.lit (.int .i64 0)), (.lit (.string (ba []))), (.sl true 1 [])]) .unit,
  .p (.store (.t 5) (.t 11) 8) .unit])
 (.seq (.reg none [.p (.fadr 12 (.t 5) 0) .unit,
  .p (.load 13 (.t 12) 1 false) .unit,
  .p (.bin 14 false .eql (.t 13) (.c (.int .i64 1))) .unit])
 (.cond (.t 14) (.reg none [.p (.mvT 15 3) .unit,
  .p (.fadr 16 (.t 5) 3) .unit,
  .p (.fadr 17 (.t 16) 3) .unit,
  .p (.load 18 (.t 17) 1 false) .unit,
  .p (.bldS 19 1 [(.lit (.string (ba [])))] [⟨0, 1, (.t 18)⟩]) .str,
  .p (.app 20 1 16 (.t 15) (.t 19)) .str,
  .p (.mvT 3 20) .unit]) .skip)))))
 (.reg none [.p (.bin 21 false .add (.t 8) (.c (.int .i64 1))) .unit,
  .p (.mv 8 (.t 21)) .unit]))))
noncomputable def L_impl_textsOf_1 : Nat → (List (List UInt8)) × (List (Int × (Int × List (Int)) × (Int × Int × Int × List UInt8) × List (Int))) × (Int) × Int → Option ((List (List UInt8)) ⊕ (List (List UInt8))) := evL [] (finT [.t 2] [] [.cell (.sl true .str)]) 0 ⟨[(3, false), (6, false), (7, false), (8, false)], [.cell (.sl true .str), .cell (.sl false (.pair (.int .i64) (.pair (.pair (.int .i64) (.sl false (.int .i64))) (.pair (.pair (.int .i64) (.pair (.int .i64) (.pair (.int .i64) .str))) (.sl false (.int .i64)))))), .cell (.int .i64), .cell (.int .i64)]⟩ ⟨[(3, false)], [.cell (.sl true .str)]⟩ B_impl_textsOf_1
def F_impl_textsOf : TF := ⟨(.seq (.reg none [.p (.mvN 2 1) .unit])
 (.seq (.reg none [.p (.mvN 3 1) .unit])
 (.seq (.seq (.reg none [.p (.mv 6 (.t 0)) .unit,
  .p (.lenB 7 (.t 6)) .unit,
  .p (.mv 8 (.c (.int .i64 0))) .unit])
 (.jl 0 ⟨[(3, false), (6, false), (7, false), (8, false)], [.cell (.sl true .str), .cell (.sl false (.pair (.int .i64) (.pair (.pair (.int .i64) (.sl false (.int .i64))) (.pair (.pair (.int .i64) (.pair (.int .i64) (.pair (.int .i64) .str))) (.sl false (.int .i64)))))), .cell (.int .i64), .cell (.int .i64)]⟩ ⟨[(3, false)], [.cell (.sl true .str)]⟩ B_impl_textsOf_1))
 (.seq (.reg none [.p (.mvT 22 3) .unit,
  .p (.mvT 2 22) .unit])
 .ret)))),
 23, 1, [.t 2]⟩
theorem m_impl_textsOf : mH Tryz.prog 27 [(6, 0, .t), (6, 6, .t), (8, 0, .t), (8, 1, .t)] = some (F_impl_textsOf.code.x, F_impl_textsOf.N, F_impl_textsOf.np, F_impl_textsOf.res) := by kernel_rfl
noncomputable def T_impl_textsOf : List (Int × (Int × List (Int)) × (Int × Int × Int × List UInt8) × List (Int)) → Option (List (List UInt8)) := evF [] F_impl_textsOf [.cell (.sl false (.pair (.int .i64) (.pair (.pair (.int .i64) (.sl false (.int .i64))) (.pair (.pair (.int .i64) (.pair (.int .i64) (.pair (.int .i64) .str))) (.sl false (.int .i64))))))] [] [.cell (.sl true .str)] []
noncomputable def fn_impl_textsOf : TFn := ⟨27, [.cell (.sl false (.pair (.int .i64) (.pair (.pair (.int .i64) (.sl false (.int .i64))) (.pair (.pair (.int .i64) (.pair (.int .i64) (.pair (.int .i64) .str))) (.sl false (.int .i64))))))], [], [.cell (.sl true .str)], [], T_impl_textsOf⟩
theorem ok_impl_textsOf : FnOk Tryz.prog fn_impl_textsOf := evF_ok mixed allOk_nil m_impl_textsOf (by decide)
def B_impl_isOnce_1 : TC := (.seq (.reg none [.p (.bin 11 false .lss (.t 10) (.t 9)) .unit])
 (.seq (.cond (.t 11) .skip (.exit 0))
 (.seq (.join ⟨[(1, true), (5, false), (8, false), (9, false), (10, false)], [.cell .str, .cell (.int .i64), .cell (.sl false .str), .cell (.int .i64), .cell (.int .i64)]⟩ (.block 1 (.seq (.reg none [.p (.iadr 12 1 (.t 8) (.t 10)) .unit,
  .p (.load 13 (.t 12) 1 false) .unit,
  .p (.mv 7 (.t 13)) .unit])
 (.seq (.reg none [.p (.mv 14 (.t 7)) .unit,
  .p (.mv 15 (.t 1)) .unit,
  .p (.bin 16 false .eql (.t 14) (.t 15)) .unit])
 (.cond (.t 16) (.reg none [.p (.mv 17 (.t 5)) .unit,
  .p (.bin 18 false .add (.t 17) (.c (.int .i64 1))) .unit,
  .p (.mv 5 (.t 18)) .unit]) .skip)))))
 (.reg none [.p (.bin 19 false .add (.t 10) (.c (.int .i64 1))) .unit,
  .p (.mv 10 (.t 19)) .unit]))))
noncomputable def L_impl_isOnce_1 : Nat → (List UInt8) × (Int) × (List (List UInt8)) × (Int) × Int → Option ((Int) ⊕ (Bool)) := evL [] (finT [.t 4] [] [.cell .bool]) 0 ⟨[(1, true), (5, false), (8, false), (9, false), (10, false)], [.cell .str, .cell (.int .i64), .cell (.sl false .str), .cell (.int .i64), .cell (.int .i64)]⟩ ⟨[(5, false)], [.cell (.int .i64)]⟩ B_impl_isOnce_1
def F_impl_isOnce : TF := ⟨(.seq (.reg none [.p (.mv 4 (.c (.bool false))) .unit])
 (.seq (.reg none [.p (.mv 5 (.c (.int .i64 0))) .unit])
 (.seq (.seq (.reg none [.p (.mv 8 (.t 0)) .unit,
  .p (.lenB 9 (.t 8)) .unit,
  .p (.mv 10 (.c (.int .i64 0))) .unit])
 (.jl 0 ⟨[(1, true), (5, false), (8, false), (9, false), (10, false)], [.cell .str, .cell (.int .i64), .cell (.sl false .str), .cell (.int .i64), .cell (.int .i64)]⟩ ⟨[(5, false)], [.cell (.int .i64)]⟩ B_impl_isOnce_1))
 (.seq (.reg none [.p (.mv 20 (.t 5)) .unit,
  .p (.bin 21 false .eql (.t 20) (.c (.int .i64 1))) .unit,
  .p (.mv 4 (.t 21)) .unit])
 .ret)))),
 22, 2, [.t 4]⟩
theorem m_impl_isOnce : mH Tryz.prog 57 [] = some (F_impl_isOnce.code.x, F_impl_isOnce.N, F_impl_isOnce.np, F_impl_isOnce.res) := by kernel_rfl
noncomputable def T_impl_isOnce : (List (List UInt8)) × List UInt8 → Option (Bool) := evF [] F_impl_isOnce [.cell (.sl false .str), .cell .str] [] [.cell .bool] []
noncomputable def fn_impl_isOnce : TFn := ⟨57, [.cell (.sl false .str), .cell .str], [], [.cell .bool], [], T_impl_isOnce⟩
theorem ok_impl_isOnce : FnOk Tryz.prog fn_impl_isOnce := evF_ok mixed allOk_nil m_impl_isOnce (by decide)
def B_impl_sharedBy_1 : TC := (.seq (.reg none [.p (.bin 13 false .lss (.t 12) (.t 11)) .unit])
 (.seq (.cond (.t 13) .skip (.exit 0))
 (.seq (.join ⟨[(0, true), (1, true), (2, true), (7, false), (10, false), (11, false), (12, false)], [.cell (.sl false .str), .cell (.sl false .str), .cell (.sl false .str), .cell (.sl true .str), .cell (.sl false .str), .cell (.int .i64), .cell (.int .i64)]⟩ (.block 1 (.seq (.reg none [.p (.iadr 14 1 (.t 10) (.t 12)) .unit,
  .p (.load 15 (.t 14) 1 false) .unit,
  .p (.mv 9 (.t 15)) .unit])
 (.seq (.join ⟨[(0, true), (1, true), (2, true), (7, false), (9, false), (10, false), (11, false), (12, false), (28, false)], [.cell (.sl false .str), .cell (.sl false .str), .cell (.sl false .str), .cell (.sl true .str), .cell .str, .cell (.sl false .str), .cell (.int .i64), .cell (.int .i64), .cell .bool]⟩ (.reg none [.p (.mv 16 (.t 0)) .unit,
  .p (.mv 17 (.t 9)) .unit,
  .p (.callB 18 n_impl_isOnce [((.t 16), 0), ((.t 17), 0)]) .unit,
  .p (.mv 19 (.t 18)) .unit,
  .g 19 true (some 20) (.mv 20 (.t 1)) .unit,
  .g 19 true (some 21) (.mv 21 (.t 9)) .unit,
  .g 19 true (some 22) (.callB 22 n_impl_isOnce [((.t 20), 0), ((.t 21), 0)]) .unit,
  .p (.pick 23 (.t 19) (.t 22) (.c (.bool false))) .unit,
  .p (.mv 24 (.t 23)) .unit,
  .g 24 true (some 25) (.mv 25 (.t 2)) .unit,
  .g 24 true (some 26) (.mv 26 (.t 9)) .unit,
  .g 24 true (some 27) (.callB 27 n_impl_isOnce [((.t 25), 0), ((.t 26), 0)]) .unit,
  .p (.pick 28 (.t 24) (.t 27) (.c (.bool false))) .unit]))
 (.cond (.t 28) (.reg none [.p (.mvT 29 7) .unit,
  .p (.mv 30 (.t 9)) .unit,
  .p (.bldS 31 1 [(.lit (.string (ba [])))] [⟨0, 1, (.t 30)⟩]) .str,
  .p (.app 32 1 16 (.t 29) (.t 31)) .str,
  .p (.mvT 7 32) .unit]) .skip)))))
 (.reg none [.p (.bin 33 false .add (.t 12) (.c (.int .i64 1))) .unit,
  .p (.mv 12 (.t 33)) .unit]))))
noncomputable def L_impl_sharedBy_1 : Nat → (List (List UInt8)) × (List (List UInt8)) × (List (List UInt8)) × (List (List UInt8)) × (List (List UInt8)) × (Int) × Int → Option ((List (List UInt8)) ⊕ (List (List UInt8))) := evL [fn_impl_isOnce] (finT [.t 6] [] [.cell (.sl true .str)]) 0 ⟨[(0, true), (1, true), (2, true), (7, false), (10, false), (11, false), (12, false)], [.cell (.sl false .str), .cell (.sl false .str), .cell (.sl false .str), .cell (.sl true .str), .cell (.sl false .str), .cell (.int .i64), .cell (.int .i64)]⟩ ⟨[(7, false)], [.cell (.sl true .str)]⟩ B_impl_sharedBy_1
def F_impl_sharedBy : TF := ⟨(.seq (.reg none [.p (.mvN 6 1) .unit])
 (.seq (.reg none [.p (.mvN 7 1) .unit])
 (.seq (.seq (.reg none [.p (.mv 10 (.t 0)) .unit,
  .p (.lenB 11 (.t 10)) .unit,
  .p (.mv 12 (.c (.int .i64 0))) .unit])
 (.jl 0 ⟨[(0, true), (1, true), (2, true), (7, false), (10, false), (11, false), (12, false)], [.cell (.sl false .str), .cell (.sl false .str), .cell (.sl false .str), .cell (.sl true .str), .cell (.sl false .str), .cell (.int .i64), .cell (.int .i64)]⟩ ⟨[(7, false)], [.cell (.sl true .str)]⟩ B_impl_sharedBy_1))
 (.seq (.reg none [.p (.mvT 34 7) .unit,
  .p (.mvT 6 34) .unit])
 .ret)))),
 35, 3, [.t 6]⟩
theorem m_impl_sharedBy : mH Tryz.prog 30 [(6, 0, .t), (6, 4, .t), (8, 0, .t), (8, 1, .t)] = some (F_impl_sharedBy.code.x, F_impl_sharedBy.N, F_impl_sharedBy.np, F_impl_sharedBy.res) := by kernel_rfl
noncomputable def T_impl_sharedBy : (List (List UInt8)) × (List (List UInt8)) × List (List UInt8) → Option (List (List UInt8)) := evF [fn_impl_isOnce] F_impl_sharedBy [.cell (.sl false .str), .cell (.sl false .str), .cell (.sl false .str)] [] [.cell (.sl true .str)] []
noncomputable def fn_impl_sharedBy : TFn := ⟨30, [.cell (.sl false .str), .cell (.sl false .str), .cell (.sl false .str)], [], [.cell (.sl true .str)], [], T_impl_sharedBy⟩
theorem ok_impl_sharedBy : FnOk Tryz.prog fn_impl_sharedBy := evF_ok mixed (allOk_cons ok_impl_isOnce allOk_nil) m_impl_sharedBy (by decide)
def B_slices_Equal___string_string__1 : TC := (.seq (.reg none [.p (.bin 14 false .lss (.t 13) (.t 12)) .unit])
 (.seq (.cond (.t 14) .skip (.exit 0))
 (.seq (.block 1 (.seq (.reg none [.p (.mv 15 (.t 13)) .unit,
  .p (.mv 5 (.t 15)) .unit])
 (.seq (.reg (some [[], [], [0, 1], [2], [], [], [4, 5], [6], [3, 7]]) [.p (.mv 16 (.t 0)) .unit,
  .p (.mv 17 (.t 5)) .unit,
  .p (.iadr 18 1 (.t 16) (.t 17)) .unit,
  .p (.load 19 (.t 18) 1 false) .unit,
  .p (.mv 20 (.t 1)) .unit,
  .p (.mv 21 (.t 5)) .unit,
  .p (.iadr 22 1 (.t 20) (.t 21)) .unit,
  .p (.load 23 (.t 22) 1 false) .unit,
  .p (.bin 24 false .neq (.t 19) (.t 23)) .unit])
 (.cond (.t 24) (.seq (.reg none [.p (.mv 4 (.c (.bool false))) .unit])
 .ret) .skip))))
 (.reg none [.p (.bin 25 false .add (.t 13) (.c (.int .i64 1))) .unit,
  .p (.mv 13 (.t 25)) .unit]))))
noncomputable def L_slices_Equal___string_string__1 : Nat → (List (List UInt8)) × (List (List UInt8)) × (Int) × Int → Option ((Unit) ⊕ (Bool)) := evL [] (finT [.t 4] [] [.cell .bool]) 0 ⟨[(0, true), (1, true), (12, false), (13, false)], [.cell (.sl false .str), .cell (.sl false .str), .cell (.int .i64), .cell (.int .i64)]⟩ ⟨[], []⟩ B_slices_Equal___string_string__1
def F_slices_Equal___string_string_ : TF := ⟨(.seq (.reg none [.p (.mv 4 (.c (.bool false))) .unit])
 (.seq (.seq (.reg none [.p (.mv 6 (.t 0)) .unit,
  .p (.lenB 7 (.t 6)) .unit,
  .p (.mv 8 (.t 1)) .unit,
  .p (.lenB 9 (.t 8)) .unit,
  .p (.bin 10 false .neq (.t 7) (.t 9)) .unit])
 (.cond (.t 10) (.seq (.reg none [.p (.mv 4 (.c (.bool false))) .unit])
 .ret) .skip))
 (.seq (.seq (.reg none [.p (.mv 11 (.t 0)) .unit,
  .p (.lenB 12 (.t 11)) .unit,
  .p (.mv 13 (.c (.int .i64 0))) .unit])
 (.jl 0 ⟨[(0, true), (1, true), (12, false), (13, false)], [.cell (.sl false .str), .cell (.sl false .str), .cell (.int .i64), .cell (.int .i64)]⟩ ⟨[], []⟩ B_slices_Equal___string_string__1))
 (.seq (.reg none [.p (.mv 4 (.c (.bool true))) .unit])
 .ret)))),
 26, 2, [.t 4]⟩
theorem m_slices_Equal___string_string_ : mH Tryz.prog 29 [] = some (F_slices_Equal___string_string_.code.x, F_slices_Equal___string_string_.N, F_slices_Equal___string_string_.np, F_slices_Equal___string_string_.res) := by kernel_rfl
noncomputable def T_slices_Equal___string_string_ : (List (List UInt8)) × List (List UInt8) → Option (Bool) := evF [] F_slices_Equal___string_string_ [.cell (.sl false .str), .cell (.sl false .str)] [] [.cell .bool] []
noncomputable def fn_slices_Equal___string_string_ : TFn := ⟨29, [.cell (.sl false .str), .cell (.sl false .str)], [], [.cell .bool], [], T_slices_Equal___string_string_⟩
theorem ok_slices_Equal___string_string_ : FnOk Tryz.prog fn_slices_Equal___string_string_ := evF_ok mixed allOk_nil m_slices_Equal___string_string_ (by decide)
def B_impl_OneHeard_1 : TC := (.seq (.reg none [.p (.bin 21 false .lss (.t 20) (.t 19)) .unit])
 (.seq (.cond (.t 21) .skip (.exit 2))
 (.seq (.join ⟨[(1, false), (3, false), (11, false), (12, false), (19, false), (20, false)], [.box (.pair (.pair (.sl false (.pair (.int .i64) (.sl false (.int .i64)))) (.pair (.sl false (.pair (.int .i64) (.pair .bool (.pair (.pair (.int .i64) (.pair (.pair (.int .i64) (.sl false (.int .i64))) (.pair (.sl false (.pair (.int .i64) (.pair (.int .i64) (.pair (.int .i64) .str)))) (.pair (.sl false (.int .i64)) (.pair (.sl false .str) (.pair (.int .i64) (.pair (.int .i64) (.pair (.int .i64) (.pair (.int .i64) (.pair (.int .i64) (.pair (.int .i64) (.pair (.int .i64) (.pair (.int .i64) (.pair (.int .i64) (.sl false (.int .i64)))))))))))))))) (.pair (.int .i64) (.pair (.int .i64) (.pair (.pair (.int .i64) (.sl false (.int .i64))) (.pair (.sl false (.pair (.int .i64) (.pair (.int .i64) (.pair (.int .i64) (.sl false (.pair (.int .i64) (.pair (.int .i64) (.pair (.int .i64) .str)))))))) (.sl false (.pair (.int .i64) (.pair (.pair (.int .i64) (.sl false (.int .i64))) (.pair (.pair (.int .i64) (.pair (.int .i64) (.pair (.int .i64) .str))) (.sl false (.int .i64)))))))))))))) (.pair (.sl false (.pair (.int .i64) (.pair (.int .i64) (.pair (.int .i64) (.pair (.pair (.int .i64) (.pair (.int .i64) (.pair (.int .i64) .str))) (.pair (.pair (.int .i64) (.pair (.int .i64) (.pair (.int .i64) (.pair (.int .i64) (.pair (.int .i64) (.sl false (.int .i64))))))) (.pair (.int .i64) (.pair (.int .i64) (.pair (.int .i64) (.sl false (.pair (.int .i64) (.pair (.int .i64) (.pair (.int .i64) .str))))))))))))) (.sl false (.pair (.int .i64) (.pair (.pair (.int .i64) (.sl false (.int .i64))) (.pair (.pair (.int .i64) (.pair (.int .i64) (.pair (.int .i64) .str))) (.sl false (.int .i64))))))))) (.pair (.sl false (.pair (.pair (.int .i64) (.pair .str (.pair (.pair .str .bool) (.pair .bool (.sl false .str))))) (.pair (.pair .str (.pair (.sl false .str) .bool)) (.pair .str (.sl false .str))))) (.pair (.sl false (.sl false (.pair .str (.sl false .str)))) (.sl false (.int .i64))))), .cell (.int .i64), .cell (.int .i64), .cell (.int .i64), .cell (.int .i64), .cell (.int .i64)]⟩ (.block 3 (.seq (.reg none [.p (.mv 22 (.t 20)) .unit,
  .p (.mv 4 (.t 22)) .unit])
 (.seq (.reg none [.p (.fadr 23 (.t 1) 4) .unit,
  .p (.load 24 (.t 23) 1 false) .unit,
  .p (.mv 25 (.t 3)) .unit,
  .p (.iadr 26 11 (.t 24) (.t 25)) .unit,
  .p (.fadr 27 (.t 26) 0) .unit,
  .p (.fadr 28 (.t 27) 0) .unit,
  .p (.load 29 (.t 28) 1 false) .unit,
  .p (.mv 5 (.t 29)) .unit])
 (.seq (.seq (.reg none [.p (.fadr 30 (.t 1) 4) .unit,
  .p (.load 31 (.t 30) 1 false) .unit,
  .p (.mv 32 (.t 4)) .unit,
  .p (.iadr 33 11 (.t 31) (.t 32)) .unit,
  .p (.fadr 34 (.t 33) 0) .unit,
  .p (.fadr 35 (.t 34) 0) .unit,
  .p (.load 36 (.t 35) 1 false) .unit,
  .p (.mv 37 (.t 5)) .unit,
  .p (.bin 38 false .neq (.t 36) (.t 37)) .unit])
 (.cond (.t 38) (.exit 3) .skip))
 (.seq (.reg (some [[], [], [1], [0, 2], [], [], [5], [4, 6, 3], [3, 7, 0, 1, 2, 3], [7, 8, 0, 1, 2, 3, 4, 5, 6, 7, 8]]) [.p (.load 39 (.t 1) 7 true) .unit,
  .p (.mv 40 (.t 3)) .unit,
  .p (.bin 41 false .add (.t 40) (.c (.int .i64 1))) .unit,
  .p (.callB 42 n_impl_Heard [((.t 39), 0), ((.t 41), 0)]) .unit,
  .p (.load 43 (.t 1) 7 true) .unit,
  .p (.mv 44 (.t 4)) .unit,
  .p (.bin 45 false .add (.t 44) (.c (.int .i64 1))) .unit,
  .p (.callB 46 n_impl_Heard [((.t 43), 0), ((.t 45), 0)]) .unit,
  .p (.mvT 6 42) .unit,
  .p (.mvT 7 46) .unit])
 (.seq (.reg none [.p (.fadr 47 (.t 1) 0) .unit,
  .p (.load 48 (.t 47) 4 true) .unit,
  .p (.mv 49 (.t 5)) .unit,
  .p (.callB 50 n_impl_LogOf [((.t 48), 0), ((.t 49), 0)]) .unit,
  .p (.callB 51 n_impl_textsOf [((.t 50), 0)]) .unit,
  .p (.mvT 8 51) .unit])
 (.seq (.reg none [.p (.mvA 52 6) .unit,
  .p (.mvA 53 7) .unit,
  .p (.mvA 54 8) .unit,
  .p (.callB 55 n_impl_sharedBy [((.t 52), 0), ((.t 53), 0), ((.t 54), 0)]) .unit,
  .p (.mvT 56 7) .unit,
  .p (.mvT 57 6) .unit,
  .p (.mvT 58 8) .unit,
  .p (.callB 59 n_impl_sharedBy [((.t 56), 0), ((.t 57), 0), ((.t 58), 0)]) .unit,
  .p (.callB 60 n_slices_Equal___string_string_ [((.t 55), 0), ((.t 59), 0)]) .unit,
  .p (.un 61 .not (.t 60)) .unit])
 (.cond (.t 61) (.seq (.reg none [.p (.mv 2 (.c (.bool false))) .unit])
 .ret) .skip)))))))))
 (.reg none [.p (.bin 62 false .add (.t 20) (.c (.int .i64 1))) .unit,
  .p (.mv 20 (.t 62)) .unit]))))
noncomputable def L_impl_OneHeard_1 : Nat → ((List (Int × List (Int)) × List (Int × Bool × (Int × (Int × List (Int)) × List (Int × Int × Int × List UInt8) × List (Int) × List (List UInt8) × Int × Int × Int × Int × Int × Int × Int × Int × Int × List (Int)) × Int × Int × (Int × List (Int)) × List (Int × Int × Int × List (Int × Int × Int × List UInt8)) × List (Int × (Int × List (Int)) × (Int × Int × Int × List UInt8) × List (Int))) × List (Int × Int × Int × (Int × Int × Int × List UInt8) × (Int × Int × Int × Int × Int × List (Int)) × Int × Int × Int × List (Int × Int × Int × List UInt8)) × List (Int × (Int × List (Int)) × (Int × Int × Int × List UInt8) × List (Int))) × List ((Int × List UInt8 × (List UInt8 × Bool) × Bool × List (List UInt8)) × (List UInt8 × List (List UInt8) × Bool) × List UInt8 × List (List UInt8)) × List (List (List UInt8 × List (List UInt8))) × List (Int)) × (Int) × (Int) × (Int) × (Int) × Int → Option ((((List (Int × List (Int)) × List (Int × Bool × (Int × (Int × List (Int)) × List (Int × Int × Int × List UInt8) × List (Int) × List (List UInt8) × Int × Int × Int × Int × Int × Int × Int × Int × Int × List (Int)) × Int × Int × (Int × List (Int)) × List (Int × Int × Int × List (Int × Int × Int × List UInt8)) × List (Int × (Int × List (Int)) × (Int × Int × Int × List UInt8) × List (Int))) × List (Int × Int × Int × (Int × Int × Int × List UInt8) × (Int × Int × Int × Int × Int × List (Int)) × Int × Int × Int × List (Int × Int × Int × List UInt8)) × List (Int × (Int × List (Int)) × (Int × Int × Int × List UInt8) × List (Int))) × List ((Int × List UInt8 × (List UInt8 × Bool) × Bool × List (List UInt8)) × (List UInt8 × List (List UInt8) × Bool) × List UInt8 × List (List UInt8)) × List (List (List UInt8 × List (List UInt8))) × List (Int)) × (Int) × Int) ⊕ (Bool)) := evL [fn_impl_Heard, fn_impl_LogOf, fn_impl_textsOf, fn_impl_sharedBy, fn_slices_Equal___string_string_] (finT [.t 2] [] [.cell .bool]) 2 ⟨[(1, false), (3, false), (11, false), (12, false), (19, false), (20, false)], [.box (.pair (.pair (.sl false (.pair (.int .i64) (.sl false (.int .i64)))) (.pair (.sl false (.pair (.int .i64) (.pair .bool (.pair (.pair (.int .i64) (.pair (.pair (.int .i64) (.sl false (.int .i64))) (.pair (.sl false (.pair (.int .i64) (.pair (.int .i64) (.pair (.int .i64) .str)))) (.pair (.sl false (.int .i64)) (.pair (.sl false .str) (.pair (.int .i64) (.pair (.int .i64) (.pair (.int .i64) (.pair (.int .i64) (.pair (.int .i64) (.pair (.int .i64) (.pair (.int .i64) (.pair (.int .i64) (.pair (.int .i64) (.sl false (.int .i64)))))))))))))))) (.pair (.int .i64) (.pair (.int .i64) (.pair (.pair (.int .i64) (.sl false (.int .i64))) (.pair (.sl false (.pair (.int .i64) (.pair (.int .i64) (.pair (.int .i64) (.sl false (.pair (.int .i64) (.pair (.int .i64) (.pair (.int .i64) .str)))))))) (.sl false (.pair (.int .i64) (.pair (.pair (.int .i64) (.sl false (.int .i64))) (.pair (.pair (.int .i64) (.pair (.int .i64) (.pair (.int .i64) .str))) (.sl false (.int .i64)))))))))))))) (.pair (.sl false (.pair (.int .i64) (.pair (.int .i64) (.pair (.int .i64) (.pair (.pair (.int .i64) (.pair (.int .i64) (.pair (.int .i64) .str))) (.pair (.pair (.int .i64) (.pair (.int .i64) (.pair (.int .i64) (.pair (.int .i64) (.pair (.int .i64) (.sl false (.int .i64))))))) (.pair (.int .i64) (.pair (.int .i64) (.pair (.int .i64) (.sl false (.pair (.int .i64) (.pair (.int .i64) (.pair (.int .i64) .str))))))))))))) (.sl false (.pair (.int .i64) (.pair (.pair (.int .i64) (.sl false (.int .i64))) (.pair (.pair (.int .i64) (.pair (.int .i64) (.pair (.int .i64) .str))) (.sl false (.int .i64))))))))) (.pair (.sl false (.pair (.pair (.int .i64) (.pair .str (.pair (.pair .str .bool) (.pair .bool (.sl false .str))))) (.pair (.pair .str (.pair (.sl false .str) .bool)) (.pair .str (.sl false .str))))) (.pair (.sl false (.sl false (.pair .str (.sl false .str)))) (.sl false (.int .i64))))), .cell (.int .i64), .cell (.int .i64), .cell (.int .i64), .cell (.int .i64), .cell (.int .i64)]⟩ ⟨[(1, false), (11, false), (12, false)], [.box (.pair (.pair (.sl false (.pair (.int .i64) (.sl false (.int .i64)))) (.pair (.sl false (.pair (.int .i64) (.pair .bool (.pair (.pair (.int .i64) (.pair (.pair (.int .i64) (.sl false (.int .i64))) (.pair (.sl false (.pair (.int .i64) (.pair (.int .i64) (.pair (.int .i64) .str)))) (.pair (.sl false (.int .i64)) (.pair (.sl false .str) (.pair (.int .i64) (.pair (.int .i64) (.pair (.int .i64) (.pair (.int .i64) (.pair (.int .i64) (.pair (.int .i64) (.pair (.int .i64) (.pair (.int .i64) (.pair (.int .i64) (.sl false (.int .i64)))))))))))))))) (.pair (.int .i64) (.pair (.int .i64) (.pair (.pair (.int .i64) (.sl false (.int .i64))) (.pair (.sl false (.pair (.int .i64) (.pair (.int .i64) (.pair (.int .i64) (.sl false (.pair (.int .i64) (.pair (.int .i64) (.pair (.int .i64) .str)))))))) (.sl false (.pair (.int .i64) (.pair (.pair (.int .i64) (.sl false (.int .i64))) (.pair (.pair (.int .i64) (.pair (.int .i64) (.pair (.int .i64) .str))) (.sl false (.int .i64)))))))))))))) (.pair (.sl false (.pair (.int .i64) (.pair (.int .i64) (.pair (.int .i64) (.pair (.pair (.int .i64) (.pair (.int .i64) (.pair (.int .i64) .str))) (.pair (.pair (.int .i64) (.pair (.int .i64) (.pair (.int .i64) (.pair (.int .i64) (.pair (.int .i64) (.sl false (.int .i64))))))) (.pair (.int .i64) (.pair (.int .i64) (.pair (.int .i64) (.sl false (.pair (.int .i64) (.pair (.int .i64) (.pair (.int .i64) .str))))))))))))) (.sl false (.pair (.int .i64) (.pair (.pair (.int .i64) (.sl false (.int .i64))) (.pair (.pair (.int .i64) (.pair (.int .i64) (.pair (.int .i64) .str))) (.sl false (.int .i64))))))))) (.pair (.sl false (.pair (.pair (.int .i64) (.pair .str (.pair (.pair .str .bool) (.pair .bool (.sl false .str))))) (.pair (.pair .str (.pair (.sl false .str) .bool)) (.pair .str (.sl false .str))))) (.pair (.sl false (.sl false (.pair .str (.sl false .str)))) (.sl false (.int .i64))))), .cell (.int .i64), .cell (.int .i64)]⟩ B_impl_OneHeard_1
def B_impl_OneHeard_2 : TC := (.seq (.reg none [.p (.bin 13 false .lss (.t 12) (.t 11)) .unit])
 (.seq (.cond (.t 13) .skip (.exit 0))
 (.seq (.block 1 (.seq (.reg none [.p (.mv 14 (.t 12)) .unit,
  .p (.mv 3 (.t 14)) .unit])
 (.seq (.reg none [.p (.fadr 15 (.t 1) 4) .unit,
  .p (.load 16 (.t 15) 1 false) .unit,
  .p (.mv 17 (.t 3)) .unit,
  .p (.cutS 18 11 (.t 16) none (some (.t 17))) .unit,
  .p (.lenB 19 (.t 18)) .unit,
  .p (.mv 20 (.c (.int .i64 0))) .unit])
 (.jl 2 ⟨[(1, false), (3, false), (11, false), (12, false), (19, false), (20, false)], [.box (.pair (.pair (.sl false (.pair (.int .i64) (.sl false (.int .i64)))) (.pair (.sl false (.pair (.int .i64) (.pair .bool (.pair (.pair (.int .i64) (.pair (.pair (.int .i64) (.sl false (.int .i64))) (.pair (.sl false (.pair (.int .i64) (.pair (.int .i64) (.pair (.int .i64) .str)))) (.pair (.sl false (.int .i64)) (.pair (.sl false .str) (.pair (.int .i64) (.pair (.int .i64) (.pair (.int .i64) (.pair (.int .i64) (.pair (.int .i64) (.pair (.int .i64) (.pair (.int .i64) (.pair (.int .i64) (.pair (.int .i64) (.sl false (.int .i64)))))))))))))))) (.pair (.int .i64) (.pair (.int .i64) (.pair (.pair (.int .i64) (.sl false (.int .i64))) (.pair (.sl false (.pair (.int .i64) (.pair (.int .i64) (.pair (.int .i64) (.sl false (.pair (.int .i64) (.pair (.int .i64) (.pair (.int .i64) .str)))))))) (.sl false (.pair (.int .i64) (.pair (.pair (.int .i64) (.sl false (.int .i64))) (.pair (.pair (.int .i64) (.pair (.int .i64) (.pair (.int .i64) .str))) (.sl false (.int .i64)))))))))))))) (.pair (.sl false (.pair (.int .i64) (.pair (.int .i64) (.pair (.int .i64) (.pair (.pair (.int .i64) (.pair (.int .i64) (.pair (.int .i64) .str))) (.pair (.pair (.int .i64) (.pair (.int .i64) (.pair (.int .i64) (.pair (.int .i64) (.pair (.int .i64) (.sl false (.int .i64))))))) (.pair (.int .i64) (.pair (.int .i64) (.pair (.int .i64) (.sl false (.pair (.int .i64) (.pair (.int .i64) (.pair (.int .i64) .str))))))))))))) (.sl false (.pair (.int .i64) (.pair (.pair (.int .i64) (.sl false (.int .i64))) (.pair (.pair (.int .i64) (.pair (.int .i64) (.pair (.int .i64) .str))) (.sl false (.int .i64))))))))) (.pair (.sl false (.pair (.pair (.int .i64) (.pair .str (.pair (.pair .str .bool) (.pair .bool (.sl false .str))))) (.pair (.pair .str (.pair (.sl false .str) .bool)) (.pair .str (.sl false .str))))) (.pair (.sl false (.sl false (.pair .str (.sl false .str)))) (.sl false (.int .i64))))), .cell (.int .i64), .cell (.int .i64), .cell (.int .i64), .cell (.int .i64), .cell (.int .i64)]⟩ ⟨[(1, false), (11, false), (12, false)], [.box (.pair (.pair (.sl false (.pair (.int .i64) (.sl false (.int .i64)))) (.pair (.sl false (.pair (.int .i64) (.pair .bool (.pair (.pair (.int .i64) (.pair (.pair (.int .i64) (.sl false (.int .i64))) (.pair (.sl false (.pair (.int .i64) (.pair (.int .i64) (.pair (.int .i64) .str)))) (.pair (.sl false (.int .i64)) (.pair (.sl false .str) (.pair (.int .i64) (.pair (.int .i64) (.pair (.int .i64) (.pair (.int .i64) (.pair (.int .i64) (.pair (.int .i64) (.pair (.int .i64) (.pair (.int .i64) (.pair (.int .i64) (.sl false (.int .i64)))))))))))))))) (.pair (.int .i64) (.pair (.int .i64) (.pair (.pair (.int .i64) (.sl false (.int .i64))) (.pair (.sl false (.pair (.int .i64) (.pair (.int .i64) (.pair (.int .i64) (.sl false (.pair (.int .i64) (.pair (.int .i64) (.pair (.int .i64) .str)))))))) (.sl false (.pair (.int .i64) (.pair (.pair (.int .i64) (.sl false (.int .i64))) (.pair (.pair (.int .i64) (.pair (.int .i64) (.pair (.int .i64) .str))) (.sl false (.int .i64)))))))))))))) (.pair (.sl false (.pair (.int .i64) (.pair (.int .i64) (.pair (.int .i64) (.pair (.pair (.int .i64) (.pair (.int .i64) (.pair (.int .i64) .str))) (.pair (.pair (.int .i64) (.pair (.int .i64) (.pair (.int .i64) (.pair (.int .i64) (.pair (.int .i64) (.sl false (.int .i64))))))) (.pair (.int .i64) (.pair (.int .i64) (.pair (.int .i64) (.sl false (.pair (.int .i64) (.pair (.int .i64) (.pair (.int .i64) .str))))))))))))) (.sl false (.pair (.int .i64) (.pair (.pair (.int .i64) (.sl false (.int .i64))) (.pair (.pair (.int .i64) (.pair (.int .i64) (.pair (.int .i64) .str))) (.sl false (.int .i64))))))))) (.pair (.sl false (.pair (.pair (.int .i64) (.pair .str (.pair (.pair .str .bool) (.pair .bool (.sl false .str))))) (.pair (.pair .str (.pair (.sl false .str) .bool)) (.pair .str (.sl false .str))))) (.pair (.sl false (.sl false (.pair .str (.sl false .str)))) (.sl false (.int .i64))))), .cell (.int .i64), .cell (.int .i64)]⟩ B_impl_OneHeard_1))))
 (.reg none [.p (.bin 63 false .add (.t 12) (.c (.int .i64 1))) .unit,
  .p (.mv 12 (.t 63)) .unit]))))
noncomputable def L_impl_OneHeard_2 : Nat → ((List (Int × List (Int)) × List (Int × Bool × (Int × (Int × List (Int)) × List (Int × Int × Int × List UInt8) × List (Int) × List (List UInt8) × Int × Int × Int × Int × Int × Int × Int × Int × Int × List (Int)) × Int × Int × (Int × List (Int)) × List (Int × Int × Int × List (Int × Int × Int × List UInt8)) × List (Int × (Int × List (Int)) × (Int × Int × Int × List UInt8) × List (Int))) × List (Int × Int × Int × (Int × Int × Int × List UInt8) × (Int × Int × Int × Int × Int × List (Int)) × Int × Int × Int × List (Int × Int × Int × List UInt8)) × List (Int × (Int × List (Int)) × (Int × Int × Int × List UInt8) × List (Int))) × List ((Int × List UInt8 × (List UInt8 × Bool) × Bool × List (List UInt8)) × (List UInt8 × List (List UInt8) × Bool) × List UInt8 × List (List UInt8)) × List (List (List UInt8 × List (List UInt8))) × List (Int)) × (Int) × Int → Option ((Unit) ⊕ (Bool)) := evL [fn_impl_Heard, fn_impl_LogOf, fn_impl_textsOf, fn_impl_sharedBy, fn_slices_Equal___string_string_] (finT [.t 2] [] [.cell .bool]) 0 ⟨[(1, false), (11, false), (12, false)], [.box (.pair (.pair (.sl false (.pair (.int .i64) (.sl false (.int .i64)))) (.pair (.sl false (.pair (.int .i64) (.pair .bool (.pair (.pair (.int .i64) (.pair (.pair (.int .i64) (.sl false (.int .i64))) (.pair (.sl false (.pair (.int .i64) (.pair (.int .i64) (.pair (.int .i64) .str)))) (.pair (.sl false (.int .i64)) (.pair (.sl false .str) (.pair (.int .i64) (.pair (.int .i64) (.pair (.int .i64) (.pair (.int .i64) (.pair (.int .i64) (.pair (.int .i64) (.pair (.int .i64) (.pair (.int .i64) (.pair (.int .i64) (.sl false (.int .i64)))))))))))))))) (.pair (.int .i64) (.pair (.int .i64) (.pair (.pair (.int .i64) (.sl false (.int .i64))) (.pair (.sl false (.pair (.int .i64) (.pair (.int .i64) (.pair (.int .i64) (.sl false (.pair (.int .i64) (.pair (.int .i64) (.pair (.int .i64) .str)))))))) (.sl false (.pair (.int .i64) (.pair (.pair (.int .i64) (.sl false (.int .i64))) (.pair (.pair (.int .i64) (.pair (.int .i64) (.pair (.int .i64) .str))) (.sl false (.int .i64)))))))))))))) (.pair (.sl false (.pair (.int .i64) (.pair (.int .i64) (.pair (.int .i64) (.pair (.pair (.int .i64) (.pair (.int .i64) (.pair (.int .i64) .str))) (.pair (.pair (.int .i64) (.pair (.int .i64) (.pair (.int .i64) (.pair (.int .i64) (.pair (.int .i64) (.sl false (.int .i64))))))) (.pair (.int .i64) (.pair (.int .i64) (.pair (.int .i64) (.sl false (.pair (.int .i64) (.pair (.int .i64) (.pair (.int .i64) .str))))))))))))) (.sl false (.pair (.int .i64) (.pair (.pair (.int .i64) (.sl false (.int .i64))) (.pair (.pair (.int .i64) (.pair (.int .i64) (.pair (.int .i64) .str))) (.sl false (.int .i64))))))))) (.pair (.sl false (.pair (.pair (.int .i64) (.pair .str (.pair (.pair .str .bool) (.pair .bool (.sl false .str))))) (.pair (.pair .str (.pair (.sl false .str) .bool)) (.pair .str (.sl false .str))))) (.pair (.sl false (.sl false (.pair .str (.sl false .str)))) (.sl false (.int .i64))))), .cell (.int .i64), .cell (.int .i64)]⟩ ⟨[], []⟩ B_impl_OneHeard_2
def F_impl_OneHeard : TF := ⟨(.seq (.reg none [.p (.box 1 (.t 0)) .unit,
  .p (.mv 2 (.c (.bool false))) .unit])
 (.seq (.seq (.reg none [.p (.fadr 9 (.t 1) 4) .unit,
  .p (.load 10 (.t 9) 1 false) .unit,
  .p (.lenB 11 (.t 10)) .unit,
  .p (.mv 12 (.c (.int .i64 0))) .unit])
 (.jl 0 ⟨[(1, false), (11, false), (12, false)], [.box (.pair (.pair (.sl false (.pair (.int .i64) (.sl false (.int .i64)))) (.pair (.sl false (.pair (.int .i64) (.pair .bool (.pair (.pair (.int .i64) (.pair (.pair (.int .i64) (.sl false (.int .i64))) (.pair (.sl false (.pair (.int .i64) (.pair (.int .i64) (.pair (.int .i64) .str)))) (.pair (.sl false (.int .i64)) (.pair (.sl false .str) (.pair (.int .i64) (.pair (.int .i64) (.pair (.int .i64) (.pair (.int .i64) (.pair (.int .i64) (.pair (.int .i64) (.pair (.int .i64) (.pair (.int .i64) (.pair (.int .i64) (.sl false (.int .i64)))))))))))))))) (.pair (.int .i64) (.pair (.int .i64) (.pair (.pair (.int .i64) (.sl false (.int .i64))) (.pair (.sl false (.pair (.int .i64) (.pair (.int .i64) (.pair (.int .i64) (.sl false (.pair (.int .i64) (.pair (.int .i64) (.pair (.int .i64) .str)))))))) (.sl false (.pair (.int .i64) (.pair (.pair (.int .i64) (.sl false (.int .i64))) (.pair (.pair (.int .i64) (.pair (.int .i64) (.pair (.int .i64) .str))) (.sl false (.int .i64)))))))))))))) (.pair (.sl false (.pair (.int .i64) (.pair (.int .i64) (.pair (.int .i64) (.pair (.pair (.int .i64) (.pair (.int .i64) (.pair (.int .i64) .str))) (.pair (.pair (.int .i64) (.pair (.int .i64) (.pair (.int .i64) (.pair (.int .i64) (.pair (.int .i64) (.sl false (.int .i64))))))) (.pair (.int .i64) (.pair (.int .i64) (.pair (.int .i64) (.sl false (.pair (.int .i64) (.pair (.int .i64) (.pair (.int .i64) .str))))))))))))) (.sl false (.pair (.int .i64) (.pair (.pair (.int .i64) (.sl false (.int .i64))) (.pair (.pair (.int .i64) (.pair (.int .i64) (.pair (.int .i64) .str))) (.sl false (.int .i64))))))))) (.pair (.sl false (.pair (.pair (.int .i64) (.pair .str (.pair (.pair .str .bool) (.pair .bool (.sl false .str))))) (.pair (.pair .str (.pair (.sl false .str) .bool)) (.pair .str (.sl false .str))))) (.pair (.sl false (.sl false (.pair .str (.sl false .str)))) (.sl false (.int .i64))))), .cell (.int .i64), .cell (.int .i64)]⟩ ⟨[], []⟩ B_impl_OneHeard_2))
 (.seq (.reg none [.p (.mv 2 (.c (.bool true))) .unit])
 .ret))),
 64, 1, [.t 2]⟩
theorem m_impl_OneHeard : mH Tryz.prog 8 [(9, 8, .t), (9, 9, .t), (10, 5, .t), (11, 0, .v), (11, 1, .v), (11, 2, .v), (11, 4, .t), (11, 5, .t), (11, 6, .t)] = some (F_impl_OneHeard.code.x, F_impl_OneHeard.N, F_impl_OneHeard.np, F_impl_OneHeard.res) := by kernel_rfl
noncomputable def T_impl_OneHeard : (List (Int × List (Int)) × List (Int × Bool × (Int × (Int × List (Int)) × List (Int × Int × Int × List UInt8) × List (Int) × List (List UInt8) × Int × Int × Int × Int × Int × Int × Int × Int × Int × List (Int)) × Int × Int × (Int × List (Int)) × List (Int × Int × Int × List (Int × Int × Int × List UInt8)) × List (Int × (Int × List (Int)) × (Int × Int × Int × List UInt8) × List (Int))) × List (Int × Int × Int × (Int × Int × Int × List UInt8) × (Int × Int × Int × Int × Int × List (Int)) × Int × Int × Int × List (Int × Int × Int × List UInt8)) × List (Int × (Int × List (Int)) × (Int × Int × Int × List UInt8) × List (Int))) × List ((Int × List UInt8 × (List UInt8 × Bool) × Bool × List (List UInt8)) × (List UInt8 × List (List UInt8) × Bool) × List UInt8 × List (List UInt8)) × List (List (List UInt8 × List (List UInt8))) × List (Int) → Option (Bool) := evF [fn_impl_Heard, fn_impl_LogOf, fn_impl_textsOf, fn_impl_sharedBy, fn_slices_Equal___string_string_] F_impl_OneHeard [.agg (.pair (.pair (.sl false (.pair (.int .i64) (.sl false (.int .i64)))) (.pair (.sl false (.pair (.int .i64) (.pair .bool (.pair (.pair (.int .i64) (.pair (.pair (.int .i64) (.sl false (.int .i64))) (.pair (.sl false (.pair (.int .i64) (.pair (.int .i64) (.pair (.int .i64) .str)))) (.pair (.sl false (.int .i64)) (.pair (.sl false .str) (.pair (.int .i64) (.pair (.int .i64) (.pair (.int .i64) (.pair (.int .i64) (.pair (.int .i64) (.pair (.int .i64) (.pair (.int .i64) (.pair (.int .i64) (.pair (.int .i64) (.sl false (.int .i64)))))))))))))))) (.pair (.int .i64) (.pair (.int .i64) (.pair (.pair (.int .i64) (.sl false (.int .i64))) (.pair (.sl false (.pair (.int .i64) (.pair (.int .i64) (.pair (.int .i64) (.sl false (.pair (.int .i64) (.pair (.int .i64) (.pair (.int .i64) .str)))))))) (.sl false (.pair (.int .i64) (.pair (.pair (.int .i64) (.sl false (.int .i64))) (.pair (.pair (.int .i64) (.pair (.int .i64) (.pair (.int .i64) .str))) (.sl false (.int .i64)))))))))))))) (.pair (.sl false (.pair (.int .i64) (.pair (.int .i64) (.pair (.int .i64) (.pair (.pair (.int .i64) (.pair (.int .i64) (.pair (.int .i64) .str))) (.pair (.pair (.int .i64) (.pair (.int .i64) (.pair (.int .i64) (.pair (.int .i64) (.pair (.int .i64) (.sl false (.int .i64))))))) (.pair (.int .i64) (.pair (.int .i64) (.pair (.int .i64) (.sl false (.pair (.int .i64) (.pair (.int .i64) (.pair (.int .i64) .str))))))))))))) (.sl false (.pair (.int .i64) (.pair (.pair (.int .i64) (.sl false (.int .i64))) (.pair (.pair (.int .i64) (.pair (.int .i64) (.pair (.int .i64) .str))) (.sl false (.int .i64))))))))) (.pair (.sl false (.pair (.pair (.int .i64) (.pair .str (.pair (.pair .str .bool) (.pair .bool (.sl false .str))))) (.pair (.pair .str (.pair (.sl false .str) .bool)) (.pair .str (.sl false .str))))) (.pair (.sl false (.sl false (.pair .str (.sl false .str)))) (.sl false (.int .i64)))))] [] [.cell .bool] []
noncomputable def fn_impl_OneHeard : TFn := ⟨8, [.agg (.pair (.pair (.sl false (.pair (.int .i64) (.sl false (.int .i64)))) (.pair (.sl false (.pair (.int .i64) (.pair .bool (.pair (.pair (.int .i64) (.pair (.pair (.int .i64) (.sl false (.int .i64))) (.pair (.sl false (.pair (.int .i64) (.pair (.int .i64) (.pair (.int .i64) .str)))) (.pair (.sl false (.int .i64)) (.pair (.sl false .str) (.pair (.int .i64) (.pair (.int .i64) (.pair (.int .i64) (.pair (.int .i64) (.pair (.int .i64) (.pair (.int .i64) (.pair (.int .i64) (.pair (.int .i64) (.pair (.int .i64) (.sl false (.int .i64)))))))))))))))) (.pair (.int .i64) (.pair (.int .i64) (.pair (.pair (.int .i64) (.sl false (.int .i64))) (.pair (.sl false (.pair (.int .i64) (.pair (.int .i64) (.pair (.int .i64) (.sl false (.pair (.int .i64) (.pair (.int .i64) (.pair (.int .i64) .str)))))))) (.sl false (.pair (.int .i64) (.pair (.pair (.int .i64) (.sl false (.int .i64))) (.pair (.pair (.int .i64) (.pair (.int .i64) (.pair (.int .i64) .str))) (.sl false (.int .i64)))))))))))))) (.pair (.sl false (.pair (.int .i64) (.pair (.int .i64) (.pair (.int .i64) (.pair (.pair (.int .i64) (.pair (.int .i64) (.pair (.int .i64) .str))) (.pair (.pair (.int .i64) (.pair (.int .i64) (.pair (.int .i64) (.pair (.int .i64) (.pair (.int .i64) (.sl false (.int .i64))))))) (.pair (.int .i64) (.pair (.int .i64) (.pair (.int .i64) (.sl false (.pair (.int .i64) (.pair (.int .i64) (.pair (.int .i64) .str))))))))))))) (.sl false (.pair (.int .i64) (.pair (.pair (.int .i64) (.sl false (.int .i64))) (.pair (.pair (.int .i64) (.pair (.int .i64) (.pair (.int .i64) .str))) (.sl false (.int .i64))))))))) (.pair (.sl false (.pair (.pair (.int .i64) (.pair .str (.pair (.pair .str .bool) (.pair .bool (.sl false .str))))) (.pair (.pair .str (.pair (.sl false .str) .bool)) (.pair .str (.sl false .str))))) (.pair (.sl false (.sl false (.pair .str (.sl false .str)))) (.sl false (.int .i64)))))], [], [.cell .bool], [], T_impl_OneHeard⟩
theorem ok_impl_OneHeard : FnOk Tryz.prog fn_impl_OneHeard := evF_ok mixed (allOk_cons ok_impl_Heard (allOk_cons ok_impl_LogOf (allOk_cons ok_impl_textsOf (allOk_cons ok_impl_sharedBy (allOk_cons ok_slices_Equal___string_string_ allOk_nil))))) m_impl_OneHeard (by decide)
def B_laws_eqIntS_1 : TC := (.seq (.seq (.reg none [.p (.mv 11 (.t 5)) .unit,
  .p (.mv 12 (.t 0)) .unit,
  .p (.lenB 13 (.t 12)) .unit,
  .p (.bin 14 false .lss (.t 11) (.t 13)) .unit])
 (.cond (.t 14) .skip (.exit 0)))
 (.seq (.block 1 (.seq (.reg (some [[], [], [0, 1], [2], [], [], [4, 5], [6], [3, 7]]) [.p (.mv 17 (.t 0)) .unit,
  .p (.mv 18 (.t 5)) .unit,
  .p (.iadr 19 1 (.t 17) (.t 18)) .unit,
  .p (.load 20 (.t 19) 1 false) .unit,
  .p (.mv 21 (.t 1)) .unit,
  .p (.mv 22 (.t 5)) .unit,
  .p (.iadr 23 1 (.t 21) (.t 22)) .unit,
  .p (.load 24 (.t 23) 1 false) .unit,
  .p (.bin 25 false .neq (.t 20) (.t 24)) .unit])
 (.cond (.t 25) (.seq (.reg none [.p (.mv 4 (.c (.bool false))) .unit])
 .ret) .skip)))
 (.reg none [.p (.mv 15 (.t 5)) .unit,
  .p (.bin 16 false .add (.t 15) (.c (.int .i64 1))) .unit,
  .p (.mv 5 (.t 16)) .unit])))
noncomputable def L_laws_eqIntS_1 : Nat → (List (Int)) × (List (Int)) × Int → Option ((Unit) ⊕ (Bool)) := evL [] (finT [.t 4] [] [.cell .bool]) 0 ⟨[(0, true), (1, true), (5, false)], [.cell (.sl false (.int .i64)), .cell (.sl false (.int .i64)), .cell (.int .i64)]⟩ ⟨[], []⟩ B_laws_eqIntS_1
def F_laws_eqIntS : TF := ⟨(.seq (.reg none [.p (.mv 4 (.c (.bool false))) .unit])
 (.seq (.seq (.reg none [.p (.mv 6 (.t 0)) .unit,
  .p (.lenB 7 (.t 6)) .unit,
  .p (.mv 8 (.t 1)) .unit,
  .p (.lenB 9 (.t 8)) .unit,
  .p (.bin 10 false .neq (.t 7) (.t 9)) .unit])
 (.cond (.t 10) (.seq (.reg none [.p (.mv 4 (.c (.bool false))) .unit])
 .ret) .skip))
 (.seq (.seq (.reg none [.p (.mv 5 (.c (.int .i64 0))) .unit])
 (.jl 0 ⟨[(0, true), (1, true), (5, false)], [.cell (.sl false (.int .i64)), .cell (.sl false (.int .i64)), .cell (.int .i64)]⟩ ⟨[], []⟩ B_laws_eqIntS_1))
 (.seq (.reg none [.p (.mv 4 (.c (.bool true))) .unit])
 .ret)))),
 26, 2, [.t 4]⟩
theorem m_laws_eqIntS : mH Tryz.prog 34 [] = some (F_laws_eqIntS.code.x, F_laws_eqIntS.N, F_laws_eqIntS.np, F_laws_eqIntS.res) := by kernel_rfl
noncomputable def T_laws_eqIntS : (List (Int)) × List (Int) → Option (Bool) := evF [] F_laws_eqIntS [.cell (.sl false (.int .i64)), .cell (.sl false (.int .i64))] [] [.cell .bool] []
noncomputable def fn_laws_eqIntS : TFn := ⟨34, [.cell (.sl false (.int .i64)), .cell (.sl false (.int .i64))], [], [.cell .bool], [], T_laws_eqIntS⟩
theorem ok_laws_eqIntS : FnOk Tryz.prog fn_laws_eqIntS := evF_ok mixed allOk_nil m_laws_eqIntS (by decide)
def F_laws_eqRing : TF := ⟨(.seq (.reg none [.p (.box 2 (.t 0)) .unit,
  .p (.box 3 (.t 1)) .unit,
  .p (.mv 4 (.c (.bool false))) .unit])
 (.seq (.seq (.reg none [.p (.fadr 5 (.t 2) 0) .unit,
  .p (.load 6 (.t 5) 1 false) .unit,
  .p (.fadr 7 (.t 3) 0) .unit,
  .p (.load 8 (.t 7) 1 false) .unit,
  .p (.bin 9 false .neq (.t 6) (.t 8)) .unit])
 (.cond (.t 9) (.seq (.reg none [.p (.mv 4 (.c (.bool false))) .unit])
 .ret) .skip))
 (.seq (.seq (.reg none [.p (.fadr 10 (.t 2) 1) .unit,
  .p (.load 11 (.t 10) 1 false) .unit,
  .p (.fadr 12 (.t 3) 1) .unit,
  .p (.load 13 (.t 12) 1 false) .unit,
  .p (.callB 14 n_laws_eqIntS [((.t 11), 0), ((.t 13), 0)]) .unit,
  .p (.un 15 .not (.t 14)) .unit])
 (.cond (.t 15) (.seq (.reg none [.p (.mv 4 (.c (.bool false))) .unit])
 .ret) .skip))
 (.seq (.reg none [.p (.mv 4 (.c (.bool true))) .unit])
 .ret)))),
 16, 2, [.t 4]⟩
theorem m_laws_eqRing : mH Tryz.prog 87 [] = some (F_laws_eqRing.code.x, F_laws_eqRing.N, F_laws_eqRing.np, F_laws_eqRing.res) := by kernel_rfl
noncomputable def T_laws_eqRing : (Int × List (Int)) × Int × List (Int) → Option (Bool) := evF [fn_laws_eqIntS] F_laws_eqRing [.agg (.pair (.int .i64) (.sl false (.int .i64))), .agg (.pair (.int .i64) (.sl false (.int .i64)))] [] [.cell .bool] []
noncomputable def fn_laws_eqRing : TFn := ⟨87, [.agg (.pair (.int .i64) (.sl false (.int .i64))), .agg (.pair (.int .i64) (.sl false (.int .i64)))], [], [.cell .bool], [], T_laws_eqRing⟩
theorem ok_laws_eqRing : FnOk Tryz.prog fn_laws_eqRing := evF_ok mixed (allOk_cons ok_laws_eqIntS allOk_nil) m_laws_eqRing (by decide)
def B_laws_eqRingS_1 : TC := (.seq (.seq (.reg none [.p (.mv 11 (.t 5)) .unit,
  .p (.mv 12 (.t 0)) .unit,
  .p (.lenB 13 (.t 12)) .unit,
  .p (.bin 14 false .lss (.t 11) (.t 13)) .unit])
 (.cond (.t 14) .skip (.exit 0)))
 (.seq (.block 1 (.seq (.reg (some [[], [], [0, 1], [2], [], [], [4, 5], [6], [3, 7], [8]]) [.p (.mv 17 (.t 0)) .unit,
  .p (.mv 18 (.t 5)) .unit,
  .p (.iadr 19 2 (.t 17) (.t 18)) .unit,
  .p (.load 20 (.t 19) 2 true) .unit,
  .p (.mv 21 (.t 1)) .unit,
  .p (.mv 22 (.t 5)) .unit,
  .p (.iadr 23 2 (.t 21) (.t 22)) .unit,
  .p (.load 24 (.t 23) 2 true) .unit,
  .p (.callB 25 n_laws_eqRing [((.t 20), 0), ((.t 24), 0)]) .unit,
  .p (.un 26 .not (.t 25)) .unit])
 (.cond (.t 26) (.seq (.reg none [.p (.mv 4 (.c (.bool false))) .unit])
 .ret) .skip)))
 (.reg none [.p (.mv 15 (.t 5)) .unit,
  .p (.bin 16 false .add (.t 15) (.c (.int .i64 1))) .unit,
  .p (.mv 5 (.t 16)) .unit])))
noncomputable def L_laws_eqRingS_1 : Nat → (List (Int × List (Int))) × (List (Int × List (Int))) × Int → Option ((Unit) ⊕ (Bool)) := evL [fn_laws_eqRing] (finT [.t 4] [] [.cell .bool]) 0 ⟨[(0, true), (1, true), (5, false)], [.cell (.sl false (.pair (.int .i64) (.sl false (.int .i64)))), .cell (.sl false (.pair (.int .i64) (.sl false (.int .i64)))), .cell (.int .i64)]⟩ ⟨[], []⟩ B_laws_eqRingS_1
def F_laws_eqRingS : TF := ⟨(.seq (.reg none [.p (.mv 4 (.c (.bool false))) .unit])
 (.seq (.seq (.reg none [.p (.mv 6 (.t 0)) .unit,
  .p (.lenB 7 (.t 6)) .unit,
  .p (.mv 8 (.t 1)) .unit,
  .p (.lenB 9 (.t 8)) .unit,
  .p (.bin 10 false .neq (.t 7) (.t 9)) .unit])
 (.cond (.t 10) (.seq (.reg none [.p (.mv 4 (.c (.bool false))) .unit])
 .ret) .skip))
 (.seq (.seq (.reg none [.p (.mv 5 (.c (.int .i64 0))) .unit])
 (.jl 0 ⟨[(0, true), (1, true), (5, false)], [.cell (.sl false (.pair (.int .i64) (.sl false (.int .i64)))), .cell (.sl false (.pair (.int .i64) (.sl false (.int .i64)))), .cell (.int .i64)]⟩ ⟨[], []⟩ B_laws_eqRingS_1))
 (.seq (.reg none [.p (.mv 4 (.c (.bool true))) .unit])
 .ret)))),
 27, 2, [.t 4]⟩
theorem m_laws_eqRingS : mH Tryz.prog 58 [] = some (F_laws_eqRingS.code.x, F_laws_eqRingS.N, F_laws_eqRingS.np, F_laws_eqRingS.res) := by kernel_rfl
noncomputable def T_laws_eqRingS : (List (Int × List (Int))) × List (Int × List (Int)) → Option (Bool) := evF [fn_laws_eqRing] F_laws_eqRingS [.cell (.sl false (.pair (.int .i64) (.sl false (.int .i64)))), .cell (.sl false (.pair (.int .i64) (.sl false (.int .i64))))] [] [.cell .bool] []
noncomputable def fn_laws_eqRingS : TFn := ⟨58, [.cell (.sl false (.pair (.int .i64) (.sl false (.int .i64)))), .cell (.sl false (.pair (.int .i64) (.sl false (.int .i64))))], [], [.cell .bool], [], T_laws_eqRingS⟩
theorem ok_laws_eqRingS : FnOk Tryz.prog fn_laws_eqRingS := evF_ok mixed (allOk_cons ok_laws_eqRing allOk_nil) m_laws_eqRingS (by decide)
def F_laws_eqItem : TF := ⟨(.seq (.reg none [.p (.box 2 (.t 0)) .unit,
  .p (.box 3 (.t 1)) .unit,
  .p (.mv 4 (.c (.bool false))) .unit])
 (.seq (.seq (.reg none [.p (.fadr 5 (.t 2) 0) .unit,
  .p (.load 6 (.t 5) 1 false) .unit,
  .p (.fadr 7 (.t 3) 0) .unit,
  .p (.load 8 (.t 7) 1 false) .unit,
  .p (.bin 9 false .neq (.t 6) (.t 8)) .unit])
 (.cond (.t 9) (.seq (.reg none [.p (.mv 4 (.c (.bool false))) .unit])
 .ret) .skip))
 (.seq (.seq (.reg none [.p (.fadr 10 (.t 2) 1) .unit,
  .p (.load 11 (.t 10) 1 false) .unit,
  .p (.fadr 12 (.t 3) 1) .unit,
  .p (.load 13 (.t 12) 1 false) .unit,
  .p (.bin 14 false .neq (.t 11) (.t 13)) .unit])
 (.cond (.t 14) (.seq (.reg none [.p (.mv 4 (.c (.bool false))) .unit])
 .ret) .skip))
 (.seq (.seq (.reg none [.p (.fadr 15 (.t 2) 2) .unit,
  .p (.load 16 (.t 15) 1 false) .unit,
  .p (.fadr 17 (.t 3) 2) .unit,
  .p (.load 18 (.t 17) 1 false) .unit,
  .p (.bin 19 false .neq (.t 16) (.t 18)) .unit])
 (.cond (.t 19) (.seq (.reg none [.p (.mv 4 (.c (.bool false))) .unit])
 .ret) .skip))
 (.seq (.seq (.reg none [.p (.fadr 20 (.t 2) 3) .unit,
  .p (.load 21 (.t 20) 1 false) .unit,
  .p (.fadr 22 (.t 3) 3) .unit,
  .p (.load 23 (.t 22) 1 false) .unit,
  .p (.bin 24 false .neq (.t 21) (.t 23)) .unit])
 (.cond (.t 24) (.seq (.reg none [.p (.mv 4 (.c (.bool false))) .unit])
 .ret) .skip))
 (.seq (.reg none [.p (.mv 4 (.c (.bool true))) .unit])
 .ret)))))),
 25, 2, [.t 4]⟩
theorem m_laws_eqItem : mH Tryz.prog 114 [] = some (F_laws_eqItem.code.x, F_laws_eqItem.N, F_laws_eqItem.np, F_laws_eqItem.res) := by kernel_rfl
noncomputable def T_laws_eqItem : (Int × Int × Int × List UInt8) × Int × Int × Int × List UInt8 → Option (Bool) := evF [] F_laws_eqItem [.agg (.pair (.int .i64) (.pair (.int .i64) (.pair (.int .i64) .str))), .agg (.pair (.int .i64) (.pair (.int .i64) (.pair (.int .i64) .str)))] [] [.cell .bool] []
noncomputable def fn_laws_eqItem : TFn := ⟨114, [.agg (.pair (.int .i64) (.pair (.int .i64) (.pair (.int .i64) .str))), .agg (.pair (.int .i64) (.pair (.int .i64) (.pair (.int .i64) .str)))], [], [.cell .bool], [], T_laws_eqItem⟩
theorem ok_laws_eqItem : FnOk Tryz.prog fn_laws_eqItem := evF_ok mixed allOk_nil m_laws_eqItem (by decide)
def B_laws_eqItemS_1 : TC := (.seq (.seq (.reg none [.p (.mv 11 (.t 5)) .unit,
  .p (.mv 12 (.t 0)) .unit,
  .p (.lenB 13 (.t 12)) .unit,
  .p (.bin 14 false .lss (.t 11) (.t 13)) .unit])
 (.cond (.t 14) .skip (.exit 0)))
 (.seq (.block 1 (.seq (.reg (some [[], [], [0, 1], [2], [], [], [4, 5], [6], [3, 7], [8]]) [.p (.mv 17 (.t 0)) .unit,
  .p (.mv 18 (.t 5)) .unit,
  .p (.iadr 19 4 (.t 17) (.t 18)) .unit,
  .p (.load 20 (.t 19) 4 true) .unit,
  .p (.mv 21 (.t 1)) .unit,
  .p (.mv 22 (.t 5)) .unit,
  .p (.iadr 23 4 (.t 21) (.t 22)) .unit,
  .p (.load 24 (.t 23) 4 true) .unit,
  .p (.callB 25 n_laws_eqItem [((.t 20), 0), ((.t 24), 0)]) .unit,
  .p (.un 26 .not (.t 25)) .unit])
 (.cond (.t 26) (.seq (.reg none [.p (.mv 4 (.c (.bool false))) .unit])
 .ret) .skip)))
 (.reg none [.p (.mv 15 (.t 5)) .unit,
  .p (.bin 16 false .add (.t 15) (.c (.int .i64 1))) .unit,
  .p (.mv 5 (.t 16)) .unit])))
noncomputable def L_laws_eqItemS_1 : Nat → (List (Int × Int × Int × List UInt8)) × (List (Int × Int × Int × List UInt8)) × Int → Option ((Unit) ⊕ (Bool)) := evL [fn_laws_eqItem] (finT [.t 4] [] [.cell .bool]) 0 ⟨[(0, true), (1, true), (5, false)], [.cell (.sl false (.pair (.int .i64) (.pair (.int .i64) (.pair (.int .i64) .str)))), .cell (.sl false (.pair (.int .i64) (.pair (.int .i64) (.pair (.int .i64) .str)))), .cell (.int .i64)]⟩ ⟨[], []⟩ B_laws_eqItemS_1
def F_laws_eqItemS : TF := ⟨(.seq (.reg none [.p (.mv 4 (.c (.bool false))) .unit])
 (.seq (.seq (.reg none [.p (.mv 6 (.t 0)) .unit,
  .p (.lenB 7 (.t 6)) .unit,
  .p (.mv 8 (.t 1)) .unit,
  .p (.lenB 9 (.t 8)) .unit,
  .p (.bin 10 false .neq (.t 7) (.t 9)) .unit])
 (.cond (.t 10) (.seq (.reg none [.p (.mv 4 (.c (.bool false))) .unit])
 .ret) .skip))
 (.seq (.seq (.reg none [.p (.mv 5 (.c (.int .i64 0))) .unit])
 (.jl 0 ⟨[(0, true), (1, true), (5, false)], [.cell (.sl false (.pair (.int .i64) (.pair (.int .i64) (.pair (.int .i64) .str)))), .cell (.sl false (.pair (.int .i64) (.pair (.int .i64) (.pair (.int .i64) .str)))), .cell (.int .i64)]⟩ ⟨[], []⟩ B_laws_eqItemS_1))
 (.seq (.reg none [.p (.mv 4 (.c (.bool true))) .unit])
 .ret)))),
 27, 2, [.t 4]⟩
theorem m_laws_eqItemS : mH Tryz.prog 121 [] = some (F_laws_eqItemS.code.x, F_laws_eqItemS.N, F_laws_eqItemS.np, F_laws_eqItemS.res) := by kernel_rfl
noncomputable def T_laws_eqItemS : (List (Int × Int × Int × List UInt8)) × List (Int × Int × Int × List UInt8) → Option (Bool) := evF [fn_laws_eqItem] F_laws_eqItemS [.cell (.sl false (.pair (.int .i64) (.pair (.int .i64) (.pair (.int .i64) .str)))), .cell (.sl false (.pair (.int .i64) (.pair (.int .i64) (.pair (.int .i64) .str))))] [] [.cell .bool] []
noncomputable def fn_laws_eqItemS : TFn := ⟨121, [.cell (.sl false (.pair (.int .i64) (.pair (.int .i64) (.pair (.int .i64) .str)))), .cell (.sl false (.pair (.int .i64) (.pair (.int .i64) (.pair (.int .i64) .str))))], [], [.cell .bool], [], T_laws_eqItemS⟩
theorem ok_laws_eqItemS : FnOk Tryz.prog fn_laws_eqItemS := evF_ok mixed (allOk_cons ok_laws_eqItem allOk_nil) m_laws_eqItemS (by decide)
def B_laws_eqStringS_1 : TC := (.seq (.seq (.reg none [.p (.mv 11 (.t 5)) .unit,
  .p (.mv 12 (.t 0)) .unit,
  .p (.lenB 13 (.t 12)) .unit,
  .p (.bin 14 false .lss (.t 11) (.t 13)) .unit])
 (.cond (.t 14) .skip (.exit 0)))
 (.seq (.block 1 (.seq (.reg (some [[], [], [0, 1], [2], [], [], [4, 5], [6], [3, 7]]) [.p (.mv 17 (.t 0)) .unit,
  .p (.mv 18 (.t 5)) .unit,
  .p (.iadr 19 1 (.t 17) (.t 18)) .unit,
  .p (.load 20 (.t 19) 1 false) .unit,
  .p (.mv 21 (.t 1)) .unit,
  .p (.mv 22 (.t 5)) .unit,
  .p (.iadr 23 1 (.t 21) (.t 22)) .unit,
  .p (.load 24 (.t 23) 1 false) .unit,
  .p (.bin 25 false .neq (.t 20) (.t 24)) .unit])
 (.cond (.t 25) (.seq (.reg none [.p (.mv 4 (.c (.bool false))) .unit])
 .ret) .skip)))
 (.reg none [.p (.mv 15 (.t 5)) .unit,
  .p (.bin 16 false .add (.t 15) (.c (.int .i64 1))) .unit,
  .p (.mv 5 (.t 16)) .unit])))
noncomputable def L_laws_eqStringS_1 : Nat → (List (List UInt8)) × (List (List UInt8)) × Int → Option ((Unit) ⊕ (Bool)) := evL [] (finT [.t 4] [] [.cell .bool]) 0 ⟨[(0, true), (1, true), (5, false)], [.cell (.sl false .str), .cell (.sl false .str), .cell (.int .i64)]⟩ ⟨[], []⟩ B_laws_eqStringS_1
def F_laws_eqStringS : TF := ⟨(.seq (.reg none [.p (.mv 4 (.c (.bool false))) .unit])
 (.seq (.seq (.reg none [.p (.mv 6 (.t 0)) .unit,
  .p (.lenB 7 (.t 6)) .unit,
  .p (.mv 8 (.t 1)) .unit,
  .p (.lenB 9 (.t 8)) .unit,
  .p (.bin 10 false .neq (.t 7) (.t 9)) .unit])
 (.cond (.t 10) (.seq (.reg none [.p (.mv 4 (.c (.bool false))) .unit])
 .ret) .skip))
 (.seq (.seq (.reg none [.p (.mv 5 (.c (.int .i64 0))) .unit])
 (.jl 0 ⟨[(0, true), (1, true), (5, false)], [.cell (.sl false .str), .cell (.sl false .str), .cell (.int .i64)]⟩ ⟨[], []⟩ B_laws_eqStringS_1))
 (.seq (.reg none [.p (.mv 4 (.c (.bool true))) .unit])
 .ret)))),
 26, 2, [.t 4]⟩
theorem m_laws_eqStringS : mH Tryz.prog 12 [] = some (F_laws_eqStringS.code.x, F_laws_eqStringS.N, F_laws_eqStringS.np, F_laws_eqStringS.res) := by kernel_rfl
noncomputable def T_laws_eqStringS : (List (List UInt8)) × List (List UInt8) → Option (Bool) := evF [] F_laws_eqStringS [.cell (.sl false .str), .cell (.sl false .str)] [] [.cell .bool] []
noncomputable def fn_laws_eqStringS : TFn := ⟨12, [.cell (.sl false .str), .cell (.sl false .str)], [], [.cell .bool], [], T_laws_eqStringS⟩
theorem ok_laws_eqStringS : FnOk Tryz.prog fn_laws_eqStringS := evF_ok mixed allOk_nil m_laws_eqStringS (by decide)
def F_laws_eqToken : TF := ⟨(.seq (.reg none [.p (.box 2 (.t 0)) .unit,
  .p (.box 3 (.t 1)) .unit,
  .p (.mv 4 (.c (.bool false))) .unit])
 (.seq (.seq (.reg none [.p (.fadr 5 (.t 2) 0) .unit,
  .p (.load 6 (.t 5) 1 false) .unit,
  .p (.fadr 7 (.t 3) 0) .unit,
  .p (.load 8 (.t 7) 1 false) .unit,
  .p (.bin 9 false .neq (.t 6) (.t 8)) .unit])
 (.cond (.t 9) (.seq (.reg none [.p (.mv 4 (.c (.bool false))) .unit])
 .ret) .skip))
 (.seq (.seq (.reg none [.p (.fadr 10 (.t 2) 1) .unit,
  .p (.load 11 (.t 10) 1 false) .unit,
  .p (.fadr 12 (.t 3) 1) .unit,
  .p (.load 13 (.t 12) 1 false) .unit,
  .p (.bin 14 false .neq (.t 11) (.t 13)) .unit])
 (.cond (.t 14) (.seq (.reg none [.p (.mv 4 (.c (.bool false))) .unit])
 .ret) .skip))
 (.seq (.seq (.reg none [.p (.fadr 15 (.t 2) 2) .unit,
  .p (.load 16 (.t 15) 1 false) .unit,
  .p (.fadr 17 (.t 3) 2) .unit,
  .p (.load 18 (.t 17) 1 false) .unit,
  .p (.bin 19 false .neq (.t 16) (.t 18)) .unit])
 (.cond (.t 19) (.seq (.reg none [.p (.mv 4 (.c (.bool false))) .unit])
 .ret) .skip))
 (.seq (.seq (.reg none [.p (.fadr 20 (.t 2) 3) .unit,
  .p (.load 21 (.t 20) 1 false) .unit,
  .p (.fadr 22 (.t 3) 3) .unit,
  .p (.load 23 (.t 22) 1 false) .unit,
  .p (.bin 24 false .neq (.t 21) (.t 23)) .unit])
 (.cond (.t 24) (.seq (.reg none [.p (.mv 4 (.c (.bool false))) .unit])
 .ret) .skip))
 (.seq (.seq (.reg none [.p (.fadr 25 (.t 2) 4) .unit,
  .p (.load 26 (.t 25) 1 false) .unit,
  .p (.fadr 27 (.t 3) 4) .unit,
  .p (.load 28 (.t 27) 1 false) .unit,
  .p (.bin 29 false .neq (.t 26) (.t 28)) .unit])
 (.cond (.t 29) (.seq (.reg none [.p (.mv 4 (.c (.bool false))) .unit])
 .ret) .skip))
 (.seq (.seq (.reg none [.p (.fadr 30 (.t 2) 5) .unit,
  .p (.load 31 (.t 30) 1 false) .unit,
  .p (.fadr 32 (.t 3) 5) .unit,
  .p (.load 33 (.t 32) 1 false) .unit,
  .p (.callB 34 n_laws_eqIntS [((.t 31), 0), ((.t 33), 0)]) .unit,
  .p (.un 35 .not (.t 34)) .unit])
 (.cond (.t 35) (.seq (.reg none [.p (.mv 4 (.c (.bool false))) .unit])
 .ret) .skip))
 (.seq (.reg none [.p (.mv 4 (.c (.bool true))) .unit])
 .ret)))))))),
 36, 2, [.t 4]⟩
theorem m_laws_eqToken : mH Tryz.prog 115 [] = some (F_laws_eqToken.code.x, F_laws_eqToken.N, F_laws_eqToken.np, F_laws_eqToken.res) := by kernel_rfl
noncomputable def T_laws_eqToken : (Int × Int × Int × Int × Int × List (Int)) × Int × Int × Int × Int × Int × List (Int) → Option (Bool) := evF [fn_laws_eqIntS] F_laws_eqToken [.agg (.pair (.int .i64) (.pair (.int .i64) (.pair (.int .i64) (.pair (.int .i64) (.pair (.int .i64) (.sl false (.int .i64))))))), .agg (.pair (.int .i64) (.pair (.int .i64) (.pair (.int .i64) (.pair (.int .i64) (.pair (.int .i64) (.sl false (.int .i64)))))))] [] [.cell .bool] []
noncomputable def fn_laws_eqToken : TFn := ⟨115, [.agg (.pair (.int .i64) (.pair (.int .i64) (.pair (.int .i64) (.pair (.int .i64) (.pair (.int .i64) (.sl false (.int .i64))))))), .agg (.pair (.int .i64) (.pair (.int .i64) (.pair (.int .i64) (.pair (.int .i64) (.pair (.int .i64) (.sl false (.int .i64)))))))], [], [.cell .bool], [], T_laws_eqToken⟩
theorem ok_laws_eqToken : FnOk Tryz.prog fn_laws_eqToken := evF_ok mixed (allOk_cons ok_laws_eqIntS allOk_nil) m_laws_eqToken (by decide)
def F_laws_eqMate : TF := ⟨(.seq (.reg none [.p (.box 2 (.t 0)) .unit,
  .p (.box 3 (.t 1)) .unit,
  .p (.mv 4 (.c (.bool false))) .unit])
 (.seq (.seq (.reg none [.p (.fadr 5 (.t 2) 0) .unit,
  .p (.load 6 (.t 5) 1 false) .unit,
  .p (.fadr 7 (.t 3) 0) .unit,
  .p (.load 8 (.t 7) 1 false) .unit,
  .p (.bin 9 false .neq (.t 6) (.t 8)) .unit])
 (.cond (.t 9) (.seq (.reg none [.p (.mv 4 (.c (.bool false))) .unit])
 .ret) .skip))
 (.seq (.seq (.reg none [.p (.fadr 10 (.t 2) 1) .unit,
  .p (.load 11 (.t 10) 2 true) .unit,
  .p (.fadr 12 (.t 3) 1) .unit,
  .p (.load 13 (.t 12) 2 true) .unit,
  .p (.callB 14 n_laws_eqRing [((.t 11), 0), ((.t 13), 0)]) .unit,
  .p (.un 15 .not (.t 14)) .unit])
 (.cond (.t 15) (.seq (.reg none [.p (.mv 4 (.c (.bool false))) .unit])
 .ret) .skip))
 (.seq (.seq (.reg none [.p (.fadr 16 (.t 2) 3) .unit,
  .p (.load 17 (.t 16) 1 false) .unit,
  .p (.fadr 18 (.t 3) 3) .unit,
  .p (.load 19 (.t 18) 1 false) .unit,
  .p (.callB 20 n_laws_eqItemS [((.t 17), 0), ((.t 19), 0)]) .unit,
  .p (.un 21 .not (.t 20)) .unit])
 (.cond (.t 21) (.seq (.reg none [.p (.mv 4 (.c (.bool false))) .unit])
 .ret) .skip))
 (.seq (.seq (.reg none [.p (.fadr 22 (.t 2) 4) .unit,
  .p (.load 23 (.t 22) 1 false) .unit,
  .p (.fadr 24 (.t 3) 4) .unit,
  .p (.load 25 (.t 24) 1 false) .unit,
  .p (.callB 26 n_laws_eqIntS [((.t 23), 0), ((.t 25), 0)]) .unit,
  .p (.un 27 .not (.t 26)) .unit])
 (.cond (.t 27) (.seq (.reg none [.p (.mv 4 (.c (.bool false))) .unit])
 .ret) .skip))
 (.seq (.seq (.reg none [.p (.fadr 28 (.t 2) 5) .unit,
  .p (.load 29 (.t 28) 1 false) .unit,
  .p (.fadr 30 (.t 3) 5) .unit,
  .p (.load 31 (.t 30) 1 false) .unit,
  .p (.callB 32 n_laws_eqStringS [((.t 29), 0), ((.t 31), 0)]) .unit,
  .p (.un 33 .not (.t 32)) .unit])
 (.cond (.t 33) (.seq (.reg none [.p (.mv 4 (.c (.bool false))) .unit])
 .ret) .skip))
 (.seq (.seq (.reg none [.p (.fadr 34 (.t 2) 6) .unit,
  .p (.load 35 (.t 34) 1 false) .unit,
  .p (.fadr 36 (.t 3) 6) .unit,
  .p (.load 37 (.t 36) 1 false) .unit,
  .p (.bin 38 false .neq (.t 35) (.t 37)) .unit])
 (.cond (.t 38) (.seq (.reg none [.p (.mv 4 (.c (.bool false))) .unit])
 .ret) .skip))
 (.seq (.seq (.reg none [.p (.fadr 39 (.t 2) 7) .unit,
  .p (.load 40 (.t 39) 1 false) .unit,
  .p (.fadr 41 (.t 3) 7) .unit,
  .p (.load 42 (.t 41) 1 false) .unit,
  .p (.bin 43 false .neq (.t 40) (.t 42)) .unit])
 (.cond (.t 43) (.seq (.reg none [.p (.mv 4 (.c (.bool false))) .unit])
 .ret) .skip))
 (.seq (.seq (.reg none [.p (.fadr 44 (.t 2) 8) .unit,
  .p (.load 45 (.t 44) 1 false) .unit,
  .p (.fadr 46 (.t 3) 8) .unit,
  .p (.load 47 (.t 46) 1 false) .unit,
  .p (.bin 48 false .neq (.t 45) (.t 47)) .unit])
 (.cond (.t 48) (.seq (.reg none [.p (.mv 4 (.c (.bool false))) .unit])
 .ret) .skip))
 (.seq (.seq (.reg none [.p (.fadr 49 (.t 2) 9) .unit,
  .p (.load 50 (.t 49) 1 false) .unit,
  .p (.fadr 51 (.t 3) 9) .unit,
  .p (.load 52 (.t 51) 1 false) .unit,
  .p (.bin 53 false .neq (.t 50) (.t 52)) .unit])
 (.cond (.t 53) (.seq (.reg none [.p (.mv 4 (.c (.bool false))) .unit])
 .ret) .skip))
 (.seq (.seq (.reg none [.p (.fadr 54 (.t 2) 10) .unit,
  .p (.load 55 (.t 54) 6 true) .unit,
  .p (.fadr 56 (.t 3) 10) .unit,
  .p (.load 57 (.t 56) 6 true) .unit,
  .p (.callB 58 n_laws_eqToken [((.t 55), 0), ((.t 57), 0)]) .unit,
  .p (.un 59 .not (.t 58)) .unit])
 (.cond (.t 59) (.seq (.reg none [.p (.mv 4 (.c (.bool false))) .unit])
 .ret) .skip))
 (.seq (.reg none [.p (.mv 4 (.c (.bool true))) .unit])
 .ret)))))))))))),
 60, 2, [.t 4]⟩
theorem m_laws_eqMate : mH Tryz.prog 112 [] = some (F_laws_eqMate.code.x, F_laws_eqMate.N, F_laws_eqMate.np, F_laws_eqMate.res) := by kernel_rfl
noncomputable def T_laws_eqMate : (Int × (Int × List (Int)) × List (Int × Int × Int × List UInt8) × List (Int) × List (List UInt8) × Int × Int × Int × Int × Int × Int × Int × Int × Int × List (Int)) × Int × (Int × List (Int)) × List (Int × Int × Int × List UInt8) × List (Int) × List (List UInt8) × Int × Int × Int × Int × Int × Int × Int × Int × Int × List (Int) → Option (Bool) := evF [fn_laws_eqRing, fn_laws_eqItemS, fn_laws_eqIntS, fn_laws_eqStringS, fn_laws_eqToken] F_laws_eqMate [.agg (.pair (.int .i64) (.pair (.pair (.int .i64) (.sl false (.int .i64))) (.pair (.sl false (.pair (.int .i64) (.pair (.int .i64) (.pair (.int .i64) .str)))) (.pair (.sl false (.int .i64)) (.pair (.sl false .str) (.pair (.int .i64) (.pair (.int .i64) (.pair (.int .i64) (.pair (.int .i64) (.pair (.int .i64) (.pair (.int .i64) (.pair (.int .i64) (.pair (.int .i64) (.pair (.int .i64) (.sl false (.int .i64)))))))))))))))), .agg (.pair (.int .i64) (.pair (.pair (.int .i64) (.sl false (.int .i64))) (.pair (.sl false (.pair (.int .i64) (.pair (.int .i64) (.pair (.int .i64) .str)))) (.pair (.sl false (.int .i64)) (.pair (.sl false .str) (.pair (.int .i64) (.pair (.int .i64) (.pair (.int .i64) (.pair (.int .i64) (.pair (.int .i64) (.pair (.int .i64) (.pair (.int .i64) (.pair (.int .i64) (.pair (.int .i64) (.sl false (.int .i64))))))))))))))))] [] [.cell .bool] []
noncomputable def fn_laws_eqMate : TFn := ⟨112, [.agg (.pair (.int .i64) (.pair (.pair (.int .i64) (.sl false (.int .i64))) (.pair (.sl false (.pair (.int .i64) (.pair (.int .i64) (.pair (.int .i64) .str)))) (.pair (.sl false (.int .i64)) (.pair (.sl false .str) (.pair (.int .i64) (.pair (.int .i64) (.pair (.int .i64) (.pair (.int .i64) (.pair (.int .i64) (.pair (.int .i64) (.pair (.int .i64) (.pair (.int .i64) (.pair (.int .i64) (.sl false (.int .i64)))))))))))))))), .agg (.pair (.int .i64) (.pair (.pair (.int .i64) (.sl false (.int .i64))) (.pair (.sl false (.pair (.int .i64) (.pair (.int .i64) (.pair (.int .i64) .str)))) (.pair (.sl false (.int .i64)) (.pair (.sl false .str) (.pair (.int .i64) (.pair (.int .i64) (.pair (.int .i64) (.pair (.int .i64) (.pair (.int .i64) (.pair (.int .i64) (.pair (.int .i64) (.pair (.int .i64) (.pair (.int .i64) (.sl false (.int .i64))))))))))))))))], [], [.cell .bool], [], T_laws_eqMate⟩
theorem ok_laws_eqMate : FnOk Tryz.prog fn_laws_eqMate := evF_ok mixed (allOk_cons ok_laws_eqRing (allOk_cons ok_laws_eqItemS (allOk_cons ok_laws_eqIntS (allOk_cons ok_laws_eqStringS (allOk_cons ok_laws_eqToken allOk_nil))))) m_laws_eqMate (by decide)
def F_laws_eqBundle : TF := ⟨(.seq (.reg none [.p (.box 2 (.t 0)) .unit,
  .p (.box 3 (.t 1)) .unit,
  .p (.mv 4 (.c (.bool false))) .unit])
 (.seq (.seq (.reg none [.p (.fadr 5 (.t 2) 0) .unit,
  .p (.load 6 (.t 5) 1 false) .unit,
  .p (.fadr 7 (.t 3) 0) .unit,
  .p (.load 8 (.t 7) 1 false) .unit,
  .p (.bin 9 false .neq (.t 6) (.t 8)) .unit])
 (.cond (.t 9) (.seq (.reg none [.p (.mv 4 (.c (.bool false))) .unit])
 .ret) .skip))
 (.seq (.seq (.reg none [.p (.fadr 10 (.t 2) 1) .unit,
  .p (.load 11 (.t 10) 1 false) .unit,
  .p (.fadr 12 (.t 3) 1) .unit,
  .p (.load 13 (.t 12) 1 false) .unit,
  .p (.bin 14 false .neq (.t 11) (.t 13)) .unit])
 (.cond (.t 14) (.seq (.reg none [.p (.mv 4 (.c (.bool false))) .unit])
 .ret) .skip))
 (.seq (.seq (.reg none [.p (.fadr 15 (.t 2) 2) .unit,
  .p (.load 16 (.t 15) 1 false) .unit,
  .p (.fadr 17 (.t 3) 2) .unit,
  .p (.load 18 (.t 17) 1 false) .unit,
  .p (.bin 19 false .neq (.t 16) (.t 18)) .unit])
 (.cond (.t 19) (.seq (.reg none [.p (.mv 4 (.c (.bool false))) .unit])
 .ret) .skip))
 (.seq (.seq (.reg none [.p (.fadr 20 (.t 2) 3) .unit,
  .p (.load 21 (.t 20) 1 false) .unit,
  .p (.fadr 22 (.t 3) 3) .unit,
  .p (.load 23 (.t 22) 1 false) .unit,
  .p (.callB 24 n_laws_eqItemS [((.t 21), 0), ((.t 23), 0)]) .unit,
  .p (.un 25 .not (.t 24)) .unit])
 (.cond (.t 25) (.seq (.reg none [.p (.mv 4 (.c (.bool false))) .unit])
 .ret) .skip))
 (.seq (.reg none [.p (.mv 4 (.c (.bool true))) .unit])
 .ret)))))),
 26, 2, [.t 4]⟩
theorem m_laws_eqBundle : mH Tryz.prog 116 [] = some (F_laws_eqBundle.code.x, F_laws_eqBundle.N, F_laws_eqBundle.np, F_laws_eqBundle.res) := by kernel_rfl
noncomputable def T_laws_eqBundle : (Int × Int × Int × List (Int × Int × Int × List UInt8)) × Int × Int × Int × List (Int × Int × Int × List UInt8) → Option (Bool) := evF [fn_laws_eqItemS] F_laws_eqBundle [.agg (.pair (.int .i64) (.pair (.int .i64) (.pair (.int .i64) (.sl false (.pair (.int .i64) (.pair (.int .i64) (.pair (.int .i64) .str))))))), .agg (.pair (.int .i64) (.pair (.int .i64) (.pair (.int .i64) (.sl false (.pair (.int .i64) (.pair (.int .i64) (.pair (.int .i64) .str)))))))] [] [.cell .bool] []
noncomputable def fn_laws_eqBundle : TFn := ⟨116, [.agg (.pair (.int .i64) (.pair (.int .i64) (.pair (.int .i64) (.sl false (.pair (.int .i64) (.pair (.int .i64) (.pair (.int .i64) .str))))))), .agg (.pair (.int .i64) (.pair (.int .i64) (.pair (.int .i64) (.sl false (.pair (.int .i64) (.pair (.int .i64) (.pair (.int .i64) .str)))))))], [], [.cell .bool], [], T_laws_eqBundle⟩
theorem ok_laws_eqBundle : FnOk Tryz.prog fn_laws_eqBundle := evF_ok mixed (allOk_cons ok_laws_eqItemS allOk_nil) m_laws_eqBundle (by decide)
def B_laws_eqBundleS_1 : TC := (.seq (.seq (.reg none [.p (.mv 11 (.t 5)) .unit,
  .p (.mv 12 (.t 0)) .unit,
  .p (.lenB 13 (.t 12)) .unit,
  .p (.bin 14 false .lss (.t 11) (.t 13)) .unit])
 (.cond (.t 14) .skip (.exit 0)))
 (.seq (.block 1 (.seq (.reg (some [[], [], [0, 1], [2], [], [], [4, 5], [6], [3, 7], [8]]) [.p (.mv 17 (.t 0)) .unit,
  .p (.mv 18 (.t 5)) .unit,
  .p (.iadr 19 4 (.t 17) (.t 18)) .unit,
  .p (.load 20 (.t 19) 4 true) .unit,
  .p (.mv 21 (.t 1)) .unit,
  .p (.mv 22 (.t 5)) .unit,
  .p (.iadr 23 4 (.t 21) (.t 22)) .unit,
  .p (.load 24 (.t 23) 4 true) .unit,
  .p (.callB 25 n_laws_eqBundle [((.t 20), 0), ((.t 24), 0)]) .unit,
  .p (.un 26 .not (.t 25)) .unit])
 (.cond (.t 26) (.seq (.reg none [.p (.mv 4 (.c (.bool false))) .unit])
 .ret) .skip)))
 (.reg none [.p (.mv 15 (.t 5)) .unit,
  .p (.bin 16 false .add (.t 15) (.c (.int .i64 1))) .unit,
  .p (.mv 5 (.t 16)) .unit])))
noncomputable def L_laws_eqBundleS_1 : Nat → (List (Int × Int × Int × List (Int × Int × Int × List UInt8))) × (List (Int × Int × Int × List (Int × Int × Int × List UInt8))) × Int → Option ((Unit) ⊕ (Bool)) := evL [fn_laws_eqBundle] (finT [.t 4] [] [.cell .bool]) 0 ⟨[(0, true), (1, true), (5, false)], [.cell (.sl false (.pair (.int .i64) (.pair (.int .i64) (.pair (.int .i64) (.sl false (.pair (.int .i64) (.pair (.int .i64) (.pair (.int .i64) .str)))))))), .cell (.sl false (.pair (.int .i64) (.pair (.int .i64) (.pair (.int .i64) (.sl false (.pair (.int .i64) (.pair (.int .i64) (.pair (.int .i64) .str)))))))), .cell (.int .i64)]⟩ ⟨[], []⟩ B_laws_eqBundleS_1
def F_laws_eqBundleS : TF := ⟨(.seq (.reg none [.p (.mv 4 (.c (.bool false))) .unit])
 (.seq (.seq (.reg none [.p (.mv 6 (.t 0)) .unit,
  .p (.lenB 7 (.t 6)) .unit,
  .p (.mv 8 (.t 1)) .unit,
  .p (.lenB 9 (.t 8)) .unit,
  .p (.bin 10 false .neq (.t 7) (.t 9)) .unit])
 (.cond (.t 10) (.seq (.reg none [.p (.mv 4 (.c (.bool false))) .unit])
 .ret) .skip))
 (.seq (.seq (.reg none [.p (.mv 5 (.c (.int .i64 0))) .unit])
 (.jl 0 ⟨[(0, true), (1, true), (5, false)], [.cell (.sl false (.pair (.int .i64) (.pair (.int .i64) (.pair (.int .i64) (.sl false (.pair (.int .i64) (.pair (.int .i64) (.pair (.int .i64) .str)))))))), .cell (.sl false (.pair (.int .i64) (.pair (.int .i64) (.pair (.int .i64) (.sl false (.pair (.int .i64) (.pair (.int .i64) (.pair (.int .i64) .str)))))))), .cell (.int .i64)]⟩ ⟨[], []⟩ B_laws_eqBundleS_1))
 (.seq (.reg none [.p (.mv 4 (.c (.bool true))) .unit])
 .ret)))),
 27, 2, [.t 4]⟩
theorem m_laws_eqBundleS : mH Tryz.prog 113 [] = some (F_laws_eqBundleS.code.x, F_laws_eqBundleS.N, F_laws_eqBundleS.np, F_laws_eqBundleS.res) := by kernel_rfl
noncomputable def T_laws_eqBundleS : (List (Int × Int × Int × List (Int × Int × Int × List UInt8))) × List (Int × Int × Int × List (Int × Int × Int × List UInt8)) → Option (Bool) := evF [fn_laws_eqBundle] F_laws_eqBundleS [.cell (.sl false (.pair (.int .i64) (.pair (.int .i64) (.pair (.int .i64) (.sl false (.pair (.int .i64) (.pair (.int .i64) (.pair (.int .i64) .str)))))))), .cell (.sl false (.pair (.int .i64) (.pair (.int .i64) (.pair (.int .i64) (.sl false (.pair (.int .i64) (.pair (.int .i64) (.pair (.int .i64) .str))))))))] [] [.cell .bool] []
noncomputable def fn_laws_eqBundleS : TFn := ⟨113, [.cell (.sl false (.pair (.int .i64) (.pair (.int .i64) (.pair (.int .i64) (.sl false (.pair (.int .i64) (.pair (.int .i64) (.pair (.int .i64) .str)))))))), .cell (.sl false (.pair (.int .i64) (.pair (.int .i64) (.pair (.int .i64) (.sl false (.pair (.int .i64) (.pair (.int .i64) (.pair (.int .i64) .str))))))))], [], [.cell .bool], [], T_laws_eqBundleS⟩
theorem ok_laws_eqBundleS : FnOk Tryz.prog fn_laws_eqBundleS := evF_ok mixed (allOk_cons ok_laws_eqBundle allOk_nil) m_laws_eqBundleS (by decide)
def F_laws_eqEvent : TF := ⟨(.seq (.reg none [.p (.box 2 (.t 0)) .unit,
  .p (.box 3 (.t 1)) .unit,
  .p (.mv 4 (.c (.bool false))) .unit])
 (.seq (.seq (.reg none [.p (.fadr 5 (.t 2) 0) .unit,
  .p (.load 6 (.t 5) 1 false) .unit,
  .p (.fadr 7 (.t 3) 0) .unit,
  .p (.load 8 (.t 7) 1 false) .unit,
  .p (.bin 9 false .neq (.t 6) (.t 8)) .unit])
 (.cond (.t 9) (.seq (.reg none [.p (.mv 4 (.c (.bool false))) .unit])
 .ret) .skip))
 (.seq (.seq (.reg none [.p (.fadr 10 (.t 2) 1) .unit,
  .p (.load 11 (.t 10) 2 true) .unit,
  .p (.fadr 12 (.t 3) 1) .unit,
  .p (.load 13 (.t 12) 2 true) .unit,
  .p (.callB 14 n_laws_eqRing [((.t 11), 0), ((.t 13), 0)]) .unit,
  .p (.un 15 .not (.t 14)) .unit])
 (.cond (.t 15) (.seq (.reg none [.p (.mv 4 (.c (.bool false))) .unit])
 .ret) .skip))
 (.seq (.seq (.reg none [.p (.fadr 16 (.t 2) 3) .unit,
  .p (.load 17 (.t 16) 4 true) .unit,
  .p (.fadr 18 (.t 3) 3) .unit,
  .p (.load 19 (.t 18) 4 true) .unit,
  .p (.callB 20 n_laws_eqItem [((.t 17), 0), ((.t 19), 0)]) .unit,
  .p (.un 21 .not (.t 20)) .unit])
 (.cond (.t 21) (.seq (.reg none [.p (.mv 4 (.c (.bool false))) .unit])
 .ret) .skip))
 (.seq (.seq (.reg none [.p (.fadr 22 (.t 2) 7) .unit,
  .p (.load 23 (.t 22) 1 false) .unit,
  .p (.fadr 24 (.t 3) 7) .unit,
  .p (.load 25 (.t 24) 1 false) .unit,
  .p (.callB 26 n_laws_eqIntS [((.t 23), 0), ((.t 25), 0)]) .unit,
  .p (.un 27 .not (.t 26)) .unit])
 (.cond (.t 27) (.seq (.reg none [.p (.mv 4 (.c (.bool false))) .unit])
 .ret) .skip))
 (.seq (.reg none [.p (.mv 4 (.c (.bool true))) .unit])
 .ret)))))),
 28, 2, [.t 4]⟩
theorem m_laws_eqEvent : mH Tryz.prog 90 [] = some (F_laws_eqEvent.code.x, F_laws_eqEvent.N, F_laws_eqEvent.np, F_laws_eqEvent.res) := by kernel_rfl
noncomputable def T_laws_eqEvent : (Int × (Int × List (Int)) × (Int × Int × Int × List UInt8) × List (Int)) × Int × (Int × List (Int)) × (Int × Int × Int × List UInt8) × List (Int) → Option (Bool) := evF [fn_laws_eqRing, fn_laws_eqItem, fn_laws_eqIntS] F_laws_eqEvent [.agg (.pair (.int .i64) (.pair (.pair (.int .i64) (.sl false (.int .i64))) (.pair (.pair (.int .i64) (.pair (.int .i64) (.pair (.int .i64) .str))) (.sl false (.int .i64))))), .agg (.pair (.int .i64) (.pair (.pair (.int .i64) (.sl false (.int .i64))) (.pair (.pair (.int .i64) (.pair (.int .i64) (.pair (.int .i64) .str))) (.sl false (.int .i64)))))] [] [.cell .bool] []
noncomputable def fn_laws_eqEvent : TFn := ⟨90, [.agg (.pair (.int .i64) (.pair (.pair (.int .i64) (.sl false (.int .i64))) (.pair (.pair (.int .i64) (.pair (.int .i64) (.pair (.int .i64) .str))) (.sl false (.int .i64))))), .agg (.pair (.int .i64) (.pair (.pair (.int .i64) (.sl false (.int .i64))) (.pair (.pair (.int .i64) (.pair (.int .i64) (.pair (.int .i64) .str))) (.sl false (.int .i64)))))], [], [.cell .bool], [], T_laws_eqEvent⟩
theorem ok_laws_eqEvent : FnOk Tryz.prog fn_laws_eqEvent := evF_ok mixed (allOk_cons ok_laws_eqRing (allOk_cons ok_laws_eqItem (allOk_cons ok_laws_eqIntS allOk_nil))) m_laws_eqEvent (by decide)
def B_laws_eqEventS_1 : TC := (.seq (.seq (.reg none [.p (.mv 11 (.t 5)) .unit,
  .p (.mv 12 (.t 0)) .unit,
  .p (.lenB 13 (.t 12)) .unit,
  .p (.bin 14 false .lss (.t 11) (.t 13)) .unit])
 (.cond (.t 14) .skip (.exit 0)))
 (.seq (.block 1 (.seq (.reg (some [[], [], [0, 1], [2], [], [], [4, 5], [6], [3, 7], [8]]) [.p (.mv 17 (.t 0)) .unit,
  .p (.mv 18 (.t 5)) .unit,
  .p (.iadr 19 8 (.t 17) (.t 18)) .unit,
  .p (.load 20 (.t 19) 8 true) .unit,
  .p (.mv 21 (.t 1)) .unit,
  .p (.mv 22 (.t 5)) .unit,
  .p (.iadr 23 8 (.t 21) (.t 22)) .unit,
  .p (.load 24 (.t 23) 8 true) .unit,
  .p (.callB 25 n_laws_eqEvent [((.t 20), 0), ((.t 24), 0)]) .unit,
  .p (.un 26 .not (.t 25)) .unit])
 (.cond (.t 26) (.seq (.reg none [.p (.mv 4 (.c (.bool false))) .unit])
 .ret) .skip)))
 (.reg none [.p (.mv 15 (.t 5)) .unit,
  .p (.bin 16 false .add (.t 15) (.c (.int .i64 1))) .unit,
  .p (.mv 5 (.t 16)) .unit])))
noncomputable def L_laws_eqEventS_1 : Nat → (List (Int × (Int × List (Int)) × (Int × Int × Int × List UInt8) × List (Int))) × (List (Int × (Int × List (Int)) × (Int × Int × Int × List UInt8) × List (Int))) × Int → Option ((Unit) ⊕ (Bool)) := evL [fn_laws_eqEvent] (finT [.t 4] [] [.cell .bool]) 0 ⟨[(0, true), (1, true), (5, false)], [.cell (.sl false (.pair (.int .i64) (.pair (.pair (.int .i64) (.sl false (.int .i64))) (.pair (.pair (.int .i64) (.pair (.int .i64) (.pair (.int .i64) .str))) (.sl false (.int .i64)))))), .cell (.sl false (.pair (.int .i64) (.pair (.pair (.int .i64) (.sl false (.int .i64))) (.pair (.pair (.int .i64) (.pair (.int .i64) (.pair (.int .i64) .str))) (.sl false (.int .i64)))))), .cell (.int .i64)]⟩ ⟨[], []⟩ B_laws_eqEventS_1
def F_laws_eqEventS : TF := ⟨(.seq (.reg none [.p (.mv 4 (.c (.bool false))) .unit])
 (.seq (.seq (.reg none [.p (.mv 6 (.t 0)) .unit,
  .p (.lenB 7 (.t 6)) .unit,
  .p (.mv 8 (.t 1)) .unit,
  .p (.lenB 9 (.t 8)) .unit,
  .p (.bin 10 false .neq (.t 7) (.t 9)) .unit])
 (.cond (.t 10) (.seq (.reg none [.p (.mv 4 (.c (.bool false))) .unit])
 .ret) .skip))
 (.seq (.seq (.reg none [.p (.mv 5 (.c (.int .i64 0))) .unit])
 (.jl 0 ⟨[(0, true), (1, true), (5, false)], [.cell (.sl false (.pair (.int .i64) (.pair (.pair (.int .i64) (.sl false (.int .i64))) (.pair (.pair (.int .i64) (.pair (.int .i64) (.pair (.int .i64) .str))) (.sl false (.int .i64)))))), .cell (.sl false (.pair (.int .i64) (.pair (.pair (.int .i64) (.sl false (.int .i64))) (.pair (.pair (.int .i64) (.pair (.int .i64) (.pair (.int .i64) .str))) (.sl false (.int .i64)))))), .cell (.int .i64)]⟩ ⟨[], []⟩ B_laws_eqEventS_1))
 (.seq (.reg none [.p (.mv 4 (.c (.bool true))) .unit])
 .ret)))),
 27, 2, [.t 4]⟩
theorem m_laws_eqEventS : mH Tryz.prog 61 [] = some (F_laws_eqEventS.code.x, F_laws_eqEventS.N, F_laws_eqEventS.np, F_laws_eqEventS.res) := by kernel_rfl
noncomputable def T_laws_eqEventS : (List (Int × (Int × List (Int)) × (Int × Int × Int × List UInt8) × List (Int))) × List (Int × (Int × List (Int)) × (Int × Int × Int × List UInt8) × List (Int)) → Option (Bool) := evF [fn_laws_eqEvent] F_laws_eqEventS [.cell (.sl false (.pair (.int .i64) (.pair (.pair (.int .i64) (.sl false (.int .i64))) (.pair (.pair (.int .i64) (.pair (.int .i64) (.pair (.int .i64) .str))) (.sl false (.int .i64)))))), .cell (.sl false (.pair (.int .i64) (.pair (.pair (.int .i64) (.sl false (.int .i64))) (.pair (.pair (.int .i64) (.pair (.int .i64) (.pair (.int .i64) .str))) (.sl false (.int .i64))))))] [] [.cell .bool] []
noncomputable def fn_laws_eqEventS : TFn := ⟨61, [.cell (.sl false (.pair (.int .i64) (.pair (.pair (.int .i64) (.sl false (.int .i64))) (.pair (.pair (.int .i64) (.pair (.int .i64) (.pair (.int .i64) .str))) (.sl false (.int .i64)))))), .cell (.sl false (.pair (.int .i64) (.pair (.pair (.int .i64) (.sl false (.int .i64))) (.pair (.pair (.int .i64) (.pair (.int .i64) (.pair (.int .i64) .str))) (.sl false (.int .i64))))))], [], [.cell .bool], [], T_laws_eqEventS⟩
theorem ok_laws_eqEventS : FnOk Tryz.prog fn_laws_eqEventS := evF_ok mixed (allOk_cons ok_laws_eqEvent allOk_nil) m_laws_eqEventS (by decide)
def F_laws_eqDaemon : TF := ⟨(.seq (.reg none [.p (.box 2 (.t 0)) .unit,
  .p (.box 3 (.t 1)) .unit,
  .p (.mv 4 (.c (.bool false))) .unit])
 (.seq (.seq (.reg none [.p (.fadr 5 (.t 2) 0) .unit,
  .p (.load 6 (.t 5) 1 false) .unit,
  .p (.fadr 7 (.t 3) 0) .unit,
  .p (.load 8 (.t 7) 1 false) .unit,
  .p (.bin 9 false .neq (.t 6) (.t 8)) .unit])
 (.cond (.t 9) (.seq (.reg none [.p (.mv 4 (.c (.bool false))) .unit])
 .ret) .skip))
 (.seq (.seq (.reg none [.p (.fadr 10 (.t 2) 1) .unit,
  .p (.load 11 (.t 10) 1 false) .unit,
  .p (.fadr 12 (.t 3) 1) .unit,
  .p (.load 13 (.t 12) 1 false) .unit,
  .p (.bin 14 true .neq (.t 11) (.t 13)) .unit])
 (.cond (.t 14) (.seq (.reg none [.p (.mv 4 (.c (.bool false))) .unit])
 .ret) .skip))
 (.seq (.seq (.reg none [.p (.fadr 15 (.t 2) 2) .unit,
  .p (.load 16 (.t 15) 16 true) .unit,
  .p (.fadr 17 (.t 3) 2) .unit,
  .p (.load 18 (.t 17) 16 true) .unit,
  .p (.callB 19 n_laws_eqMate [((.t 16), 0), ((.t 18), 0)]) .unit,
  .p (.un 20 .not (.t 19)) .unit])
 (.cond (.t 20) (.seq (.reg none [.p (.mv 4 (.c (.bool false))) .unit])
 .ret) .skip))
 (.seq (.seq (.reg none [.p (.fadr 21 (.t 2) 18) .unit,
  .p (.load 22 (.t 21) 1 false) .unit,
  .p (.fadr 23 (.t 3) 18) .unit,
  .p (.load 24 (.t 23) 1 false) .unit,
  .p (.bin 25 false .neq (.t 22) (.t 24)) .unit])
 (.cond (.t 25) (.seq (.reg none [.p (.mv 4 (.c (.bool false))) .unit])
 .ret) .skip))
 (.seq (.seq (.reg none [.p (.fadr 26 (.t 2) 19) .unit,
  .p (.load 27 (.t 26) 1 false) .unit,
  .p (.fadr 28 (.t 3) 19) .unit,
  .p (.load 29 (.t 28) 1 false) .unit,
  .p (.bin 30 false .neq (.t 27) (.t 29)) .unit])
 (.cond (.t 30) (.seq (.reg none [.p (.mv 4 (.c (.bool false))) .unit])
 .ret) .skip))
 (.seq (.seq (.reg none [.p (.fadr 31 (.t 2) 20) .unit,
  .p (.load 32 (.t 31) 2 true) .unit,
  .p (.fadr 33 (.t 3) 20) .unit,
  .p (.load 34 (.t 33) 2 true) .unit,
  .p (.callB 35 n_laws_eqRing [((.t 32), 0), ((.t 34), 0)]) .unit,
  .p (.un 36 .not (.t 35)) .unit])
 (.cond (.t 36) (.seq (.reg none [.p (.mv 4 (.c (.bool false))) .unit])
 .ret) .skip))
 (.seq (.seq (.reg none [.p (.fadr 37 (.t 2) 22) .unit,
  .p (.load 38 (.t 37) 1 false) .unit,
  .p (.fadr 39 (.t 3) 22) .unit,
  .p (.load 40 (.t 39) 1 false) .unit,
  .p (.callB 41 n_laws_eqBundleS [((.t 38), 0), ((.t 40), 0)]) .unit,
  .p (.un 42 .not (.t 41)) .unit])
 (.cond (.t 42) (.seq (.reg none [.p (.mv 4 (.c (.bool false))) .unit])
 .ret) .skip))
 (.seq (.seq (.reg none [.p (.fadr 43 (.t 2) 23) .unit,
  .p (.load 44 (.t 43) 1 false) .unit,
  .p (.fadr 45 (.t 3) 23) .unit,
  .p (.load 46 (.t 45) 1 false) .unit,
  .p (.callB 47 n_laws_eqEventS [((.t 44), 0), ((.t 46), 0)]) .unit,
  .p (.un 48 .not (.t 47)) .unit])
 (.cond (.t 48) (.seq (.reg none [.p (.mv 4 (.c (.bool false))) .unit])
 .ret) .skip))
 (.seq (.reg none [.p (.mv 4 (.c (.bool true))) .unit])
 .ret)))))))))),
 49, 2, [.t 4]⟩
theorem m_laws_eqDaemon : mH Tryz.prog 88 [] = some (F_laws_eqDaemon.code.x, F_laws_eqDaemon.N, F_laws_eqDaemon.np, F_laws_eqDaemon.res) := by kernel_rfl
noncomputable def T_laws_eqDaemon : (Int × Bool × (Int × (Int × List (Int)) × List (Int × Int × Int × List UInt8) × List (Int) × List (List UInt8) × Int × Int × Int × Int × Int × Int × Int × Int × Int × List (Int)) × Int × Int × (Int × List (Int)) × List (Int × Int × Int × List (Int × Int × Int × List UInt8)) × List (Int × (Int × List (Int)) × (Int × Int × Int × List UInt8) × List (Int))) × Int × Bool × (Int × (Int × List (Int)) × List (Int × Int × Int × List UInt8) × List (Int) × List (List UInt8) × Int × Int × Int × Int × Int × Int × Int × Int × Int × List (Int)) × Int × Int × (Int × List (Int)) × List (Int × Int × Int × List (Int × Int × Int × List UInt8)) × List (Int × (Int × List (Int)) × (Int × Int × Int × List UInt8) × List (Int)) → Option (Bool) := evF [fn_laws_eqMate, fn_laws_eqRing, fn_laws_eqBundleS, fn_laws_eqEventS] F_laws_eqDaemon [.agg (.pair (.int .i64) (.pair .bool (.pair (.pair (.int .i64) (.pair (.pair (.int .i64) (.sl false (.int .i64))) (.pair (.sl false (.pair (.int .i64) (.pair (.int .i64) (.pair (.int .i64) .str)))) (.pair (.sl false (.int .i64)) (.pair (.sl false .str) (.pair (.int .i64) (.pair (.int .i64) (.pair (.int .i64) (.pair (.int .i64) (.pair (.int .i64) (.pair (.int .i64) (.pair (.int .i64) (.pair (.int .i64) (.pair (.int .i64) (.sl false (.int .i64)))))))))))))))) (.pair (.int .i64) (.pair (.int .i64) (.pair (.pair (.int .i64) (.sl false (.int .i64))) (.pair (.sl false (.pair (.int .i64) (.pair (.int .i64) (.pair (.int .i64) (.sl false (.pair (.int .i64) (.pair (.int .i64) (.pair (.int .i64) .str)))))))) (.sl false (.pair (.int .i64) (.pair (.pair (.int .i64) (.sl false (.int .i64))) (.pair (.pair (.int .i64) (.pair (.int .i64) (.pair (.int .i64) .str))) (.sl false (.int .i64))))))))))))), .agg (.pair (.int .i64) (.pair .bool (.pair (.pair (.int .i64) (.pair (.pair (.int .i64) (.sl false (.int .i64))) (.pair (.sl false (.pair (.int .i64) (.pair (.int .i64) (.pair (.int .i64) .str)))) (.pair (.sl false (.int .i64)) (.pair (.sl false .str) (.pair (.int .i64) (.pair (.int .i64) (.pair (.int .i64) (.pair (.int .i64) (.pair (.int .i64) (.pair (.int .i64) (.pair (.int .i64) (.pair (.int .i64) (.pair (.int .i64) (.sl false (.int .i64)))))))))))))))) (.pair (.int .i64) (.pair (.int .i64) (.pair (.pair (.int .i64) (.sl false (.int .i64))) (.pair (.sl false (.pair (.int .i64) (.pair (.int .i64) (.pair (.int .i64) (.sl false (.pair (.int .i64) (.pair (.int .i64) (.pair (.int .i64) .str)))))))) (.sl false (.pair (.int .i64) (.pair (.pair (.int .i64) (.sl false (.int .i64))) (.pair (.pair (.int .i64) (.pair (.int .i64) (.pair (.int .i64) .str))) (.sl false (.int .i64)))))))))))))] [] [.cell .bool] []
noncomputable def fn_laws_eqDaemon : TFn := ⟨88, [.agg (.pair (.int .i64) (.pair .bool (.pair (.pair (.int .i64) (.pair (.pair (.int .i64) (.sl false (.int .i64))) (.pair (.sl false (.pair (.int .i64) (.pair (.int .i64) (.pair (.int .i64) .str)))) (.pair (.sl false (.int .i64)) (.pair (.sl false .str) (.pair (.int .i64) (.pair (.int .i64) (.pair (.int .i64) (.pair (.int .i64) (.pair (.int .i64) (.pair (.int .i64) (.pair (.int .i64) (.pair (.int .i64) (.pair (.int .i64) (.sl false (.int .i64)))))))))))))))) (.pair (.int .i64) (.pair (.int .i64) (.pair (.pair (.int .i64) (.sl false (.int .i64))) (.pair (.sl false (.pair (.int .i64) (.pair (.int .i64) (.pair (.int .i64) (.sl false (.pair (.int .i64) (.pair (.int .i64) (.pair (.int .i64) .str)))))))) (.sl false (.pair (.int .i64) (.pair (.pair (.int .i64) (.sl false (.int .i64))) (.pair (.pair (.int .i64) (.pair (.int .i64) (.pair (.int .i64) .str))) (.sl false (.int .i64))))))))))))), .agg (.pair (.int .i64) (.pair .bool (.pair (.pair (.int .i64) (.pair (.pair (.int .i64) (.sl false (.int .i64))) (.pair (.sl false (.pair (.int .i64) (.pair (.int .i64) (.pair (.int .i64) .str)))) (.pair (.sl false (.int .i64)) (.pair (.sl false .str) (.pair (.int .i64) (.pair (.int .i64) (.pair (.int .i64) (.pair (.int .i64) (.pair (.int .i64) (.pair (.int .i64) (.pair (.int .i64) (.pair (.int .i64) (.pair (.int .i64) (.sl false (.int .i64)))))))))))))))) (.pair (.int .i64) (.pair (.int .i64) (.pair (.pair (.int .i64) (.sl false (.int .i64))) (.pair (.sl false (.pair (.int .i64) (.pair (.int .i64) (.pair (.int .i64) (.sl false (.pair (.int .i64) (.pair (.int .i64) (.pair (.int .i64) .str)))))))) (.sl false (.pair (.int .i64) (.pair (.pair (.int .i64) (.sl false (.int .i64))) (.pair (.pair (.int .i64) (.pair (.int .i64) (.pair (.int .i64) .str))) (.sl false (.int .i64)))))))))))))], [], [.cell .bool], [], T_laws_eqDaemon⟩
theorem ok_laws_eqDaemon : FnOk Tryz.prog fn_laws_eqDaemon := evF_ok mixed (allOk_cons ok_laws_eqMate (allOk_cons ok_laws_eqRing (allOk_cons ok_laws_eqBundleS (allOk_cons ok_laws_eqEventS allOk_nil)))) m_laws_eqDaemon (by decide)
def B_laws_eqDaemonS_1 : TC := (.seq (.seq (.reg none [.p (.mv 11 (.t 5)) .unit,
  .p (.mv 12 (.t 0)) .unit,
  .p (.lenB 13 (.t 12)) .unit,
  .p (.bin 14 false .lss (.t 11) (.t 13)) .unit])
 (.cond (.t 14) .skip (.exit 0)))
 (.seq (.block 1 (.seq (.reg (some [[], [], [0, 1], [2], [], [], [4, 5], [6], [3, 7], [8]]) [.p (.mv 17 (.t 0)) .unit,
  .p (.mv 18 (.t 5)) .unit,
  .p (.iadr 19 24 (.t 17) (.t 18)) .unit,
  .p (.load 20 (.t 19) 24 true) .unit,
  .p (.mv 21 (.t 1)) .unit,
  .p (.mv 22 (.t 5)) .unit,
  .p (.iadr 23 24 (.t 21) (.t 22)) .unit,
  .p (.load 24 (.t 23) 24 true) .unit,
  .p (.callB 25 n_laws_eqDaemon [((.t 20), 0), ((.t 24), 0)]) .unit,
  .p (.un 26 .not (.t 25)) .unit])
 (.cond (.t 26) (.seq (.reg none [.p (.mv 4 (.c (.bool false))) .unit])
 .ret) .skip)))
 (.reg none [.p (.mv 15 (.t 5)) .unit,
  .p (.bin 16 false .add (.t 15) (.c (.int .i64 1))) .unit,
  .p (.mv 5 (.t 16)) .unit])))
noncomputable def L_laws_eqDaemonS_1 : Nat → (List (Int × Bool × (Int × (Int × List (Int)) × List (Int × Int × Int × List UInt8) × List (Int) × List (List UInt8) × Int × Int × Int × Int × Int × Int × Int × Int × Int × List (Int)) × Int × Int × (Int × List (Int)) × List (Int × Int × Int × List (Int × Int × Int × List UInt8)) × List (Int × (Int × List (Int)) × (Int × Int × Int × List UInt8) × List (Int)))) × (List (Int × Bool × (Int × (Int × List (Int)) × List (Int × Int × Int × List UInt8) × List (Int) × List (List UInt8) × Int × Int × Int × Int × Int × Int × Int × Int × Int × List (Int)) × Int × Int × (Int × List (Int)) × List (Int × Int × Int × List (Int × Int × Int × List UInt8)) × List (Int × (Int × List (Int)) × (Int × Int × Int × List UInt8) × List (Int)))) × Int → Option ((Unit) ⊕ (Bool)) := evL [fn_laws_eqDaemon] (finT [.t 4] [] [.cell .bool]) 0 ⟨[(0, true), (1, true), (5, false)], [.cell (.sl false (.pair (.int .i64) (.pair .bool (.pair (.pair (.int .i64) (.pair (.pair (.int .i64) (.sl false (.int .i64))) (.pair (.sl false (.pair (.int .i64) (.pair (.int .i64) (.pair (.int .i64) .str)))) (.pair (.sl false (.int .i64)) (.pair (.sl false .str) (.pair (.int .i64) (.pair (.int .i64) (.pair (.int .i64) (.pair (.int .i64) (.pair (.int .i64) (.pair (.int .i64) (.pair (.int .i64) (.pair (.int .i64) (.pair (.int .i64) (.sl false (.int .i64)))))))))))))))) (.pair (.int .i64) (.pair (.int .i64) (.pair (.pair (.int .i64) (.sl false (.int .i64))) (.pair (.sl false (.pair (.int .i64) (.pair (.int .i64) (.pair (.int .i64) (.sl false (.pair (.int .i64) (.pair (.int .i64) (.pair (.int .i64) .str)))))))) (.sl false (.pair (.int .i64) (.pair (.pair (.int .i64) (.sl false (.int .i64))) (.pair (.pair (.int .i64) (.pair (.int .i64) (.pair (.int .i64) .str))) (.sl false (.int .i64)))))))))))))), .cell (.sl false (.pair (.int .i64) (.pair .bool (.pair (.pair (.int .i64) (.pair (.pair (.int .i64) (.sl false (.int .i64))) (.pair (.sl false (.pair (.int .i64) (.pair (.int .i64) (.pair (.int .i64) .str)))) (.pair (.sl false (.int .i64)) (.pair (.sl false .str) (.pair (.int .i64) (.pair (.int .i64) (.pair (.int .i64) (.pair (.int .i64) (.pair (.int .i64) (.pair (.int .i64) (.pair (.int .i64) (.pair (.int .i64) (.pair (.int .i64) (.sl false (.int .i64)))))))))))))))) (.pair (.int .i64) (.pair (.int .i64) (.pair (.pair (.int .i64) (.sl false (.int .i64))) (.pair (.sl false (.pair (.int .i64) (.pair (.int .i64) (.pair (.int .i64) (.sl false (.pair (.int .i64) (.pair (.int .i64) (.pair (.int .i64) .str)))))))) (.sl false (.pair (.int .i64) (.pair (.pair (.int .i64) (.sl false (.int .i64))) (.pair (.pair (.int .i64) (.pair (.int .i64) (.pair (.int .i64) .str))) (.sl false (.int .i64)))))))))))))), .cell (.int .i64)]⟩ ⟨[], []⟩ B_laws_eqDaemonS_1
def F_laws_eqDaemonS : TF := ⟨(.seq (.reg none [.p (.mv 4 (.c (.bool false))) .unit])
 (.seq (.seq (.reg none [.p (.mv 6 (.t 0)) .unit,
  .p (.lenB 7 (.t 6)) .unit,
  .p (.mv 8 (.t 1)) .unit,
  .p (.lenB 9 (.t 8)) .unit,
  .p (.bin 10 false .neq (.t 7) (.t 9)) .unit])
 (.cond (.t 10) (.seq (.reg none [.p (.mv 4 (.c (.bool false))) .unit])
 .ret) .skip))
 (.seq (.seq (.reg none [.p (.mv 5 (.c (.int .i64 0))) .unit])
 (.jl 0 ⟨[(0, true), (1, true), (5, false)], [.cell (.sl false (.pair (.int .i64) (.pair .bool (.pair (.pair (.int .i64) (.pair (.pair (.int .i64) (.sl false (.int .i64))) (.pair (.sl false (.pair (.int .i64) (.pair (.int .i64) (.pair (.int .i64) .str)))) (.pair (.sl false (.int .i64)) (.pair (.sl false .str) (.pair (.int .i64) (.pair (.int .i64) (.pair (.int .i64) (.pair (.int .i64) (.pair (.int .i64) (.pair (.int .i64) (.pair (.int .i64) (.pair (.int .i64) (.pair (.int .i64) (.sl false (.int .i64)))))))))))))))) (.pair (.int .i64) (.pair (.int .i64) (.pair (.pair (.int .i64) (.sl false (.int .i64))) (.pair (.sl false (.pair (.int .i64) (.pair (.int .i64) (.pair (.int .i64) (.sl false (.pair (.int .i64) (.pair (.int .i64) (.pair (.int .i64) .str)))))))) (.sl false (.pair (.int .i64) (.pair (.pair (.int .i64) (.sl false (.int .i64))) (.pair (.pair (.int .i64) (.pair (.int .i64) (.pair (.int .i64) .str))) (.sl false (.int .i64)))))))))))))), .cell (.sl false (.pair (.int .i64) (.pair .bool (.pair (.pair (.int .i64) (.pair (.pair (.int .i64) (.sl false (.int .i64))) (.pair (.sl false (.pair (.int .i64) (.pair (.int .i64) (.pair (.int .i64) .str)))) (.pair (.sl false (.int .i64)) (.pair (.sl false .str) (.pair (.int .i64) (.pair (.int .i64) (.pair (.int .i64) (.pair (.int .i64) (.pair (.int .i64) (.pair (.int .i64) (.pair (.int .i64) (.pair (.int .i64) (.pair (.int .i64) (.sl false (.int .i64)))))))))))))))) (.pair (.int .i64) (.pair (.int .i64) (.pair (.pair (.int .i64) (.sl false (.int .i64))) (.pair (.sl false (.pair (.int .i64) (.pair (.int .i64) (.pair (.int .i64) (.sl false (.pair (.int .i64) (.pair (.int .i64) (.pair (.int .i64) .str)))))))) (.sl false (.pair (.int .i64) (.pair (.pair (.int .i64) (.sl false (.int .i64))) (.pair (.pair (.int .i64) (.pair (.int .i64) (.pair (.int .i64) .str))) (.sl false (.int .i64)))))))))))))), .cell (.int .i64)]⟩ ⟨[], []⟩ B_laws_eqDaemonS_1))
 (.seq (.reg none [.p (.mv 4 (.c (.bool true))) .unit])
 .ret)))),
 27, 2, [.t 4]⟩
theorem m_laws_eqDaemonS : mH Tryz.prog 59 [] = some (F_laws_eqDaemonS.code.x, F_laws_eqDaemonS.N, F_laws_eqDaemonS.np, F_laws_eqDaemonS.res) := by kernel_rfl
noncomputable def T_laws_eqDaemonS : (List (Int × Bool × (Int × (Int × List (Int)) × List (Int × Int × Int × List UInt8) × List (Int) × List (List UInt8) × Int × Int × Int × Int × Int × Int × Int × Int × Int × List (Int)) × Int × Int × (Int × List (Int)) × List (Int × Int × Int × List (Int × Int × Int × List UInt8)) × List (Int × (Int × List (Int)) × (Int × Int × Int × List UInt8) × List (Int)))) × List (Int × Bool × (Int × (Int × List (Int)) × List (Int × Int × Int × List UInt8) × List (Int) × List (List UInt8) × Int × Int × Int × Int × Int × Int × Int × Int × Int × List (Int)) × Int × Int × (Int × List (Int)) × List (Int × Int × Int × List (Int × Int × Int × List UInt8)) × List (Int × (Int × List (Int)) × (Int × Int × Int × List UInt8) × List (Int))) → Option (Bool) := evF [fn_laws_eqDaemon] F_laws_eqDaemonS [.cell (.sl false (.pair (.int .i64) (.pair .bool (.pair (.pair (.int .i64) (.pair (.pair (.int .i64) (.sl false (.int .i64))) (.pair (.sl false (.pair (.int .i64) (.pair (.int .i64) (.pair (.int .i64) .str)))) (.pair (.sl false (.int .i64)) (.pair (.sl false .str) (.pair (.int .i64) (.pair (.int .i64) (.pair (.int .i64) (.pair (.int .i64) (.pair (.int .i64) (.pair (.int .i64) (.pair (.int .i64) (.pair (.int .i64) (.pair (.int .i64) (.sl false (.int .i64)))))))))))))))) (.pair (.int .i64) (.pair (.int .i64) (.pair (.pair (.int .i64) (.sl false (.int .i64))) (.pair (.sl false (.pair (.int .i64) (.pair (.int .i64) (.pair (.int .i64) (.sl false (.pair (.int .i64) (.pair (.int .i64) (.pair (.int .i64) .str)))))))) (.sl false (.pair (.int .i64) (.pair (.pair (.int .i64) (.sl false (.int .i64))) (.pair (.pair (.int .i64) (.pair (.int .i64) (.pair (.int .i64) .str))) (.sl false (.int .i64)))))))))))))), .cell (.sl false (.pair (.int .i64) (.pair .bool (.pair (.pair (.int .i64) (.pair (.pair (.int .i64) (.sl false (.int .i64))) (.pair (.sl false (.pair (.int .i64) (.pair (.int .i64) (.pair (.int .i64) .str)))) (.pair (.sl false (.int .i64)) (.pair (.sl false .str) (.pair (.int .i64) (.pair (.int .i64) (.pair (.int .i64) (.pair (.int .i64) (.pair (.int .i64) (.pair (.int .i64) (.pair (.int .i64) (.pair (.int .i64) (.pair (.int .i64) (.sl false (.int .i64)))))))))))))))) (.pair (.int .i64) (.pair (.int .i64) (.pair (.pair (.int .i64) (.sl false (.int .i64))) (.pair (.sl false (.pair (.int .i64) (.pair (.int .i64) (.pair (.int .i64) (.sl false (.pair (.int .i64) (.pair (.int .i64) (.pair (.int .i64) .str)))))))) (.sl false (.pair (.int .i64) (.pair (.pair (.int .i64) (.sl false (.int .i64))) (.pair (.pair (.int .i64) (.pair (.int .i64) (.pair (.int .i64) .str))) (.sl false (.int .i64))))))))))))))] [] [.cell .bool] []
noncomputable def fn_laws_eqDaemonS : TFn := ⟨59, [.cell (.sl false (.pair (.int .i64) (.pair .bool (.pair (.pair (.int .i64) (.pair (.pair (.int .i64) (.sl false (.int .i64))) (.pair (.sl false (.pair (.int .i64) (.pair (.int .i64) (.pair (.int .i64) .str)))) (.pair (.sl false (.int .i64)) (.pair (.sl false .str) (.pair (.int .i64) (.pair (.int .i64) (.pair (.int .i64) (.pair (.int .i64) (.pair (.int .i64) (.pair (.int .i64) (.pair (.int .i64) (.pair (.int .i64) (.pair (.int .i64) (.sl false (.int .i64)))))))))))))))) (.pair (.int .i64) (.pair (.int .i64) (.pair (.pair (.int .i64) (.sl false (.int .i64))) (.pair (.sl false (.pair (.int .i64) (.pair (.int .i64) (.pair (.int .i64) (.sl false (.pair (.int .i64) (.pair (.int .i64) (.pair (.int .i64) .str)))))))) (.sl false (.pair (.int .i64) (.pair (.pair (.int .i64) (.sl false (.int .i64))) (.pair (.pair (.int .i64) (.pair (.int .i64) (.pair (.int .i64) .str))) (.sl false (.int .i64)))))))))))))), .cell (.sl false (.pair (.int .i64) (.pair .bool (.pair (.pair (.int .i64) (.pair (.pair (.int .i64) (.sl false (.int .i64))) (.pair (.sl false (.pair (.int .i64) (.pair (.int .i64) (.pair (.int .i64) .str)))) (.pair (.sl false (.int .i64)) (.pair (.sl false .str) (.pair (.int .i64) (.pair (.int .i64) (.pair (.int .i64) (.pair (.int .i64) (.pair (.int .i64) (.pair (.int .i64) (.pair (.int .i64) (.pair (.int .i64) (.pair (.int .i64) (.sl false (.int .i64)))))))))))))))) (.pair (.int .i64) (.pair (.int .i64) (.pair (.pair (.int .i64) (.sl false (.int .i64))) (.pair (.sl false (.pair (.int .i64) (.pair (.int .i64) (.pair (.int .i64) (.sl false (.pair (.int .i64) (.pair (.int .i64) (.pair (.int .i64) .str)))))))) (.sl false (.pair (.int .i64) (.pair (.pair (.int .i64) (.sl false (.int .i64))) (.pair (.pair (.int .i64) (.pair (.int .i64) (.pair (.int .i64) .str))) (.sl false (.int .i64))))))))))))))], [], [.cell .bool], [], T_laws_eqDaemonS⟩
theorem ok_laws_eqDaemonS : FnOk Tryz.prog fn_laws_eqDaemonS := evF_ok mixed (allOk_cons ok_laws_eqDaemon allOk_nil) m_laws_eqDaemonS (by decide)
def F_laws_eqLetter : TF := ⟨(.seq (.reg none [.p (.box 2 (.t 0)) .unit,
  .p (.box 3 (.t 1)) .unit,
  .p (.mv 4 (.c (.bool false))) .unit])
 (.seq (.seq (.reg none [.p (.fadr 5 (.t 2) 0) .unit,
  .p (.load 6 (.t 5) 1 false) .unit,
  .p (.fadr 7 (.t 3) 0) .unit,
  .p (.load 8 (.t 7) 1 false) .unit,
  .p (.bin 9 false .neq (.t 6) (.t 8)) .unit])
 (.cond (.t 9) (.seq (.reg none [.p (.mv 4 (.c (.bool false))) .unit])
 .ret) .skip))
 (.seq (.seq (.reg none [.p (.fadr 10 (.t 2) 1) .unit,
  .p (.load 11 (.t 10) 1 false) .unit,
  .p (.fadr 12 (.t 3) 1) .unit,
  .p (.load 13 (.t 12) 1 false) .unit,
  .p (.bin 14 false .neq (.t 11) (.t 13)) .unit])
 (.cond (.t 14) (.seq (.reg none [.p (.mv 4 (.c (.bool false))) .unit])
 .ret) .skip))
 (.seq (.seq (.reg none [.p (.fadr 15 (.t 2) 2) .unit,
  .p (.load 16 (.t 15) 1 false) .unit,
  .p (.fadr 17 (.t 3) 2) .unit,
  .p (.load 18 (.t 17) 1 false) .unit,
  .p (.bin 19 false .neq (.t 16) (.t 18)) .unit])
 (.cond (.t 19) (.seq (.reg none [.p (.mv 4 (.c (.bool false))) .unit])
 .ret) .skip))
 (.seq (.seq (.reg none [.p (.fadr 20 (.t 2) 3) .unit,
  .p (.load 21 (.t 20) 4 true) .unit,
  .p (.fadr 22 (.t 3) 3) .unit,
  .p (.load 23 (.t 22) 4 true) .unit,
  .p (.callB 24 n_laws_eqItem [((.t 21), 0), ((.t 23), 0)]) .unit,
  .p (.un 25 .not (.t 24)) .unit])
 (.cond (.t 25) (.seq (.reg none [.p (.mv 4 (.c (.bool false))) .unit])
 .ret) .skip))
 (.seq (.seq (.reg none [.p (.fadr 26 (.t 2) 7) .unit,
  .p (.load 27 (.t 26) 6 true) .unit,
  .p (.fadr 28 (.t 3) 7) .unit,
  .p (.load 29 (.t 28) 6 true) .unit,
  .p (.callB 30 n_laws_eqToken [((.t 27), 0), ((.t 29), 0)]) .unit,
  .p (.un 31 .not (.t 30)) .unit])
 (.cond (.t 31) (.seq (.reg none [.p (.mv 4 (.c (.bool false))) .unit])
 .ret) .skip))
 (.seq (.seq (.reg none [.p (.fadr 32 (.t 2) 13) .unit,
  .p (.load 33 (.t 32) 4 true) .unit,
  .p (.fadr 34 (.t 3) 13) .unit,
  .p (.load 35 (.t 34) 4 true) .unit,
  .p (.callB 36 n_laws_eqBundle [((.t 33), 0), ((.t 35), 0)]) .unit,
  .p (.un 37 .not (.t 36)) .unit])
 (.cond (.t 37) (.seq (.reg none [.p (.mv 4 (.c (.bool false))) .unit])
 .ret) .skip))
 (.seq (.reg none [.p (.mv 4 (.c (.bool true))) .unit])
 .ret)))))))),
 38, 2, [.t 4]⟩
theorem m_laws_eqLetter : mH Tryz.prog 89 [] = some (F_laws_eqLetter.code.x, F_laws_eqLetter.N, F_laws_eqLetter.np, F_laws_eqLetter.res) := by kernel_rfl
noncomputable def T_laws_eqLetter : (Int × Int × Int × (Int × Int × Int × List UInt8) × (Int × Int × Int × Int × Int × List (Int)) × Int × Int × Int × List (Int × Int × Int × List UInt8)) × Int × Int × Int × (Int × Int × Int × List UInt8) × (Int × Int × Int × Int × Int × List (Int)) × Int × Int × Int × List (Int × Int × Int × List UInt8) → Option (Bool) := evF [fn_laws_eqItem, fn_laws_eqToken, fn_laws_eqBundle] F_laws_eqLetter [.agg (.pair (.int .i64) (.pair (.int .i64) (.pair (.int .i64) (.pair (.pair (.int .i64) (.pair (.int .i64) (.pair (.int .i64) .str))) (.pair (.pair (.int .i64) (.pair (.int .i64) (.pair (.int .i64) (.pair (.int .i64) (.pair (.int .i64) (.sl false (.int .i64))))))) (.pair (.int .i64) (.pair (.int .i64) (.pair (.int .i64) (.sl false (.pair (.int .i64) (.pair (.int .i64) (.pair (.int .i64) .str)))))))))))), .agg (.pair (.int .i64) (.pair (.int .i64) (.pair (.int .i64) (.pair (.pair (.int .i64) (.pair (.int .i64) (.pair (.int .i64) .str))) (.pair (.pair (.int .i64) (.pair (.int .i64) (.pair (.int .i64) (.pair (.int .i64) (.pair (.int .i64) (.sl false (.int .i64))))))) (.pair (.int .i64) (.pair (.int .i64) (.pair (.int .i64) (.sl false (.pair (.int .i64) (.pair (.int .i64) (.pair (.int .i64) .str))))))))))))] [] [.cell .bool] []
noncomputable def fn_laws_eqLetter : TFn := ⟨89, [.agg (.pair (.int .i64) (.pair (.int .i64) (.pair (.int .i64) (.pair (.pair (.int .i64) (.pair (.int .i64) (.pair (.int .i64) .str))) (.pair (.pair (.int .i64) (.pair (.int .i64) (.pair (.int .i64) (.pair (.int .i64) (.pair (.int .i64) (.sl false (.int .i64))))))) (.pair (.int .i64) (.pair (.int .i64) (.pair (.int .i64) (.sl false (.pair (.int .i64) (.pair (.int .i64) (.pair (.int .i64) .str)))))))))))), .agg (.pair (.int .i64) (.pair (.int .i64) (.pair (.int .i64) (.pair (.pair (.int .i64) (.pair (.int .i64) (.pair (.int .i64) .str))) (.pair (.pair (.int .i64) (.pair (.int .i64) (.pair (.int .i64) (.pair (.int .i64) (.pair (.int .i64) (.sl false (.int .i64))))))) (.pair (.int .i64) (.pair (.int .i64) (.pair (.int .i64) (.sl false (.pair (.int .i64) (.pair (.int .i64) (.pair (.int .i64) .str))))))))))))], [], [.cell .bool], [], T_laws_eqLetter⟩
theorem ok_laws_eqLetter : FnOk Tryz.prog fn_laws_eqLetter := evF_ok mixed (allOk_cons ok_laws_eqItem (allOk_cons ok_laws_eqToken (allOk_cons ok_laws_eqBundle allOk_nil))) m_laws_eqLetter (by decide)
def B_laws_eqLetterS_1 : TC := (.seq (.seq (.reg none [.p (.mv 11 (.t 5)) .unit,
  .p (.mv 12 (.t 0)) .unit,
  .p (.lenB 13 (.t 12)) .unit,
  .p (.bin 14 false .lss (.t 11) (.t 13)) .unit])
 (.cond (.t 14) .skip (.exit 0)))
 (.seq (.block 1 (.seq (.reg (some [[], [], [0, 1], [2], [], [], [4, 5], [6], [3, 7], [8]]) [.p (.mv 17 (.t 0)) .unit,
  .p (.mv 18 (.t 5)) .unit,
  .p (.iadr 19 17 (.t 17) (.t 18)) .unit,
  .p (.load 20 (.t 19) 17 true) .unit,
  .p (.mv 21 (.t 1)) .unit,
  .p (.mv 22 (.t 5)) .unit,
  .p (.iadr 23 17 (.t 21) (.t 22)) .unit,
  .p (.load 24 (.t 23) 17 true) .unit,
  .p (.callB 25 n_laws_eqLetter [((.t 20), 0), ((.t 24), 0)]) .unit,
  .p (.un 26 .not (.t 25)) .unit])
 (.cond (.t 26) (.seq (.reg none [.p (.mv 4 (.c (.bool false))) .unit])
 .ret) .skip)))
 (.reg none [.p (.mv 15 (.t 5)) .unit,
  .p (.bin 16 false .add (.t 15) (.c (.int .i64 1))) .unit,
  .p (.mv 5 (.t 16)) .unit])))
noncomputable def L_laws_eqLetterS_1 : Nat → (List (Int × Int × Int × (Int × Int × Int × List UInt8) × (Int × Int × Int × Int × Int × List (Int)) × Int × Int × Int × List (Int × Int × Int × List UInt8))) × (List (Int × Int × Int × (Int × Int × Int × List UInt8) × (Int × Int × Int × Int × Int × List (Int)) × Int × Int × Int × List (Int × Int × Int × List UInt8))) × Int → Option ((Unit) ⊕ (Bool)) := evL [fn_laws_eqLetter] (finT [.t 4] [] [.cell .bool]) 0 ⟨[(0, true), (1, true), (5, false)], [.cell (.sl false (.pair (.int .i64) (.pair (.int .i64) (.pair (.int .i64) (.pair (.pair (.int .i64) (.pair (.int .i64) (.pair (.int .i64) .str))) (.pair (.pair (.int .i64) (.pair (.int .i64) (.pair (.int .i64) (.pair (.int .i64) (.pair (.int .i64) (.sl false (.int .i64))))))) (.pair (.int .i64) (.pair (.int .i64) (.pair (.int .i64) (.sl false (.pair (.int .i64) (.pair (.int .i64) (.pair (.int .i64) .str))))))))))))), .cell (.sl false (.pair (.int .i64) (.pair (.int .i64) (.pair (.int .i64) (.pair (.pair (.int .i64) (.pair (.int .i64) (.pair (.int .i64) .str))) (.pair (.pair (.int .i64) (.pair (.int .i64) (.pair (.int .i64) (.pair (.int .i64) (.pair (.int .i64) (.sl false (.int .i64))))))) (.pair (.int .i64) (.pair (.int .i64) (.pair (.int .i64) (.sl false (.pair (.int .i64) (.pair (.int .i64) (.pair (.int .i64) .str))))))))))))), .cell (.int .i64)]⟩ ⟨[], []⟩ B_laws_eqLetterS_1
def F_laws_eqLetterS : TF := ⟨(.seq (.reg none [.p (.mv 4 (.c (.bool false))) .unit])
 (.seq (.seq (.reg none [.p (.mv 6 (.t 0)) .unit,
  .p (.lenB 7 (.t 6)) .unit,
  .p (.mv 8 (.t 1)) .unit,
  .p (.lenB 9 (.t 8)) .unit,
  .p (.bin 10 false .neq (.t 7) (.t 9)) .unit])
 (.cond (.t 10) (.seq (.reg none [.p (.mv 4 (.c (.bool false))) .unit])
 .ret) .skip))
 (.seq (.seq (.reg none [.p (.mv 5 (.c (.int .i64 0))) .unit])
 (.jl 0 ⟨[(0, true), (1, true), (5, false)], [.cell (.sl false (.pair (.int .i64) (.pair (.int .i64) (.pair (.int .i64) (.pair (.pair (.int .i64) (.pair (.int .i64) (.pair (.int .i64) .str))) (.pair (.pair (.int .i64) (.pair (.int .i64) (.pair (.int .i64) (.pair (.int .i64) (.pair (.int .i64) (.sl false (.int .i64))))))) (.pair (.int .i64) (.pair (.int .i64) (.pair (.int .i64) (.sl false (.pair (.int .i64) (.pair (.int .i64) (.pair (.int .i64) .str))))))))))))), .cell (.sl false (.pair (.int .i64) (.pair (.int .i64) (.pair (.int .i64) (.pair (.pair (.int .i64) (.pair (.int .i64) (.pair (.int .i64) .str))) (.pair (.pair (.int .i64) (.pair (.int .i64) (.pair (.int .i64) (.pair (.int .i64) (.pair (.int .i64) (.sl false (.int .i64))))))) (.pair (.int .i64) (.pair (.int .i64) (.pair (.int .i64) (.sl false (.pair (.int .i64) (.pair (.int .i64) (.pair (.int .i64) .str))))))))))))), .cell (.int .i64)]⟩ ⟨[], []⟩ B_laws_eqLetterS_1))
 (.seq (.reg none [.p (.mv 4 (.c (.bool true))) .unit])
 .ret)))),
 27, 2, [.t 4]⟩
theorem m_laws_eqLetterS : mH Tryz.prog 60 [] = some (F_laws_eqLetterS.code.x, F_laws_eqLetterS.N, F_laws_eqLetterS.np, F_laws_eqLetterS.res) := by kernel_rfl
noncomputable def T_laws_eqLetterS : (List (Int × Int × Int × (Int × Int × Int × List UInt8) × (Int × Int × Int × Int × Int × List (Int)) × Int × Int × Int × List (Int × Int × Int × List UInt8))) × List (Int × Int × Int × (Int × Int × Int × List UInt8) × (Int × Int × Int × Int × Int × List (Int)) × Int × Int × Int × List (Int × Int × Int × List UInt8)) → Option (Bool) := evF [fn_laws_eqLetter] F_laws_eqLetterS [.cell (.sl false (.pair (.int .i64) (.pair (.int .i64) (.pair (.int .i64) (.pair (.pair (.int .i64) (.pair (.int .i64) (.pair (.int .i64) .str))) (.pair (.pair (.int .i64) (.pair (.int .i64) (.pair (.int .i64) (.pair (.int .i64) (.pair (.int .i64) (.sl false (.int .i64))))))) (.pair (.int .i64) (.pair (.int .i64) (.pair (.int .i64) (.sl false (.pair (.int .i64) (.pair (.int .i64) (.pair (.int .i64) .str))))))))))))), .cell (.sl false (.pair (.int .i64) (.pair (.int .i64) (.pair (.int .i64) (.pair (.pair (.int .i64) (.pair (.int .i64) (.pair (.int .i64) .str))) (.pair (.pair (.int .i64) (.pair (.int .i64) (.pair (.int .i64) (.pair (.int .i64) (.pair (.int .i64) (.sl false (.int .i64))))))) (.pair (.int .i64) (.pair (.int .i64) (.pair (.int .i64) (.sl false (.pair (.int .i64) (.pair (.int .i64) (.pair (.int .i64) .str)))))))))))))] [] [.cell .bool] []
noncomputable def fn_laws_eqLetterS : TFn := ⟨60, [.cell (.sl false (.pair (.int .i64) (.pair (.int .i64) (.pair (.int .i64) (.pair (.pair (.int .i64) (.pair (.int .i64) (.pair (.int .i64) .str))) (.pair (.pair (.int .i64) (.pair (.int .i64) (.pair (.int .i64) (.pair (.int .i64) (.pair (.int .i64) (.sl false (.int .i64))))))) (.pair (.int .i64) (.pair (.int .i64) (.pair (.int .i64) (.sl false (.pair (.int .i64) (.pair (.int .i64) (.pair (.int .i64) .str))))))))))))), .cell (.sl false (.pair (.int .i64) (.pair (.int .i64) (.pair (.int .i64) (.pair (.pair (.int .i64) (.pair (.int .i64) (.pair (.int .i64) .str))) (.pair (.pair (.int .i64) (.pair (.int .i64) (.pair (.int .i64) (.pair (.int .i64) (.pair (.int .i64) (.sl false (.int .i64))))))) (.pair (.int .i64) (.pair (.int .i64) (.pair (.int .i64) (.sl false (.pair (.int .i64) (.pair (.int .i64) (.pair (.int .i64) .str)))))))))))))], [], [.cell .bool], [], T_laws_eqLetterS⟩
theorem ok_laws_eqLetterS : FnOk Tryz.prog fn_laws_eqLetterS := evF_ok mixed (allOk_cons ok_laws_eqLetter allOk_nil) m_laws_eqLetterS (by decide)
def F_laws_eqWorld : TF := ⟨(.seq (.reg none [.p (.box 2 (.t 0)) .unit,
  .p (.box 3 (.t 1)) .unit,
  .p (.mv 4 (.c (.bool false))) .unit])
 (.seq (.seq (.reg none [.p (.fadr 5 (.t 2) 0) .unit,
  .p (.load 6 (.t 5) 1 false) .unit,
  .p (.fadr 7 (.t 3) 0) .unit,
  .p (.load 8 (.t 7) 1 false) .unit,
  .p (.callB 9 n_laws_eqRingS [((.t 6), 0), ((.t 8), 0)]) .unit,
  .p (.un 10 .not (.t 9)) .unit])
 (.cond (.t 10) (.seq (.reg none [.p (.mv 4 (.c (.bool false))) .unit])
 .ret) .skip))
 (.seq (.seq (.reg none [.p (.fadr 11 (.t 2) 1) .unit,
  .p (.load 12 (.t 11) 1 false) .unit,
  .p (.fadr 13 (.t 3) 1) .unit,
  .p (.load 14 (.t 13) 1 false) .unit,
  .p (.callB 15 n_laws_eqDaemonS [((.t 12), 0), ((.t 14), 0)]) .unit,
  .p (.un 16 .not (.t 15)) .unit])
 (.cond (.t 16) (.seq (.reg none [.p (.mv 4 (.c (.bool false))) .unit])
 .ret) .skip))
 (.seq (.seq (.reg none [.p (.fadr 17 (.t 2) 2) .unit,
  .p (.load 18 (.t 17) 1 false) .unit,
  .p (.fadr 19 (.t 3) 2) .unit,
  .p (.load 20 (.t 19) 1 false) .unit,
  .p (.callB 21 n_laws_eqLetterS [((.t 18), 0), ((.t 20), 0)]) .unit,
  .p (.un 22 .not (.t 21)) .unit])
 (.cond (.t 22) (.seq (.reg none [.p (.mv 4 (.c (.bool false))) .unit])
 .ret) .skip))
 (.seq (.seq (.reg none [.p (.fadr 23 (.t 2) 3) .unit,
  .p (.load 24 (.t 23) 1 false) .unit,
  .p (.fadr 25 (.t 3) 3) .unit,
  .p (.load 26 (.t 25) 1 false) .unit,
  .p (.callB 27 n_laws_eqEventS [((.t 24), 0), ((.t 26), 0)]) .unit,
  .p (.un 28 .not (.t 27)) .unit])
 (.cond (.t 28) (.seq (.reg none [.p (.mv 4 (.c (.bool false))) .unit])
 .ret) .skip))
 (.seq (.reg none [.p (.mv 4 (.c (.bool true))) .unit])
 .ret)))))),
 29, 2, [.t 4]⟩
theorem m_laws_eqWorld : mH Tryz.prog 31 [] = some (F_laws_eqWorld.code.x, F_laws_eqWorld.N, F_laws_eqWorld.np, F_laws_eqWorld.res) := by kernel_rfl
noncomputable def T_laws_eqWorld : (List (Int × List (Int)) × List (Int × Bool × (Int × (Int × List (Int)) × List (Int × Int × Int × List UInt8) × List (Int) × List (List UInt8) × Int × Int × Int × Int × Int × Int × Int × Int × Int × List (Int)) × Int × Int × (Int × List (Int)) × List (Int × Int × Int × List (Int × Int × Int × List UInt8)) × List (Int × (Int × List (Int)) × (Int × Int × Int × List UInt8) × List (Int))) × List (Int × Int × Int × (Int × Int × Int × List UInt8) × (Int × Int × Int × Int × Int × List (Int)) × Int × Int × Int × List (Int × Int × Int × List UInt8)) × List (Int × (Int × List (Int)) × (Int × Int × Int × List UInt8) × List (Int))) × List (Int × List (Int)) × List (Int × Bool × (Int × (Int × List (Int)) × List (Int × Int × Int × List UInt8) × List (Int) × List (List UInt8) × Int × Int × Int × Int × Int × Int × Int × Int × Int × List (Int)) × Int × Int × (Int × List (Int)) × List (Int × Int × Int × List (Int × Int × Int × List UInt8)) × List (Int × (Int × List (Int)) × (Int × Int × Int × List UInt8) × List (Int))) × List (Int × Int × Int × (Int × Int × Int × List UInt8) × (Int × Int × Int × Int × Int × List (Int)) × Int × Int × Int × List (Int × Int × Int × List UInt8)) × List (Int × (Int × List (Int)) × (Int × Int × Int × List UInt8) × List (Int)) → Option (Bool) := evF [fn_laws_eqRingS, fn_laws_eqDaemonS, fn_laws_eqLetterS, fn_laws_eqEventS] F_laws_eqWorld [.agg (.pair (.sl false (.pair (.int .i64) (.sl false (.int .i64)))) (.pair (.sl false (.pair (.int .i64) (.pair .bool (.pair (.pair (.int .i64) (.pair (.pair (.int .i64) (.sl false (.int .i64))) (.pair (.sl false (.pair (.int .i64) (.pair (.int .i64) (.pair (.int .i64) .str)))) (.pair (.sl false (.int .i64)) (.pair (.sl false .str) (.pair (.int .i64) (.pair (.int .i64) (.pair (.int .i64) (.pair (.int .i64) (.pair (.int .i64) (.pair (.int .i64) (.pair (.int .i64) (.pair (.int .i64) (.pair (.int .i64) (.sl false (.int .i64)))))))))))))))) (.pair (.int .i64) (.pair (.int .i64) (.pair (.pair (.int .i64) (.sl false (.int .i64))) (.pair (.sl false (.pair (.int .i64) (.pair (.int .i64) (.pair (.int .i64) (.sl false (.pair (.int .i64) (.pair (.int .i64) (.pair (.int .i64) .str)))))))) (.sl false (.pair (.int .i64) (.pair (.pair (.int .i64) (.sl false (.int .i64))) (.pair (.pair (.int .i64) (.pair (.int .i64) (.pair (.int .i64) .str))) (.sl false (.int .i64)))))))))))))) (.pair (.sl false (.pair (.int .i64) (.pair (.int .i64) (.pair (.int .i64) (.pair (.pair (.int .i64) (.pair (.int .i64) (.pair (.int .i64) .str))) (.pair (.pair (.int .i64) (.pair (.int .i64) (.pair (.int .i64) (.pair (.int .i64) (.pair (.int .i64) (.sl false (.int .i64))))))) (.pair (.int .i64) (.pair (.int .i64) (.pair (.int .i64) (.sl false (.pair (.int .i64) (.pair (.int .i64) (.pair (.int .i64) .str))))))))))))) (.sl false (.pair (.int .i64) (.pair (.pair (.int .i64) (.sl false (.int .i64))) (.pair (.pair (.int .i64) (.pair (.int .i64) (.pair (.int .i64) .str))) (.sl false (.int .i64))))))))), .agg (.pair (.sl false (.pair (.int .i64) (.sl false (.int .i64)))) (.pair (.sl false (.pair (.int .i64) (.pair .bool (.pair (.pair (.int .i64) (.pair (.pair (.int .i64) (.sl false (.int .i64))) (.pair (.sl false (.pair (.int .i64) (.pair (.int .i64) (.pair (.int .i64) .str)))) (.pair (.sl false (.int .i64)) (.pair (.sl false .str) (.pair (.int .i64) (.pair (.int .i64) (.pair (.int .i64) (.pair (.int .i64) (.pair (.int .i64) (.pair (.int .i64) (.pair (.int .i64) (.pair (.int .i64) (.pair (.int .i64) (.sl false (.int .i64)))))))))))))))) (.pair (.int .i64) (.pair (.int .i64) (.pair (.pair (.int .i64) (.sl false (.int .i64))) (.pair (.sl false (.pair (.int .i64) (.pair (.int .i64) (.pair (.int .i64) (.sl false (.pair (.int .i64) (.pair (.int .i64) (.pair (.int .i64) .str)))))))) (.sl false (.pair (.int .i64) (.pair (.pair (.int .i64) (.sl false (.int .i64))) (.pair (.pair (.int .i64) (.pair (.int .i64) (.pair (.int .i64) .str))) (.sl false (.int .i64)))))))))))))) (.pair (.sl false (.pair (.int .i64) (.pair (.int .i64) (.pair (.int .i64) (.pair (.pair (.int .i64) (.pair (.int .i64) (.pair (.int .i64) .str))) (.pair (.pair (.int .i64) (.pair (.int .i64) (.pair (.int .i64) (.pair (.int .i64) (.pair (.int .i64) (.sl false (.int .i64))))))) (.pair (.int .i64) (.pair (.int .i64) (.pair (.int .i64) (.sl false (.pair (.int .i64) (.pair (.int .i64) (.pair (.int .i64) .str))))))))))))) (.sl false (.pair (.int .i64) (.pair (.pair (.int .i64) (.sl false (.int .i64))) (.pair (.pair (.int .i64) (.pair (.int .i64) (.pair (.int .i64) .str))) (.sl false (.int .i64)))))))))] [] [.cell .bool] []
noncomputable def fn_laws_eqWorld : TFn := ⟨31, [.agg (.pair (.sl false (.pair (.int .i64) (.sl false (.int .i64)))) (.pair (.sl false (.pair (.int .i64) (.pair .bool (.pair (.pair (.int .i64) (.pair (.pair (.int .i64) (.sl false (.int .i64))) (.pair (.sl false (.pair (.int .i64) (.pair (.int .i64) (.pair (.int .i64) .str)))) (.pair (.sl false (.int .i64)) (.pair (.sl false .str) (.pair (.int .i64) (.pair (.int .i64) (.pair (.int .i64) (.pair (.int .i64) (.pair (.int .i64) (.pair (.int .i64) (.pair (.int .i64) (.pair (.int .i64) (.pair (.int .i64) (.sl false (.int .i64)))))))))))))))) (.pair (.int .i64) (.pair (.int .i64) (.pair (.pair (.int .i64) (.sl false (.int .i64))) (.pair (.sl false (.pair (.int .i64) (.pair (.int .i64) (.pair (.int .i64) (.sl false (.pair (.int .i64) (.pair (.int .i64) (.pair (.int .i64) .str)))))))) (.sl false (.pair (.int .i64) (.pair (.pair (.int .i64) (.sl false (.int .i64))) (.pair (.pair (.int .i64) (.pair (.int .i64) (.pair (.int .i64) .str))) (.sl false (.int .i64)))))))))))))) (.pair (.sl false (.pair (.int .i64) (.pair (.int .i64) (.pair (.int .i64) (.pair (.pair (.int .i64) (.pair (.int .i64) (.pair (.int .i64) .str))) (.pair (.pair (.int .i64) (.pair (.int .i64) (.pair (.int .i64) (.pair (.int .i64) (.pair (.int .i64) (.sl false (.int .i64))))))) (.pair (.int .i64) (.pair (.int .i64) (.pair (.int .i64) (.sl false (.pair (.int .i64) (.pair (.int .i64) (.pair (.int .i64) .str))))))))))))) (.sl false (.pair (.int .i64) (.pair (.pair (.int .i64) (.sl false (.int .i64))) (.pair (.pair (.int .i64) (.pair (.int .i64) (.pair (.int .i64) .str))) (.sl false (.int .i64))))))))), .agg (.pair (.sl false (.pair (.int .i64) (.sl false (.int .i64)))) (.pair (.sl false (.pair (.int .i64) (.pair .bool (.pair (.pair (.int .i64) (.pair (.pair (.int .i64) (.sl false (.int .i64))) (.pair (.sl false (.pair (.int .i64) (.pair (.int .i64) (.pair (.int .i64) .str)))) (.pair (.sl false (.int .i64)) (.pair (.sl false .str) (.pair (.int .i64) (.pair (.int .i64) (.pair (.int .i64) (.pair (.int .i64) (.pair (.int .i64) (.pair (.int .i64) (.pair (.int .i64) (.pair (.int .i64) (.pair (.int .i64) (.sl false (.int .i64)))))))))))))))) (.pair (.int .i64) (.pair (.int .i64) (.pair (.pair (.int .i64) (.sl false (.int .i64))) (.pair (.sl false (.pair (.int .i64) (.pair (.int .i64) (.pair (.int .i64) (.sl false (.pair (.int .i64) (.pair (.int .i64) (.pair (.int .i64) .str)))))))) (.sl false (.pair (.int .i64) (.pair (.pair (.int .i64) (.sl false (.int .i64))) (.pair (.pair (.int .i64) (.pair (.int .i64) (.pair (.int .i64) .str))) (.sl false (.int .i64)))))))))))))) (.pair (.sl false (.pair (.int .i64) (.pair (.int .i64) (.pair (.int .i64) (.pair (.pair (.int .i64) (.pair (.int .i64) (.pair (.int .i64) .str))) (.pair (.pair (.int .i64) (.pair (.int .i64) (.pair (.int .i64) (.pair (.int .i64) (.pair (.int .i64) (.sl false (.int .i64))))))) (.pair (.int .i64) (.pair (.int .i64) (.pair (.int .i64) (.sl false (.pair (.int .i64) (.pair (.int .i64) (.pair (.int .i64) .str))))))))))))) (.sl false (.pair (.int .i64) (.pair (.pair (.int .i64) (.sl false (.int .i64))) (.pair (.pair (.int .i64) (.pair (.int .i64) (.pair (.int .i64) .str))) (.sl false (.int .i64)))))))))], [], [.cell .bool], [], T_laws_eqWorld⟩
theorem ok_laws_eqWorld : FnOk Tryz.prog fn_laws_eqWorld := evF_ok mixed (allOk_cons ok_laws_eqRingS (allOk_cons ok_laws_eqDaemonS (allOk_cons ok_laws_eqLetterS (allOk_cons ok_laws_eqEventS allOk_nil)))) m_laws_eqWorld (by decide)
def F_laws_eqReader : TF := ⟨(.seq (.reg none [.p (.box 2 (.t 0)) .unit,
  .p (.box 3 (.t 1)) .unit,
  .p (.mv 4 (.c (.bool false))) .unit])
 (.seq (.seq (.reg none [.p (.fadr 5 (.t 2) 0) .unit,
  .p (.load 6 (.t 5) 1 false) .unit,
  .p (.fadr 7 (.t 3) 0) .unit,
  .p (.load 8 (.t 7) 1 false) .unit,
  .p (.bin 9 false .neq (.t 6) (.t 8)) .unit])
 (.cond (.t 9) (.seq (.reg none [.p (.mv 4 (.c (.bool false))) .unit])
 .ret) .skip))
 (.seq (.seq (.reg none [.p (.fadr 10 (.t 2) 1) .unit,
  .p (.load 11 (.t 10) 1 false) .unit,
  .p (.fadr 12 (.t 3) 1) .unit,
  .p (.load 13 (.t 12) 1 false) .unit,
  .p (.bin 14 true .neq (.t 11) (.t 13)) .unit])
 (.cond (.t 14) (.seq (.reg none [.p (.mv 4 (.c (.bool false))) .unit])
 .ret) .skip))
 (.seq (.reg none [.p (.mv 4 (.c (.bool true))) .unit])
 .ret)))),
 15, 2, [.t 4]⟩
theorem m_laws_eqReader : mH Tryz.prog 117 [] = some (F_laws_eqReader.code.x, F_laws_eqReader.N, F_laws_eqReader.np, F_laws_eqReader.res) := by kernel_rfl
noncomputable def T_laws_eqReader : (List UInt8 × Bool) × List UInt8 × Bool → Option (Bool) := evF [] F_laws_eqReader [.agg (.pair .str .bool), .agg (.pair .str .bool)] [] [.cell .bool] []
noncomputable def fn_laws_eqReader : TFn := ⟨117, [.agg (.pair .str .bool), .agg (.pair .str .bool)], [], [.cell .bool], [], T_laws_eqReader⟩
theorem ok_laws_eqReader : FnOk Tryz.prog fn_laws_eqReader := evF_ok mixed allOk_nil m_laws_eqReader (by decide)
def F_laws_eqSession : TF := ⟨(.seq (.reg none [.p (.box 2 (.t 0)) .unit,
  .p (.box 3 (.t 1)) .unit,
  .p (.mv 4 (.c (.bool false))) .unit])
 (.seq (.seq (.reg none [.p (.fadr 5 (.t 2) 0) .unit,
  .p (.load 6 (.t 5) 1 false) .unit,
  .p (.fadr 7 (.t 3) 0) .unit,
  .p (.load 8 (.t 7) 1 false) .unit,
  .p (.bin 9 false .neq (.t 6) (.t 8)) .unit])
 (.cond (.t 9) (.seq (.reg none [.p (.mv 4 (.c (.bool false))) .unit])
 .ret) .skip))
 (.seq (.seq (.reg none [.p (.fadr 10 (.t 2) 1) .unit,
  .p (.load 11 (.t 10) 1 false) .unit,
  .p (.fadr 12 (.t 3) 1) .unit,
  .p (.load 13 (.t 12) 1 false) .unit,
  .p (.bin 14 false .neq (.t 11) (.t 13)) .unit])
 (.cond (.t 14) (.seq (.reg none [.p (.mv 4 (.c (.bool false))) .unit])
 .ret) .skip))
 (.seq (.seq (.reg none [.p (.fadr 15 (.t 2) 2) .unit,
  .p (.load 16 (.t 15) 2 true) .unit,
  .p (.fadr 17 (.t 3) 2) .unit,
  .p (.load 18 (.t 17) 2 true) .unit,
  .p (.callB 19 n_laws_eqReader [((.t 16), 0), ((.t 18), 0)]) .unit,
  .p (.un 20 .not (.t 19)) .unit])
 (.cond (.t 20) (.seq (.reg none [.p (.mv 4 (.c (.bool false))) .unit])
 .ret) .skip))
 (.seq (.seq (.reg none [.p (.fadr 21 (.t 2) 4) .unit,
  .p (.load 22 (.t 21) 1 false) .unit,
  .p (.fadr 23 (.t 3) 4) .unit,
  .p (.load 24 (.t 23) 1 false) .unit,
  .p (.bin 25 true .neq (.t 22) (.t 24)) .unit])
 (.cond (.t 25) (.seq (.reg none [.p (.mv 4 (.c (.bool false))) .unit])
 .ret) .skip))
 (.seq (.seq (.reg none [.p (.fadr 26 (.t 2) 5) .unit,
  .p (.load 27 (.t 26) 1 false) .unit,
  .p (.fadr 28 (.t 3) 5) .unit,
  .p (.load 29 (.t 28) 1 false) .unit,
  .p (.callB 30 n_laws_eqStringS [((.t 27), 0), ((.t 29), 0)]) .unit,
  .p (.un 31 .not (.t 30)) .unit])
 (.cond (.t 31) (.seq (.reg none [.p (.mv 4 (.c (.bool false))) .unit])
 .ret) .skip))
 (.seq (.reg none [.p (.mv 4 (.c (.bool true))) .unit])
 .ret))))))),
 32, 2, [.t 4]⟩
theorem m_laws_eqSession : mH Tryz.prog 91 [] = some (F_laws_eqSession.code.x, F_laws_eqSession.N, F_laws_eqSession.np, F_laws_eqSession.res) := by kernel_rfl
noncomputable def T_laws_eqSession : (Int × List UInt8 × (List UInt8 × Bool) × Bool × List (List UInt8)) × Int × List UInt8 × (List UInt8 × Bool) × Bool × List (List UInt8) → Option (Bool) := evF [fn_laws_eqReader, fn_laws_eqStringS] F_laws_eqSession [.agg (.pair (.int .i64) (.pair .str (.pair (.pair .str .bool) (.pair .bool (.sl false .str))))), .agg (.pair (.int .i64) (.pair .str (.pair (.pair .str .bool) (.pair .bool (.sl false .str)))))] [] [.cell .bool] []
noncomputable def fn_laws_eqSession : TFn := ⟨91, [.agg (.pair (.int .i64) (.pair .str (.pair (.pair .str .bool) (.pair .bool (.sl false .str))))), .agg (.pair (.int .i64) (.pair .str (.pair (.pair .str .bool) (.pair .bool (.sl false .str)))))], [], [.cell .bool], [], T_laws_eqSession⟩
theorem ok_laws_eqSession : FnOk Tryz.prog fn_laws_eqSession := evF_ok mixed (allOk_cons ok_laws_eqReader (allOk_cons ok_laws_eqStringS allOk_nil)) m_laws_eqSession (by decide)
def F_laws_eqBox : TF := ⟨(.seq (.reg none [.p (.box 2 (.t 0)) .unit,
  .p (.box 3 (.t 1)) .unit,
  .p (.mv 4 (.c (.bool false))) .unit])
 (.seq (.seq (.reg none [.p (.fadr 5 (.t 2) 0) .unit,
  .p (.load 6 (.t 5) 1 false) .unit,
  .p (.fadr 7 (.t 3) 0) .unit,
  .p (.load 8 (.t 7) 1 false) .unit,
  .p (.bin 9 false .neq (.t 6) (.t 8)) .unit])
 (.cond (.t 9) (.seq (.reg none [.p (.mv 4 (.c (.bool false))) .unit])
 .ret) .skip))
 (.seq (.seq (.reg none [.p (.fadr 10 (.t 2) 1) .unit,
  .p (.load 11 (.t 10) 1 false) .unit,
  .p (.fadr 12 (.t 3) 1) .unit,
  .p (.load 13 (.t 12) 1 false) .unit,
  .p (.callB 14 n_laws_eqStringS [((.t 11), 0), ((.t 13), 0)]) .unit,
  .p (.un 15 .not (.t 14)) .unit])
 (.cond (.t 15) (.seq (.reg none [.p (.mv 4 (.c (.bool false))) .unit])
 .ret) .skip))
 (.seq (.seq (.reg none [.p (.fadr 16 (.t 2) 2) .unit,
  .p (.load 17 (.t 16) 1 false) .unit,
  .p (.fadr 18 (.t 3) 2) .unit,
  .p (.load 19 (.t 18) 1 false) .unit,
  .p (.bin 20 true .neq (.t 17) (.t 19)) .unit])
 (.cond (.t 20) (.seq (.reg none [.p (.mv 4 (.c (.bool false))) .unit])
 .ret) .skip))
 (.seq (.reg none [.p (.mv 4 (.c (.bool true))) .unit])
 .ret))))),
 21, 2, [.t 4]⟩
theorem m_laws_eqBox : mH Tryz.prog 92 [] = some (F_laws_eqBox.code.x, F_laws_eqBox.N, F_laws_eqBox.np, F_laws_eqBox.res) := by kernel_rfl
noncomputable def T_laws_eqBox : (List UInt8 × List (List UInt8) × Bool) × List UInt8 × List (List UInt8) × Bool → Option (Bool) := evF [fn_laws_eqStringS] F_laws_eqBox [.agg (.pair .str (.pair (.sl false .str) .bool)), .agg (.pair .str (.pair (.sl false .str) .bool))] [] [.cell .bool] []
noncomputable def fn_laws_eqBox : TFn := ⟨92, [.agg (.pair .str (.pair (.sl false .str) .bool)), .agg (.pair .str (.pair (.sl false .str) .bool))], [], [.cell .bool], [], T_laws_eqBox⟩
theorem ok_laws_eqBox : FnOk Tryz.prog fn_laws_eqBox := evF_ok mixed (allOk_cons ok_laws_eqStringS allOk_nil) m_laws_eqBox (by decide)
def F_laws_eqCaller : TF := ⟨(.seq (.reg none [.p (.box 2 (.t 0)) .unit,
  .p (.box 3 (.t 1)) .unit,
  .p (.mv 4 (.c (.bool false))) .unit])
 (.seq (.seq (.reg none [.p (.fadr 5 (.t 2) 0) .unit,
  .p (.load 6 (.t 5) 6 true) .unit,
  .p (.fadr 7 (.t 3) 0) .unit,
  .p (.load 8 (.t 7) 6 true) .unit,
  .p (.callB 9 n_laws_eqSession [((.t 6), 0), ((.t 8), 0)]) .unit,
  .p (.un 10 .not (.t 9)) .unit])
 (.cond (.t 10) (.seq (.reg none [.p (.mv 4 (.c (.bool false))) .unit])
 .ret) .skip))
 (.seq (.seq (.reg none [.p (.fadr 11 (.t 2) 6) .unit,
  .p (.load 12 (.t 11) 3 true) .unit,
  .p (.fadr 13 (.t 3) 6) .unit,
  .p (.load 14 (.t 13) 3 true) .unit,
  .p (.callB 15 n_laws_eqBox [((.t 12), 0), ((.t 14), 0)]) .unit,
  .p (.un 16 .not (.t 15)) .unit])
 (.cond (.t 16) (.seq (.reg none [.p (.mv 4 (.c (.bool false))) .unit])
 .ret) .skip))
 (.seq (.seq (.reg none [.p (.fadr 17 (.t 2) 9) .unit,
  .p (.load 18 (.t 17) 1 false) .unit,
  .p (.fadr 19 (.t 3) 9) .unit,
  .p (.load 20 (.t 19) 1 false) .unit,
  .p (.bin 21 false .neq (.t 18) (.t 20)) .unit])
 (.cond (.t 21) (.seq (.reg none [.p (.mv 4 (.c (.bool false))) .unit])
 .ret) .skip))
 (.seq (.seq (.reg none [.p (.fadr 22 (.t 2) 10) .unit,
  .p (.load 23 (.t 22) 1 false) .unit,
  .p (.fadr 24 (.t 3) 10) .unit,
  .p (.load 25 (.t 24) 1 false) .unit,
  .p (.callB 26 n_laws_eqStringS [((.t 23), 0), ((.t 25), 0)]) .unit,
  .p (.un 27 .not (.t 26)) .unit])
 (.cond (.t 27) (.seq (.reg none [.p (.mv 4 (.c (.bool false))) .unit])
 .ret) .skip))
 (.seq (.reg none [.p (.mv 4 (.c (.bool true))) .unit])
 .ret)))))),
 28, 2, [.t 4]⟩
theorem m_laws_eqCaller : mH Tryz.prog 62 [] = some (F_laws_eqCaller.code.x, F_laws_eqCaller.N, F_laws_eqCaller.np, F_laws_eqCaller.res) := by kernel_rfl
noncomputable def T_laws_eqCaller : ((Int × List UInt8 × (List UInt8 × Bool) × Bool × List (List UInt8)) × (List UInt8 × List (List UInt8) × Bool) × List UInt8 × List (List UInt8)) × (Int × List UInt8 × (List UInt8 × Bool) × Bool × List (List UInt8)) × (List UInt8 × List (List UInt8) × Bool) × List UInt8 × List (List UInt8) → Option (Bool) := evF [fn_laws_eqSession, fn_laws_eqBox, fn_laws_eqStringS] F_laws_eqCaller [.agg (.pair (.pair (.int .i64) (.pair .str (.pair (.pair .str .bool) (.pair .bool (.sl false .str))))) (.pair (.pair .str (.pair (.sl false .str) .bool)) (.pair .str (.sl false .str)))), .agg (.pair (.pair (.int .i64) (.pair .str (.pair (.pair .str .bool) (.pair .bool (.sl false .str))))) (.pair (.pair .str (.pair (.sl false .str) .bool)) (.pair .str (.sl false .str))))] [] [.cell .bool] []
noncomputable def fn_laws_eqCaller : TFn := ⟨62, [.agg (.pair (.pair (.int .i64) (.pair .str (.pair (.pair .str .bool) (.pair .bool (.sl false .str))))) (.pair (.pair .str (.pair (.sl false .str) .bool)) (.pair .str (.sl false .str)))), .agg (.pair (.pair (.int .i64) (.pair .str (.pair (.pair .str .bool) (.pair .bool (.sl false .str))))) (.pair (.pair .str (.pair (.sl false .str) .bool)) (.pair .str (.sl false .str))))], [], [.cell .bool], [], T_laws_eqCaller⟩
theorem ok_laws_eqCaller : FnOk Tryz.prog fn_laws_eqCaller := evF_ok mixed (allOk_cons ok_laws_eqSession (allOk_cons ok_laws_eqBox (allOk_cons ok_laws_eqStringS allOk_nil))) m_laws_eqCaller (by decide)
end Xs
end Go.Proofs.YtkjpdhdmjjepfaaGreat
