/- The typed code of the functions, printed by program. -/
import Derived.Test.YtkjpdhdmjjepfaaGreatXOneHeardq2
namespace Go.Proofs.YtkjpdhdmjjepfaaGreat
open Go Vm
namespace Xs
def B_laws_eqCallerS_1 : TC := (.seq (.seq (.reg none [.p (.mv 11 (.t 5)) .unit,
  .p (.mv 12 (.t 0)) .unit,
  .p (.lenB 13 (.t 12)) .unit,
  .p (.bin 14 false .lss (.t 11) (.t 13)) .unit])
 (.cond (.t 14) .skip (.exit 0)))
 (.seq (.block 1 (.seq (.reg (some [[], [], [0, 1], [2], [], [], [4, 5], [6], [3, 7], [8]]) [.p (.mv 17 (.t 0)) .unit,
  .p (.mv 18 (.t 5)) .unit,
  .p (.iadr 19 11 (.t 17) (.t 18)) .unit,
  .p (.load 20 (.t 19) 11 true) .unit,
  .p (.mv 21 (.t 1)) .unit,
  .p (.mv 22 (.t 5)) .unit,
  .p (.iadr 23 11 (.t 21) (.t 22)) .unit,
  .p (.load 24 (.t 23) 11 true) .unit,
  .p (.callB 25 n_laws_eqCaller [((.t 20), 0), ((.t 24), 0)]) .unit,
  .p (.un 26 .not (.t 25)) .unit])
 (.cond (.t 26) (.seq (.reg none [.p (.mv 4 (.c (.bool false))) .unit])
 .ret) .skip)))
 (.reg none [.p (.mv 15 (.t 5)) .unit,
  .p (.bin 16 false .add (.t 15) (.c (.int .i64 1))) .unit,
  .p (.mv 5 (.t 16)) .unit])))
noncomputable def L_laws_eqCallerS_1 : Nat → (List ((Int × List UInt8 × (List UInt8 × Bool) × Bool × List (List UInt8)) × (List UInt8 × List (List UInt8) × Bool) × List UInt8 × List (List UInt8))) × (List ((Int × List UInt8 × (List UInt8 × Bool) × Bool × List (List UInt8)) × (List UInt8 × List (List UInt8) × Bool) × List UInt8 × List (List UInt8))) × Int → Option ((Unit) ⊕ (Bool)) := evL [fn_laws_eqCaller] (finT [.t 4] [] [.cell .bool]) 0 ⟨[(0, true), (1, true), (5, false)], [.cell (.sl false (.pair (.pair (.int .i64) (.pair .str (.pair (.pair .str .bool) (.pair .bool (.sl false .str))))) (.pair (.pair .str (.pair (.sl false .str) .bool)) (.pair .str (.sl false .str))))), .cell (.sl false (.pair (.pair (.int .i64) (.pair .str (.pair (.pair .str .bool) (.pair .bool (.sl false .str))))) (.pair (.pair .str (.pair (.sl false .str) .bool)) (.pair .str (.sl false .str))))), .cell (.int .i64)]⟩ ⟨[], []⟩ B_laws_eqCallerS_1
def F_laws_eqCallerS : TF := ⟨(.seq (.reg none [.p (.mv 4 (.c (.bool false))) .unit])
 (.seq (.seq (.reg none [.p (.mv 6 (.t 0)) .unit,
  .p (.lenB 7 (.t 6)) .unit,
  .p (.mv 8 (.t 1)) .unit,
  .p (.lenB 9 (.t 8)) .unit,
  .p (.bin 10 false .neq (.t 7) (.t 9)) .unit])
 (.cond (.t 10) (.seq (.reg none [.p (.mv 4 (.c (.bool false))) .unit])
 .ret) .skip))
 (.seq (.seq (.reg none [.p (.mv 5 (.c (.int .i64 0))) .unit])
 (.jl 0 ⟨[(0, true), (1, true), (5, false)], [.cell (.sl false (.pair (.pair (.int .i64) (.pair .str (.pair (.pair .str .bool) (.pair .bool (.sl false .str))))) (.pair (.pair .str (.pair (.sl false .str) .bool)) (.pair .str (.sl false .str))))), .cell (.sl false (.pair (.pair (.int .i64) (.pair .str (.pair (.pair .str .bool) (.pair .bool (.sl false .str))))) (.pair (.pair .str (.pair (.sl false .str) .bool)) (.pair .str (.sl false .str))))), .cell (.int .i64)]⟩ ⟨[], []⟩ B_laws_eqCallerS_1))
 (.seq (.reg none [.p (.mv 4 (.c (.bool true))) .unit])
 .ret)))),
 27, 2, [.t 4]⟩
theorem m_laws_eqCallerS : mH Tryz.prog 32 [] = some (F_laws_eqCallerS.code.x, F_laws_eqCallerS.N, F_laws_eqCallerS.np, F_laws_eqCallerS.res) := by kernel_rfl
noncomputable def T_laws_eqCallerS : (List ((Int × List UInt8 × (List UInt8 × Bool) × Bool × List (List UInt8)) × (List UInt8 × List (List UInt8) × Bool) × List UInt8 × List (List UInt8))) × List ((Int × List UInt8 × (List UInt8 × Bool) × Bool × List (List UInt8)) × (List UInt8 × List (List UInt8) × Bool) × List UInt8 × List (List UInt8)) → Option (Bool) := evF [fn_laws_eqCaller] F_laws_eqCallerS [.cell (.sl false (.pair (.pair (.int .i64) (.pair .str (.pair (.pair .str .bool) (.pair .bool (.sl false .str))))) (.pair (.pair .str (.pair (.sl false .str) .bool)) (.pair .str (.sl false .str))))), .cell (.sl false (.pair (.pair (.int .i64) (.pair .str (.pair (.pair .str .bool) (.pair .bool (.sl false .str))))) (.pair (.pair .str (.pair (.sl false .str) .bool)) (.pair .str (.sl false .str)))))] [] [.cell .bool] []
noncomputable def fn_laws_eqCallerS : TFn := ⟨32, [.cell (.sl false (.pair (.pair (.int .i64) (.pair .str (.pair (.pair .str .bool) (.pair .bool (.sl false .str))))) (.pair (.pair .str (.pair (.sl false .str) .bool)) (.pair .str (.sl false .str))))), .cell (.sl false (.pair (.pair (.int .i64) (.pair .str (.pair (.pair .str .bool) (.pair .bool (.sl false .str))))) (.pair (.pair .str (.pair (.sl false .str) .bool)) (.pair .str (.sl false .str)))))], [], [.cell .bool], [], T_laws_eqCallerS⟩
theorem ok_laws_eqCallerS : FnOk Tryz.prog fn_laws_eqCallerS := evF_ok mixed (allOk_cons ok_laws_eqCaller allOk_nil) m_laws_eqCallerS (by decide)
def F_laws_eqGroup : TF := ⟨(.seq (.reg none [.p (.box 2 (.t 0)) .unit,
  .p (.box 3 (.t 1)) .unit,
  .p (.mv 4 (.c (.bool false))) .unit])
 (.seq (.seq (.reg none [.p (.fadr 5 (.t 2) 0) .unit,
  .p (.load 6 (.t 5) 1 false) .unit,
  .p (.fadr 7 (.t 3) 0) .unit,
  .p (.load 8 (.t 7) 1 false) .unit,
  .p (.bin 9 false .neq (.t 6) (.t 8)) .unit])
 (.cond (.t 9) (.seq (.reg none [.p (.mv 4 (.c (.bool false))) .unit])
 .ret) .skip))
 (.seq (.seq (.reg none [.p (.fadr 10 (.t 2) 1) .unit,
  .p (.load 11 (.t 10) 1 false) .unit,
  .p (.fadr 12 (.t 3) 1) .unit,
  .p (.load 13 (.t 12) 1 false) .unit,
  .p (.callB 14 n_laws_eqStringS [((.t 11), 0), ((.t 13), 0)]) .unit,
  .p (.un 15 .not (.t 14)) .unit])
 (.cond (.t 15) (.seq (.reg none [.p (.mv 4 (.c (.bool false))) .unit])
 .ret) .skip))
 (.seq (.reg none [.p (.mv 4 (.c (.bool true))) .unit])
 .ret)))),
 16, 2, [.t 4]⟩
theorem m_laws_eqGroup : mH Tryz.prog 118 [] = some (F_laws_eqGroup.code.x, F_laws_eqGroup.N, F_laws_eqGroup.np, F_laws_eqGroup.res) := by kernel_rfl
noncomputable def T_laws_eqGroup : (List UInt8 × List (List UInt8)) × List UInt8 × List (List UInt8) → Option (Bool) := evF [fn_laws_eqStringS] F_laws_eqGroup [.agg (.pair .str (.sl false .str)), .agg (.pair .str (.sl false .str))] [] [.cell .bool] []
noncomputable def fn_laws_eqGroup : TFn := ⟨118, [.agg (.pair .str (.sl false .str)), .agg (.pair .str (.sl false .str))], [], [.cell .bool], [], T_laws_eqGroup⟩
theorem ok_laws_eqGroup : FnOk Tryz.prog fn_laws_eqGroup := evF_ok mixed (allOk_cons ok_laws_eqStringS allOk_nil) m_laws_eqGroup (by decide)
def B_laws_eqGroupS_1 : TC := (.seq (.seq (.reg none [.p (.mv 11 (.t 5)) .unit,
  .p (.mv 12 (.t 0)) .unit,
  .p (.lenB 13 (.t 12)) .unit,
  .p (.bin 14 false .lss (.t 11) (.t 13)) .unit])
 (.cond (.t 14) .skip (.exit 0)))
 (.seq (.block 1 (.seq (.reg (some [[], [], [0, 1], [2], [], [], [4, 5], [6], [3, 7], [8]]) [.p (.mv 17 (.t 0)) .unit,
  .p (.mv 18 (.t 5)) .unit,
  .p (.iadr 19 2 (.t 17) (.t 18)) .unit,
  .p (.load 20 (.t 19) 2 true) .unit,
  .p (.mv 21 (.t 1)) .unit,
  .p (.mv 22 (.t 5)) .unit,
  .p (.iadr 23 2 (.t 21) (.t 22)) .unit,
  .p (.load 24 (.t 23) 2 true) .unit,
  .p (.callB 25 n_laws_eqGroup [((.t 20), 0), ((.t 24), 0)]) .unit,
  .p (.un 26 .not (.t 25)) .unit])
 (.cond (.t 26) (.seq (.reg none [.p (.mv 4 (.c (.bool false))) .unit])
 .ret) .skip)))
 (.reg none [.p (.mv 15 (.t 5)) .unit,
  .p (.bin 16 false .add (.t 15) (.c (.int .i64 1))) .unit,
  .p (.mv 5 (.t 16)) .unit])))
noncomputable def L_laws_eqGroupS_1 : Nat → (List (List UInt8 × List (List UInt8))) × (List (List UInt8 × List (List UInt8))) × Int → Option ((Unit) ⊕ (Bool)) := evL [fn_laws_eqGroup] (finT [.t 4] [] [.cell .bool]) 0 ⟨[(0, true), (1, true), (5, false)], [.cell (.sl false (.pair .str (.sl false .str))), .cell (.sl false (.pair .str (.sl false .str))), .cell (.int .i64)]⟩ ⟨[], []⟩ B_laws_eqGroupS_1
def F_laws_eqGroupS : TF := ⟨(.seq (.reg none [.p (.mv 4 (.c (.bool false))) .unit])
 (.seq (.seq (.reg none [.p (.mv 6 (.t 0)) .unit,
  .p (.lenB 7 (.t 6)) .unit,
  .p (.mv 8 (.t 1)) .unit,
  .p (.lenB 9 (.t 8)) .unit,
  .p (.bin 10 false .neq (.t 7) (.t 9)) .unit])
 (.cond (.t 10) (.seq (.reg none [.p (.mv 4 (.c (.bool false))) .unit])
 .ret) .skip))
 (.seq (.seq (.reg none [.p (.mv 5 (.c (.int .i64 0))) .unit])
 (.jl 0 ⟨[(0, true), (1, true), (5, false)], [.cell (.sl false (.pair .str (.sl false .str))), .cell (.sl false (.pair .str (.sl false .str))), .cell (.int .i64)]⟩ ⟨[], []⟩ B_laws_eqGroupS_1))
 (.seq (.reg none [.p (.mv 4 (.c (.bool true))) .unit])
 .ret)))),
 27, 2, [.t 4]⟩
theorem m_laws_eqGroupS : mH Tryz.prog 93 [] = some (F_laws_eqGroupS.code.x, F_laws_eqGroupS.N, F_laws_eqGroupS.np, F_laws_eqGroupS.res) := by kernel_rfl
noncomputable def T_laws_eqGroupS : (List (List UInt8 × List (List UInt8))) × List (List UInt8 × List (List UInt8)) → Option (Bool) := evF [fn_laws_eqGroup] F_laws_eqGroupS [.cell (.sl false (.pair .str (.sl false .str))), .cell (.sl false (.pair .str (.sl false .str)))] [] [.cell .bool] []
noncomputable def fn_laws_eqGroupS : TFn := ⟨93, [.cell (.sl false (.pair .str (.sl false .str))), .cell (.sl false (.pair .str (.sl false .str)))], [], [.cell .bool], [], T_laws_eqGroupS⟩
theorem ok_laws_eqGroupS : FnOk Tryz.prog fn_laws_eqGroupS := evF_ok mixed (allOk_cons ok_laws_eqGroup allOk_nil) m_laws_eqGroupS (by decide)
def F_laws_eqTable : TF := ⟨(.seq (.reg none [.p (.box 2 (.t 0)) .unit,
  .p (.box 3 (.t 1)) .unit,
  .p (.mv 4 (.c (.bool false))) .unit])
 (.seq (.seq (.reg none [.p (.fadr 5 (.t 2) 0) .unit,
  .p (.load 6 (.t 5) 1 false) .unit,
  .p (.fadr 7 (.t 3) 0) .unit,
  .p (.load 8 (.t 7) 1 false) .unit,
  .p (.callB 9 n_laws_eqGroupS [((.t 6), 0), ((.t 8), 0)]) .unit,
  .p (.un 10 .not (.t 9)) .unit])
 (.cond (.t 10) (.seq (.reg none [.p (.mv 4 (.c (.bool false))) .unit])
 .ret) .skip))
 (.seq (.reg none [.p (.mv 4 (.c (.bool true))) .unit])
 .ret))),
 11, 2, [.t 4]⟩
theorem m_laws_eqTable : mH Tryz.prog 63 [] = some (F_laws_eqTable.code.x, F_laws_eqTable.N, F_laws_eqTable.np, F_laws_eqTable.res) := by kernel_rfl
noncomputable def T_laws_eqTable : (List (List UInt8 × List (List UInt8))) × List (List UInt8 × List (List UInt8)) → Option (Bool) := evF [fn_laws_eqGroupS] F_laws_eqTable [.agg (.sl false (.pair .str (.sl false .str))), .agg (.sl false (.pair .str (.sl false .str)))] [] [.cell .bool] []
noncomputable def fn_laws_eqTable : TFn := ⟨63, [.agg (.sl false (.pair .str (.sl false .str))), .agg (.sl false (.pair .str (.sl false .str)))], [], [.cell .bool], [], T_laws_eqTable⟩
theorem ok_laws_eqTable : FnOk Tryz.prog fn_laws_eqTable := evF_ok mixed (allOk_cons ok_laws_eqGroupS allOk_nil) m_laws_eqTable (by decide)
def B_laws_eqTableS_1 : TC := (.seq (.seq (.reg none [.p (.mv 11 (.t 5)) .unit,
  .p (.mv 12 (.t 0)) .unit,
  .p (.lenB 13 (.t 12)) .unit,
  .p (.bin 14 false .lss (.t 11) (.t 13)) .unit])
 (.cond (.t 14) .skip (.exit 0)))
 (.seq (.block 1 (.seq (.reg (some [[], [], [0, 1], [2], [], [], [4, 5], [6], [3, 7], [8]]) [.p (.mv 17 (.t 0)) .unit,
  .p (.mv 18 (.t 5)) .unit,
  .p (.iadr 19 1 (.t 17) (.t 18)) .unit,
  .p (.load 20 (.t 19) 1 true) .unit,
  .p (.mv 21 (.t 1)) .unit,
  .p (.mv 22 (.t 5)) .unit,
  .p (.iadr 23 1 (.t 21) (.t 22)) .unit,
  .p (.load 24 (.t 23) 1 true) .unit,
  .p (.callB 25 n_laws_eqTable [((.t 20), 0), ((.t 24), 0)]) .unit,
  .p (.un 26 .not (.t 25)) .unit])
 (.cond (.t 26) (.seq (.reg none [.p (.mv 4 (.c (.bool false))) .unit])
 .ret) .skip)))
 (.reg none [.p (.mv 15 (.t 5)) .unit,
  .p (.bin 16 false .add (.t 15) (.c (.int .i64 1))) .unit,
  .p (.mv 5 (.t 16)) .unit])))
noncomputable def L_laws_eqTableS_1 : Nat → (List (List (List UInt8 × List (List UInt8)))) × (List (List (List UInt8 × List (List UInt8)))) × Int → Option ((Unit) ⊕ (Bool)) := evL [fn_laws_eqTable] (finT [.t 4] [] [.cell .bool]) 0 ⟨[(0, true), (1, true), (5, false)], [.cell (.sl false (.sl false (.pair .str (.sl false .str)))), .cell (.sl false (.sl false (.pair .str (.sl false .str)))), .cell (.int .i64)]⟩ ⟨[], []⟩ B_laws_eqTableS_1
def F_laws_eqTableS : TF := ⟨(.seq (.reg none [.p (.mv 4 (.c (.bool false))) .unit])
 (.seq (.seq (.reg none [.p (.mv 6 (.t 0)) .unit,
  .p (.lenB 7 (.t 6)) .unit,
  .p (.mv 8 (.t 1)) .unit,
  .p (.lenB 9 (.t 8)) .unit,
  .p (.bin 10 false .neq (.t 7) (.t 9)) .unit])
 (.cond (.t 10) (.seq (.reg none [.p (.mv 4 (.c (.bool false))) .unit])
 .ret) .skip))
 (.seq (.seq (.reg none [.p (.mv 5 (.c (.int .i64 0))) .unit])
 (.jl 0 ⟨[(0, true), (1, true), (5, false)], [.cell (.sl false (.sl false (.pair .str (.sl false .str)))), .cell (.sl false (.sl false (.pair .str (.sl false .str)))), .cell (.int .i64)]⟩ ⟨[], []⟩ B_laws_eqTableS_1))
 (.seq (.reg none [.p (.mv 4 (.c (.bool true))) .unit])
 .ret)))),
 27, 2, [.t 4]⟩
theorem m_laws_eqTableS : mH Tryz.prog 33 [] = some (F_laws_eqTableS.code.x, F_laws_eqTableS.N, F_laws_eqTableS.np, F_laws_eqTableS.res) := by kernel_rfl
noncomputable def T_laws_eqTableS : (List (List (List UInt8 × List (List UInt8)))) × List (List (List UInt8 × List (List UInt8))) → Option (Bool) := evF [fn_laws_eqTable] F_laws_eqTableS [.cell (.sl false (.sl false (.pair .str (.sl false .str)))), .cell (.sl false (.sl false (.pair .str (.sl false .str))))] [] [.cell .bool] []
noncomputable def fn_laws_eqTableS : TFn := ⟨33, [.cell (.sl false (.sl false (.pair .str (.sl false .str)))), .cell (.sl false (.sl false (.pair .str (.sl false .str))))], [], [.cell .bool], [], T_laws_eqTableS⟩
theorem ok_laws_eqTableS : FnOk Tryz.prog fn_laws_eqTableS := evF_ok mixed (allOk_cons ok_laws_eqTable allOk_nil) m_laws_eqTableS (by decide)
def F_laws_eqHall : TF := ⟨(.seq (.reg none [.p (.box 2 (.t 0)) .unit,
  .p (.box 3 (.t 1)) .unit,
  .p (.mv 4 (.c (.bool false))) .unit])
 (.seq (.seq (.reg none [.p (.fadr 5 (.t 2) 0) .unit,
  .p (.load 6 (.t 5) 4 true) .unit,
  .p (.fadr 7 (.t 3) 0) .unit,
  .p (.load 8 (.t 7) 4 true) .unit,
  .p (.callB 9 n_laws_eqWorld [((.t 6), 0), ((.t 8), 0)]) .unit,
  .p (.un 10 .not (.t 9)) .unit])
 (.cond (.t 10) (.seq (.reg none [.p (.mv 4 (.c (.bool false))) .unit])
 .ret) .skip))
 (.seq (.seq (.reg none [.p (.fadr 11 (.t 2) 4) .unit,
  .p (.load 12 (.t 11) 1 false) .unit,
  .p (.fadr 13 (.t 3) 4) .unit,
  .p (.load 14 (.t 13) 1 false) .unit,
  .p (.callB 15 n_laws_eqCallerS [((.t 12), 0), ((.t 14), 0)]) .unit,
  .p (.un 16 .not (.t 15)) .unit])
 (.cond (.t 16) (.seq (.reg none [.p (.mv 4 (.c (.bool false))) .unit])
 .ret) .skip))
 (.seq (.seq (.reg none [.p (.fadr 17 (.t 2) 5) .unit,
  .p (.load 18 (.t 17) 1 false) .unit,
  .p (.fadr 19 (.t 3) 5) .unit,
  .p (.load 20 (.t 19) 1 false) .unit,
  .p (.callB 21 n_laws_eqTableS [((.t 18), 0), ((.t 20), 0)]) .unit,
  .p (.un 22 .not (.t 21)) .unit])
 (.cond (.t 22) (.seq (.reg none [.p (.mv 4 (.c (.bool false))) .unit])
 .ret) .skip))
 (.seq (.seq (.reg none [.p (.fadr 23 (.t 2) 6) .unit,
  .p (.load 24 (.t 23) 1 false) .unit,
  .p (.fadr 25 (.t 3) 6) .unit,
  .p (.load 26 (.t 25) 1 false) .unit,
  .p (.callB 27 n_laws_eqIntS [((.t 24), 0), ((.t 26), 0)]) .unit,
  .p (.un 28 .not (.t 27)) .unit])
 (.cond (.t 28) (.seq (.reg none [.p (.mv 4 (.c (.bool false))) .unit])
 .ret) .skip))
 (.seq (.reg none [.p (.mv 4 (.c (.bool true))) .unit])
 .ret)))))),
 29, 2, [.t 4]⟩
theorem m_laws_eqHall : mH Tryz.prog 9 [] = some (F_laws_eqHall.code.x, F_laws_eqHall.N, F_laws_eqHall.np, F_laws_eqHall.res) := by kernel_rfl
noncomputable def T_laws_eqHall : ((List (Int × List (Int)) × List (Int × Bool × (Int × (Int × List (Int)) × List (Int × Int × Int × List UInt8) × List (Int) × List (List UInt8) × Int × Int × Int × Int × Int × Int × Int × Int × Int × List (Int)) × Int × Int × (Int × List (Int)) × List (Int × Int × Int × List (Int × Int × Int × List UInt8)) × List (Int × (Int × List (Int)) × (Int × Int × Int × List UInt8) × List (Int))) × List (Int × Int × Int × (Int × Int × Int × List UInt8) × (Int × Int × Int × Int × Int × List (Int)) × Int × Int × Int × List (Int × Int × Int × List UInt8)) × List (Int × (Int × List (Int)) × (Int × Int × Int × List UInt8) × List (Int))) × List ((Int × List UInt8 × (List UInt8 × Bool) × Bool × List (List UInt8)) × (List UInt8 × List (List UInt8) × Bool) × List UInt8 × List (List UInt8)) × List (List (List UInt8 × List (List UInt8))) × List (Int)) × (List (Int × List (Int)) × List (Int × Bool × (Int × (Int × List (Int)) × List (Int × Int × Int × List UInt8) × List (Int) × List (List UInt8) × Int × Int × Int × Int × Int × Int × Int × Int × Int × List (Int)) × Int × Int × (Int × List (Int)) × List (Int × Int × Int × List (Int × Int × Int × List UInt8)) × List (Int × (Int × List (Int)) × (Int × Int × Int × List UInt8) × List (Int))) × List (Int × Int × Int × (Int × Int × Int × List UInt8) × (Int × Int × Int × Int × Int × List (Int)) × Int × Int × Int × List (Int × Int × Int × List UInt8)) × List (Int × (Int × List (Int)) × (Int × Int × Int × List UInt8) × List (Int))) × List ((Int × List UInt8 × (List UInt8 × Bool) × Bool × List (List UInt8)) × (List UInt8 × List (List UInt8) × Bool) × List UInt8 × List (List UInt8)) × List (List (List UInt8 × List (List UInt8))) × List (Int) → Option (Bool) := evF [fn_laws_eqWorld, fn_laws_eqCallerS, fn_laws_eqTableS, fn_laws_eqIntS] F_laws_eqHall [.agg (.pair (.pair (.sl false (.pair (.int .i64) (.sl false (.int .i64)))) (.pair (.sl false (.pair (.int .i64) (.pair .bool (.pair (.pair (.int .i64) (.pair (.pair (.int .i64) (.sl false (.int .i64))) (.pair (.sl false (.pair (.int .i64) (.pair (.int .i64) (.pair (.int .i64) .str)))) (.pair (.sl false (.int .i64)) (.pair (.sl false .str) (.pair (.int .i64) (.pair (.int .i64) (.pair (.int .i64) (.pair (.int .i64) (.pair (.int .i64) (.pair (.int .i64) (.pair (.int .i64) (.pair (.int .i64) (.pair (.int .i64) (.sl false (.int .i64)))))))))))))))) (.pair (.int .i64) (.pair (.int .i64) (.pair (.pair (.int .i64) (.sl false (.int .i64))) (.pair (.sl false (.pair (.int .i64) (.pair (.int .i64) (.pair (.int .i64) (.sl false (.pair (.int .i64) (.pair (.int .i64) (.pair (.int .i64) .str)))))))) (.sl false (.pair (.int .i64) (.pair (.pair (.int .i64) (.sl false (.int .i64))) (.pair (.pair (.int .i64) (.pair (.int .i64) (.pair (.int .i64) .str))) (.sl false (.int .i64)))))))))))))) (.pair (.sl false (.pair (.int .i64) (.pair (.int .i64) (.pair (.int .i64) (.pair (.pair (.int .i64) (.pair (.int .i64) (.pair (.int .i64) .str))) (.pair (.pair (.int .i64) (.pair (.int .i64) (.pair (.int .i64) (.pair (.int .i64) (.pair (.int .i64) (.sl false (.int .i64))))))) (.pair (.int .i64) (.pair (.int .i64) (.pair (.int .i64) (.sl false (.pair (.int .i64) (.pair (.int .i64) (.pair (.int .i64) .str))))))))))))) (.sl false (.pair (.int .i64) (.pair (.pair (.int .i64) (.sl false (.int .i64))) (.pair (.pair (.int .i64) (.pair (.int .i64) (.pair (.int .i64) .str))) (.sl false (.int .i64))))))))) (.pair (.sl false (.pair (.pair (.int .i64) (.pair .str (.pair (.pair .str .bool) (.pair .bool (.sl false .str))))) (.pair (.pair .str (.pair (.sl false .str) .bool)) (.pair .str (.sl false .str))))) (.pair (.sl false (.sl false (.pair .str (.sl false .str)))) (.sl false (.int .i64))))), .agg (.pair (.pair (.sl false (.pair (.int .i64) (.sl false (.int .i64)))) (.pair (.sl false (.pair (.int .i64) (.pair .bool (.pair (.pair (.int .i64) (.pair (.pair (.int .i64) (.sl false (.int .i64))) (.pair (.sl false (.pair (.int .i64) (.pair (.int .i64) (.pair (.int .i64) .str)))) (.pair (.sl false (.int .i64)) (.pair (.sl false .str) (.pair (.int .i64) (.pair (.int .i64) (.pair (.int .i64) (.pair (.int .i64) (.pair (.int .i64) (.pair (.int .i64) (.pair (.int .i64) (.pair (.int .i64) (.pair (.int .i64) (.sl false (.int .i64)))))))))))))))) (.pair (.int .i64) (.pair (.int .i64) (.pair (.pair (.int .i64) (.sl false (.int .i64))) (.pair (.sl false (.pair (.int .i64) (.pair (.int .i64) (.pair (.int .i64) (.sl false (.pair (.int .i64) (.pair (.int .i64) (.pair (.int .i64) .str)))))))) (.sl false (.pair (.int .i64) (.pair (.pair (.int .i64) (.sl false (.int .i64))) (.pair (.pair (.int .i64) (.pair (.int .i64) (.pair (.int .i64) .str))) (.sl false (.int .i64)))))))))))))) (.pair (.sl false (.pair (.int .i64) (.pair (.int .i64) (.pair (.int .i64) (.pair (.pair (.int .i64) (.pair (.int .i64) (.pair (.int .i64) .str))) (.pair (.pair (.int .i64) (.pair (.int .i64) (.pair (.int .i64) (.pair (.int .i64) (.pair (.int .i64) (.sl false (.int .i64))))))) (.pair (.int .i64) (.pair (.int .i64) (.pair (.int .i64) (.sl false (.pair (.int .i64) (.pair (.int .i64) (.pair (.int .i64) .str))))))))))))) (.sl false (.pair (.int .i64) (.pair (.pair (.int .i64) (.sl false (.int .i64))) (.pair (.pair (.int .i64) (.pair (.int .i64) (.pair (.int .i64) .str))) (.sl false (.int .i64))))))))) (.pair (.sl false (.pair (.pair (.int .i64) (.pair .str (.pair (.pair .str .bool) (.pair .bool (.sl false .str))))) (.pair (.pair .str (.pair (.sl false .str) .bool)) (.pair .str (.sl false .str))))) (.pair (.sl false (.sl false (.pair .str (.sl false .str)))) (.sl false (.int .i64)))))] [] [.cell .bool] []
noncomputable def fn_laws_eqHall : TFn := ⟨9, [.agg (.pair (.pair (.sl false (.pair (.int .i64) (.sl false (.int .i64)))) (.pair (.sl false (.pair (.int .i64) (.pair .bool (.pair (.pair (.int .i64) (.pair (.pair (.int .i64) (.sl false (.int .i64))) (.pair (.sl false (.pair (.int .i64) (.pair (.int .i64) (.pair (.int .i64) .str)))) (.pair (.sl false (.int .i64)) (.pair (.sl false .str) (.pair (.int .i64) (.pair (.int .i64) (.pair (.int .i64) (.pair (.int .i64) (.pair (.int .i64) (.pair (.int .i64) (.pair (.int .i64) (.pair (.int .i64) (.pair (.int .i64) (.sl false (.int .i64)))))))))))))))) (.pair (.int .i64) (.pair (.int .i64) (.pair (.pair (.int .i64) (.sl false (.int .i64))) (.pair (.sl false (.pair (.int .i64) (.pair (.int .i64) (.pair (.int .i64) (.sl false (.pair (.int .i64) (.pair (.int .i64) (.pair (.int .i64) .str)))))))) (.sl false (.pair (.int .i64) (.pair (.pair (.int .i64) (.sl false (.int .i64))) (.pair (.pair (.int .i64) (.pair (.int .i64) (.pair (.int .i64) .str))) (.sl false (.int .i64)))))))))))))) (.pair (.sl false (.pair (.int .i64) (.pair (.int .i64) (.pair (.int .i64) (.pair (.pair (.int .i64) (.pair (.int .i64) (.pair (.int .i64) .str))) (.pair (.pair (.int .i64) (.pair (.int .i64) (.pair (.int .i64) (.pair (.int .i64) (.pair (.int .i64) (.sl false (.int .i64))))))) (.pair (.int .i64) (.pair (.int .i64) (.pair (.int .i64) (.sl false (.pair (.int .i64) (.pair (.int .i64) (.pair (.int .i64) .str))))))))))))) (.sl false (.pair (.int .i64) (.pair (.pair (.int .i64) (.sl false (.int .i64))) (.pair (.pair (.int .i64) (.pair (.int .i64) (.pair (.int .i64) .str))) (.sl false (.int .i64))))))))) (.pair (.sl false (.pair (.pair (.int .i64) (.pair .str (.pair (.pair .str .bool) (.pair .bool (.sl false .str))))) (.pair (.pair .str (.pair (.sl false .str) .bool)) (.pair .str (.sl false .str))))) (.pair (.sl false (.sl false (.pair .str (.sl false .str)))) (.sl false (.int .i64))))), .agg (.pair (.pair (.sl false (.pair (.int .i64) (.sl false (.int .i64)))) (.pair (.sl false (.pair (.int .i64) (.pair .bool (.pair (.pair (.int .i64) (.pair (.pair (.int .i64) (.sl false (.int .i64))) (.pair (.sl false (.pair (.int .i64) (.pair (.int .i64) (.pair (.int .i64) .str)))) (.pair (.sl false (.int .i64)) (.pair (.sl false .str) (.pair (.int .i64) (.pair (.int .i64) (.pair (.int .i64) (.pair (.int .i64) (.pair (.int .i64) (.pair (.int .i64) (.pair (.int .i64) (.pair (.int .i64) (.pair (.int .i64) (.sl false (.int .i64)))))))))))))))) (.pair (.int .i64) (.pair (.int .i64) (.pair (.pair (.int .i64) (.sl false (.int .i64))) (.pair (.sl false (.pair (.int .i64) (.pair (.int .i64) (.pair (.int .i64) (.sl false (.pair (.int .i64) (.pair (.int .i64) (.pair (.int .i64) .str)))))))) (.sl false (.pair (.int .i64) (.pair (.pair (.int .i64) (.sl false (.int .i64))) (.pair (.pair (.int .i64) (.pair (.int .i64) (.pair (.int .i64) .str))) (.sl false (.int .i64)))))))))))))) (.pair (.sl false (.pair (.int .i64) (.pair (.int .i64) (.pair (.int .i64) (.pair (.pair (.int .i64) (.pair (.int .i64) (.pair (.int .i64) .str))) (.pair (.pair (.int .i64) (.pair (.int .i64) (.pair (.int .i64) (.pair (.int .i64) (.pair (.int .i64) (.sl false (.int .i64))))))) (.pair (.int .i64) (.pair (.int .i64) (.pair (.int .i64) (.sl false (.pair (.int .i64) (.pair (.int .i64) (.pair (.int .i64) .str))))))))))))) (.sl false (.pair (.int .i64) (.pair (.pair (.int .i64) (.sl false (.int .i64))) (.pair (.pair (.int .i64) (.pair (.int .i64) (.pair (.int .i64) .str))) (.sl false (.int .i64))))))))) (.pair (.sl false (.pair (.pair (.int .i64) (.pair .str (.pair (.pair .str .bool) (.pair .bool (.sl false .str))))) (.pair (.pair .str (.pair (.sl false .str) .bool)) (.pair .str (.sl false .str))))) (.pair (.sl false (.sl false (.pair .str (.sl false .str)))) (.sl false (.int .i64)))))], [], [.cell .bool], [], T_laws_eqHall⟩
theorem ok_laws_eqHall : FnOk Tryz.prog fn_laws_eqHall := evF_ok mixed (allOk_cons ok_laws_eqWorld (allOk_cons ok_laws_eqCallerS (allOk_cons ok_laws_eqTableS (allOk_cons ok_laws_eqIntS allOk_nil)))) m_laws_eqHall (by decide)
def F_laws_FnExactOneHeard : TF := ⟨(.seq (.reg none [.p (.box 1 (.t 0)) .unit,
  .p (.mv 2 (.c (.bool false))) .unit])
 (.seq (.reg none [.p (.mv 3 (.c (.int .i64 1048576))) .unit])
 (.seq (.reg none [.p (.load 7 (.t 1) 7 true) .unit,
  .p (.mv 8 (.t 3)) .unit,
  .p (.callB 9 n_laws_szHall [((.t 7), 0), ((.t 8), 0)]) .unit,
  .p (.mv 3 (.t 9)) .unit])
 (.seq (.seq (.reg none [.p (.mv 10 (.t 3)) .unit,
  .p (.bin 11 false .lss (.t 10) (.c (.int .i64 0))) .unit])
 (.cond (.t 11) (.seq (.reg none [.p (.mv 2 (.c (.bool true))) .unit])
 .ret) .skip))
 (.seq (.reg none [.p (.load 12 (.t 1) 7 true) .unit,
  .p (.callB 13 n_laws_toHall [((.t 12), 0)]) .unit,
  .p (.callB 14 n_spec_OneHeard [((.t 13), 0)]) .unit,
  .p (.mv 4 (.t 14)) .unit])
 (.seq (.reg none [.p (.load 15 (.t 1) 7 true) .unit,
  .p (.callB 16 n_laws_toHall [((.t 15), 0)]) .unit,
  .p (.alloc 5 [(.sl true 2 []), (.sl true 24 []), (.sl true 17 []), (.sl true 8 []), (.sl true 11 []), (.sl true 1 []), (.sl true 1 [])]) .unit,
  .p (.storeT (.t 5) 16 7) .unit])
 (.seq (.reg none [.p (.load 17 (.t 5) 7 true) .unit,
  .p (.callB 18 n_impl_OneHeard [((.t 17), 0)]) .unit,
  .p (.mv 6 (.t 18)) .unit])
 (.seq (.seq (.reg none [.p (.mv 19 (.t 6)) .unit,
  .p (.mv 20 (.t 4)) .unit,
  .p (.bin 21 true .neq (.t 19) (.t 20)) .unit])
 (.cond (.t 21) (.seq (.reg none [.p (.mv 2 (.c (.bool false))) .unit])
 .ret) .skip))
 (.seq (.seq (.reg (some [[], [], [1], [0, 2, 2], [3]]) [.p (.load 22 (.t 5) 7 true) .unit,
  .p (.load 23 (.t 1) 7 true) .unit,
  .p (.callB 24 n_laws_toHall [((.t 23), 0)]) .unit,
  .p (.callB 25 n_laws_eqHall [((.t 22), 0), ((.t 24), 0)]) .unit,
  .p (.un 26 .not (.t 25)) .unit])
 (.cond (.t 26) (.seq (.reg none [.p (.mv 2 (.c (.bool false))) .unit])
 .ret) .skip))
 (.seq (.reg none [.p (.mv 2 (.c (.bool true))) .unit])
 .ret)))))))))),
 27, 1, [.t 2]⟩
theorem m_laws_FnExactOneHeard : mH Tryz.prog 3 [(6, 3, .t)] = some (F_laws_FnExactOneHeard.code.x, F_laws_FnExactOneHeard.N, F_laws_FnExactOneHeard.np, F_laws_FnExactOneHeard.res) := by kernel_rfl
noncomputable def T_laws_FnExactOneHeard : (List (Int × List (Int)) × List (Int × Bool × (Int × (Int × List (Int)) × List (Int × Int × Int × List UInt8) × List (Int) × List (List UInt8) × Int × Int × Int × Int × Int × Int × Int × Int × Int × List (Int)) × Int × Int × (Int × List (Int)) × List (Int × Int × Int × List (Int × Int × Int × List UInt8)) × List (Int × (Int × List (Int)) × (Int × Int × Int × List UInt8) × List (Int))) × List (Int × Int × Int × (Int × Int × Int × List UInt8) × (Int × Int × Int × Int × Int × List (Int)) × Int × Int × Int × List (Int × Int × Int × List UInt8)) × List (Int × (Int × List (Int)) × (Int × Int × Int × List UInt8) × List (Int))) × List ((Int × List UInt8 × (List UInt8 × Bool) × Bool × List (List UInt8)) × (List UInt8 × List (List UInt8) × Bool) × List UInt8 × List (List UInt8)) × List (List (List UInt8 × List (List UInt8))) × List (Int) → Option (Bool) := evF [fn_laws_szHall, fn_laws_toHall, fn_spec_OneHeard, fn_impl_OneHeard, fn_laws_eqHall] F_laws_FnExactOneHeard [.agg (.pair (.pair (.sl false (.pair (.int .i64) (.sl false (.int .i64)))) (.pair (.sl false (.pair (.int .i64) (.pair .bool (.pair (.pair (.int .i64) (.pair (.pair (.int .i64) (.sl false (.int .i64))) (.pair (.sl false (.pair (.int .i64) (.pair (.int .i64) (.pair (.int .i64) .str)))) (.pair (.sl false (.int .i64)) (.pair (.sl false .str) (.pair (.int .i64) (.pair (.int .i64) (.pair (.int .i64) (.pair (.int .i64) (.pair (.int .i64) (.pair (.int .i64) (.pair (.int .i64) (.pair (.int .i64) (.pair (.int .i64) (.sl false (.int .i64)))))))))))))))) (.pair (.int .i64) (.pair (.int .i64) (.pair (.pair (.int .i64) (.sl false (.int .i64))) (.pair (.sl false (.pair (.int .i64) (.pair (.int .i64) (.pair (.int .i64) (.sl false (.pair (.int .i64) (.pair (.int .i64) (.pair (.int .i64) .str)))))))) (.sl false (.pair (.int .i64) (.pair (.pair (.int .i64) (.sl false (.int .i64))) (.pair (.pair (.int .i64) (.pair (.int .i64) (.pair (.int .i64) .str))) (.sl false (.int .i64)))))))))))))) (.pair (.sl false (.pair (.int .i64) (.pair (.int .i64) (.pair (.int .i64) (.pair (.pair (.int .i64) (.pair (.int .i64) (.pair (.int .i64) .str))) (.pair (.pair (.int .i64) (.pair (.int .i64) (.pair (.int .i64) (.pair (.int .i64) (.pair (.int .i64) (.sl false (.int .i64))))))) (.pair (.int .i64) (.pair (.int .i64) (.pair (.int .i64) (.sl false (.pair (.int .i64) (.pair (.int .i64) (.pair (.int .i64) .str))))))))))))) (.sl false (.pair (.int .i64) (.pair (.pair (.int .i64) (.sl false (.int .i64))) (.pair (.pair (.int .i64) (.pair (.int .i64) (.pair (.int .i64) .str))) (.sl false (.int .i64))))))))) (.pair (.sl false (.pair (.pair (.int .i64) (.pair .str (.pair (.pair .str .bool) (.pair .bool (.sl false .str))))) (.pair (.pair .str (.pair (.sl false .str) .bool)) (.pair .str (.sl false .str))))) (.pair (.sl false (.sl false (.pair .str (.sl false .str)))) (.sl false (.int .i64)))))] [] [.cell .bool] []
noncomputable def fn_laws_FnExactOneHeard : TFn := ⟨3, [.agg (.pair (.pair (.sl false (.pair (.int .i64) (.sl false (.int .i64)))) (.pair (.sl false (.pair (.int .i64) (.pair .bool (.pair (.pair (.int .i64) (.pair (.pair (.int .i64) (.sl false (.int .i64))) (.pair (.sl false (.pair (.int .i64) (.pair (.int .i64) (.pair (.int .i64) .str)))) (.pair (.sl false (.int .i64)) (.pair (.sl false .str) (.pair (.int .i64) (.pair (.int .i64) (.pair (.int .i64) (.pair (.int .i64) (.pair (.int .i64) (.pair (.int .i64) (.pair (.int .i64) (.pair (.int .i64) (.pair (.int .i64) (.sl false (.int .i64)))))))))))))))) (.pair (.int .i64) (.pair (.int .i64) (.pair (.pair (.int .i64) (.sl false (.int .i64))) (.pair (.sl false (.pair (.int .i64) (.pair (.int .i64) (.pair (.int .i64) (.sl false (.pair (.int .i64) (.pair (.int .i64) (.pair (.int .i64) .str)))))))) (.sl false (.pair (.int .i64) (.pair (.pair (.int .i64) (.sl false (.int .i64))) (.pair (.pair (.int .i64) (.pair (.int .i64) (.pair (.int .i64) .str))) (.sl false (.int .i64)))))))))))))) (.pair (.sl false (.pair (.int .i64) (.pair (.int .i64) (.pair (.int .i64) (.pair (.pair (.int .i64) (.pair (.int .i64) (.pair (.int .i64) .str))) (.pair (.pair (.int .i64) (.pair (.int .i64) (.pair (.int .i64) (.pair (.int .i64) (.pair (.int .i64) (.sl false (.int .i64))))))) (.pair (.int .i64) (.pair (.int .i64) (.pair (.int .i64) (.sl false (.pair (.int .i64) (.pair (.int .i64) (.pair (.int .i64) .str))))))))))))) (.sl false (.pair (.int .i64) (.pair (.pair (.int .i64) (.sl false (.int .i64))) (.pair (.pair (.int .i64) (.pair (.int .i64) (.pair (.int .i64) .str))) (.sl false (.int .i64))))))))) (.pair (.sl false (.pair (.pair (.int .i64) (.pair .str (.pair (.pair .str .bool) (.pair .bool (.sl false .str))))) (.pair (.pair .str (.pair (.sl false .str) .bool)) (.pair .str (.sl false .str))))) (.pair (.sl false (.sl false (.pair .str (.sl false .str)))) (.sl false (.int .i64)))))], [], [.cell .bool], [], T_laws_FnExactOneHeard⟩
theorem ok_laws_FnExactOneHeard : FnOk Tryz.prog fn_laws_FnExactOneHeard := evF_ok mixed (allOk_cons ok_laws_szHall (allOk_cons ok_laws_toHall (allOk_cons ok_spec_OneHeard (allOk_cons ok_impl_OneHeard (allOk_cons ok_laws_eqHall allOk_nil))))) m_laws_FnExactOneHeard (by decide)


end Xs
end Go.Proofs.YtkjpdhdmjjepfaaGreat
