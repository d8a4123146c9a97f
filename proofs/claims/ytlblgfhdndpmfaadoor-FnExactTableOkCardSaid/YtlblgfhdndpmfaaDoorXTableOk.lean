/- The typed code of the functions, printed by program. -/
import Derived.Test.YtlblgfhdndpmfaaDoorT7
import Derived.Test.YtlblgfhdndpmfaaDoorProg
import Derived.KernelRfl


import Derived.Test.YtlblgfhdndpmfaaDoorItoa
import Derived.Test.YtlblgfhdndpmfaaDoorSplit
namespace Go.Proofs.YtlblgfhdndpmfaaDoor
open Go Vm
namespace Xs
theorem mixed : Tryd.prog.follows .mixedOrders = true := by kernel_rfl
abbrev n_laws_FnExactTableOk : Nat := 5
abbrev n_laws_szTable : Nat := 17
abbrev n_spec_TableOk : Nat := 18
abbrev n_laws_toTable : Nat := 19
abbrev n_impl_TableOk : Nat := 20
abbrev n_laws_eqTable : Nat := 21
abbrev n_impl_Decimal : Nat := 32
abbrev n_laws_szStringS : Nat := 37
abbrev n_spec_l01In : Nat := 38
abbrev n_spec_l17Private : Nat := 39
abbrev n_laws_toStringS : Nat := 41
abbrev n_impl_isPrivate : Nat := 42
abbrev n_impl_inRange : Nat := 44
abbrev n_laws_eqStringS : Nat := 45
abbrev n_laws_szGroupS : Nat := 46
abbrev n_spec_NameOk : Nat := 47
abbrev n_laws_toGroupS : Nat := 48
abbrev n_impl_NameOk : Nat := 49
abbrev n_impl_membersOk : Nat := 50
abbrev n_laws_eqGroupS : Nat := 51
abbrev n_strconv_Itoa : Nat := 59
abbrev n_spec_SplitPrivate : Nat := 60
abbrev n_impl_SplitPrivate : Nat := 61
abbrev n_laws_szGroup : Nat := 62
abbrev n_laws_toGroup : Nat := 63
abbrev n_laws_eqGroup : Nat := 64
abbrev n_strings_Split : Nat := 69
abbrev n_impl_ReadDecimal : Nat := 70
abbrev n_impl_PrivateName : Nat := 71
def B_laws_szStringS_1 : TC := (.seq (.seq (.reg none [.p (.mv 12 (.t 5)) .unit,
  .p (.mv 13 (.t 0)) .unit,
  .p (.lenB 14 (.t 13)) .unit,
  .p (.bin 15 false .lss (.t 12) (.t 14)) .unit])
 (.cond (.t 15) .skip (.exit 0)))
 (.seq (.block 1 (.seq (.reg none [.p (.mv 18 (.t 1)) .unit,
  .p (.mv 19 (.t 0)) .unit,
  .p (.mv 20 (.t 5)) .unit,
  .p (.iadr 21 1 (.t 19) (.t 20)) .unit,
  .p (.load 22 (.t 21) 1 false) .unit,
  .p (.lenS 23 (.t 22)) .unit,
  .p (.bin 24 false .sub (.t 18) (.t 23)) .unit,
  .p (.mv 1 (.t 24)) .unit])
 (.seq (.reg none [.p (.mv 25 (.t 1)) .unit,
  .p (.bin 26 false .lss (.t 25) (.c (.int .i64 0))) .unit])
 (.cond (.t 26) (.seq (.reg none [.p (.mv 4 (.c (.int .i64 (-1)))) .unit])
 .ret) .skip))))
 (.reg none [.p (.mv 16 (.t 5)) .unit,
  .p (.bin 17 false .add (.t 16) (.c (.int .i64 1))) .unit,
  .p (.mv 5 (.t 17)) .unit])))
noncomputable def L_laws_szStringS_1 : Nat → (List (List UInt8)) × (Int) × Int → Option ((Int) ⊕ (Int)) := evL [] (finT [.t 4] [] [.cell (.int .i64)]) 0 ⟨[(0, true), (1, false), (5, false)], [.cell (.sl false .str), .cell (.int .i64), .cell (.int .i64)]⟩ ⟨[(1, false)], [.cell (.int .i64)]⟩ B_laws_szStringS_1
def F_laws_szStringS : TF := ⟨(.seq (.reg none [.p (.mv 4 (.c (.int .i64 0))) .unit])
 (.seq (.reg none [.p (.mv 6 (.t 1)) .unit,
  .p (.mv 7 (.t 0)) .unit,
  .p (.lenB 8 (.t 7)) .unit,
  .p (.bin 9 false .sub (.t 6) (.t 8)) .unit,
  .p (.mv 1 (.t 9)) .unit])
 (.seq (.seq (.reg none [.p (.mv 10 (.t 1)) .unit,
  .p (.bin 11 false .lss (.t 10) (.c (.int .i64 0))) .unit])
 (.cond (.t 11) (.seq (.reg none [.p (.mv 4 (.c (.int .i64 (-1)))) .unit])
 .ret) .skip))
 (.seq (.seq (.reg none [.p (.mv 5 (.c (.int .i64 0))) .unit])
 (.jl 0 ⟨[(0, true), (1, false), (5, false)], [.cell (.sl false .str), .cell (.int .i64), .cell (.int .i64)]⟩ ⟨[(1, false)], [.cell (.int .i64)]⟩ B_laws_szStringS_1))
 (.seq (.reg none [.p (.mv 27 (.t 1)) .unit,
  .p (.mv 4 (.t 27)) .unit])
 .ret))))),
 28, 2, [.t 4]⟩
theorem m_laws_szStringS : mH Tryd.prog 37 [] = some (F_laws_szStringS.code.x, F_laws_szStringS.N, F_laws_szStringS.np, F_laws_szStringS.res) := by kernel_rfl
noncomputable def T_laws_szStringS : (List (List UInt8)) × Int → Option (Int) := evF [] F_laws_szStringS [.cell (.sl false .str), .cell (.int .i64)] [] [.cell (.int .i64)] []
noncomputable def fn_laws_szStringS : TFn := ⟨37, [.cell (.sl false .str), .cell (.int .i64)], [], [.cell (.int .i64)], [], T_laws_szStringS⟩
theorem ok_laws_szStringS : FnOk Tryd.prog fn_laws_szStringS := evF_ok mixed allOk_nil m_laws_szStringS (by decide)
def F_laws_szGroup : TF := ⟨(.seq (.reg none [.p (.box 2 (.t 0)) .unit,
  .p (.mv 4 (.c (.int .i64 0))) .unit])
 (.seq (.reg none [.p (.mv 5 (.t 1)) .unit,
  .p (.fadr 6 (.t 2) 0) .unit,
  .p (.load 7 (.t 6) 1 false) .unit,
  .p (.lenS 8 (.t 7)) .unit,
  .p (.bin 9 false .sub (.t 5) (.t 8)) .unit,
  .p (.mv 1 (.t 9)) .unit])
 (.seq (.seq (.reg none [.p (.mv 10 (.t 1)) .unit,
  .p (.bin 11 false .lss (.t 10) (.c (.int .i64 0))) .unit])
 (.cond (.t 11) (.seq (.reg none [.p (.mv 4 (.c (.int .i64 (-1)))) .unit])
 .ret) .skip))
 (.seq (.reg none [.p (.fadr 12 (.t 2) 1) .unit,
  .p (.load 13 (.t 12) 1 false) .unit,
  .p (.mv 14 (.t 1)) .unit,
  .p (.callB 15 n_laws_szStringS [((.t 13), 0), ((.t 14), 0)]) .unit,
  .p (.mv 1 (.t 15)) .unit])
 (.seq (.seq (.reg none [.p (.mv 16 (.t 1)) .unit,
  .p (.bin 17 false .lss (.t 16) (.c (.int .i64 0))) .unit])
 (.cond (.t 17) (.seq (.reg none [.p (.mv 4 (.c (.int .i64 (-1)))) .unit])
 .ret) .skip))
 (.seq (.reg none [.p (.mv 18 (.t 1)) .unit,
  .p (.mv 4 (.t 18)) .unit])
 .ret)))))),
 19, 2, [.t 4]⟩
theorem m_laws_szGroup : mH Tryd.prog 62 [] = some (F_laws_szGroup.code.x, F_laws_szGroup.N, F_laws_szGroup.np, F_laws_szGroup.res) := by kernel_rfl
noncomputable def T_laws_szGroup : (List UInt8 × List (List UInt8)) × Int → Option (Int) := evF [fn_laws_szStringS] F_laws_szGroup [.agg (.pair .str (.sl false .str)), .cell (.int .i64)] [] [.cell (.int .i64)] []
noncomputable def fn_laws_szGroup : TFn := ⟨62, [.agg (.pair .str (.sl false .str)), .cell (.int .i64)], [], [.cell (.int .i64)], [], T_laws_szGroup⟩
theorem ok_laws_szGroup : FnOk Tryd.prog fn_laws_szGroup := evF_ok mixed (allOk_cons ok_laws_szStringS allOk_nil) m_laws_szGroup (by decide)
def B_laws_szGroupS_1 : TC := (.seq (.seq (.reg none [.p (.mv 12 (.t 5)) .unit,
  .p (.mv 13 (.t 0)) .unit,
  .p (.lenB 14 (.t 13)) .unit,
  .p (.bin 15 false .lss (.t 12) (.t 14)) .unit])
 (.cond (.t 15) .skip (.exit 0)))
 (.seq (.block 1 (.seq (.reg none [.p (.mv 18 (.t 0)) .unit,
  .p (.mv 19 (.t 5)) .unit,
  .p (.iadr 20 2 (.t 18) (.t 19)) .unit,
  .p (.load 21 (.t 20) 2 true) .unit,
  .p (.mv 22 (.t 1)) .unit,
  .p (.callB 23 n_laws_szGroup [((.t 21), 0), ((.t 22), 0)]) .unit,
  .p (.mv 1 (.t 23)) .unit])
 (.seq (.reg none [.p (.mv 24 (.t 1)) .unit,
  .p (.bin 25 false .lss (.t 24) (.c (.int .i64 0))) .unit])
 (.cond (.t 25) (.seq (.reg none [.p (.mv 4 (.c (.int .i64 (-1)))) .unit])
 .ret) .skip))))
 (.reg none [.p (.mv 16 (.t 5)) .unit,
  .p (.bin 17 false .add (.t 16) (.c (.int .i64 1))) .unit,
  .p (.mv 5 (.t 17)) .unit])))
noncomputable def L_laws_szGroupS_1 : Nat → (List (List UInt8 × List (List UInt8))) × (Int) × Int → Option ((Int) ⊕ (Int)) := evL [fn_laws_szGroup] (finT [.t 4] [] [.cell (.int .i64)]) 0 ⟨[(0, true), (1, false), (5, false)], [.cell (.sl false (.pair .str (.sl false .str))), .cell (.int .i64), .cell (.int .i64)]⟩ ⟨[(1, false)], [.cell (.int .i64)]⟩ B_laws_szGroupS_1
def F_laws_szGroupS : TF := ⟨(.seq (.reg none [.p (.mv 4 (.c (.int .i64 0))) .unit])
 (.seq (.reg none [.p (.mv 6 (.t 1)) .unit,
  .p (.mv 7 (.t 0)) .unit,
  .p (.lenB 8 (.t 7)) .unit,
  .p (.bin 9 false .sub (.t 6) (.t 8)) .unit,
  .p (.mv 1 (.t 9)) .unit])
 (.seq (.seq (.reg none [.p (.mv 10 (.t 1)) .unit,
  .p (.bin 11 false .lss (.t 10) (.c (.int .i64 0))) .unit])
 (.cond (.t 11) (.seq (.reg none [.p (.mv 4 (.c (.int .i64 (-1)))) .unit])
 .ret) .skip))
 (.seq (.seq (.reg none [.p (.mv 5 (.c (.int .i64 0))) .unit])
 (.jl 0 ⟨[(0, true), (1, false), (5, false)], [.cell (.sl false (.pair .str (.sl false .str))), .cell (.int .i64), .cell (.int .i64)]⟩ ⟨[(1, false)], [.cell (.int .i64)]⟩ B_laws_szGroupS_1))
 (.seq (.reg none [.p (.mv 26 (.t 1)) .unit,
  .p (.mv 4 (.t 26)) .unit])
 .ret))))),
 27, 2, [.t 4]⟩
theorem m_laws_szGroupS : mH Tryd.prog 46 [] = some (F_laws_szGroupS.code.x, F_laws_szGroupS.N, F_laws_szGroupS.np, F_laws_szGroupS.res) := by kernel_rfl
noncomputable def T_laws_szGroupS : (List (List UInt8 × List (List UInt8))) × Int → Option (Int) := evF [fn_laws_szGroup] F_laws_szGroupS [.cell (.sl false (.pair .str (.sl false .str))), .cell (.int .i64)] [] [.cell (.int .i64)] []
noncomputable def fn_laws_szGroupS : TFn := ⟨46, [.cell (.sl false (.pair .str (.sl false .str))), .cell (.int .i64)], [], [.cell (.int .i64)], [], T_laws_szGroupS⟩
theorem ok_laws_szGroupS : FnOk Tryd.prog fn_laws_szGroupS := evF_ok mixed (allOk_cons ok_laws_szGroup allOk_nil) m_laws_szGroupS (by decide)
def F_laws_szTable : TF := ⟨(.seq (.reg none [.p (.box 2 (.t 0)) .unit,
  .p (.mv 4 (.c (.int .i64 0))) .unit])
 (.seq (.reg none [.p (.fadr 5 (.t 2) 0) .unit,
  .p (.load 6 (.t 5) 1 false) .unit,
  .p (.mv 7 (.t 1)) .unit,
  .p (.callB 8 n_laws_szGroupS [((.t 6), 0), ((.t 7), 0)]) .unit,
  .p (.mv 1 (.t 8)) .unit])
 (.seq (.seq (.reg none [.p (.mv 9 (.t 1)) .unit,
  .p (.bin 10 false .lss (.t 9) (.c (.int .i64 0))) .unit])
 (.cond (.t 10) (.seq (.reg none [.p (.mv 4 (.c (.int .i64 (-1)))) .unit])
 .ret) .skip))
 (.seq (.reg none [.p (.mv 11 (.t 1)) .unit,
  .p (.mv 4 (.t 11)) .unit])
 .ret)))),
 12, 2, [.t 4]⟩
theorem m_laws_szTable : mH Tryd.prog 17 [] = some (F_laws_szTable.code.x, F_laws_szTable.N, F_laws_szTable.np, F_laws_szTable.res) := by kernel_rfl
noncomputable def T_laws_szTable : (List (List UInt8 × List (List UInt8))) × Int → Option (Int) := evF [fn_laws_szGroupS] F_laws_szTable [.agg (.sl false (.pair .str (.sl false .str))), .cell (.int .i64)] [] [.cell (.int .i64)] []
noncomputable def fn_laws_szTable : TFn := ⟨17, [.agg (.sl false (.pair .str (.sl false .str))), .cell (.int .i64)], [], [.cell (.int .i64)], [], T_laws_szTable⟩
theorem ok_laws_szTable : FnOk Tryd.prog fn_laws_szTable := evF_ok mixed (allOk_cons ok_laws_szGroupS allOk_nil) m_laws_szTable (by decide)
def B_laws_toStringS_1 : TC := (.seq (.seq (.reg none [.p (.mv 8 (.t 4)) .unit,
  .p (.mv 9 (.t 0)) .unit,
  .p (.lenB 10 (.t 9)) .unit,
  .p (.bin 11 false .lss (.t 8) (.t 10)) .unit])
 (.cond (.t 11) .skip (.exit 0)))
 (.seq (.block 1 (.reg none [.p (.mvA 14 3) .unit,
  .p (.mv 15 (.t 4)) .unit,
  .p (.mv 16 (.t 0)) .unit,
  .p (.mv 17 (.t 4)) .unit,
  .p (.iadr 18 1 (.t 16) (.t 17)) .unit,
  .p (.load 19 (.t 18) 1 false) .unit,
  .p (.iadr 20 1 (.t 14) (.t 15)) .unit,
  .p (.store (.t 20) (.t 19) 1) .unit]))
 (.reg none [.p (.mv 12 (.t 4)) .unit,
  .p (.bin 13 false .add (.t 12) (.c (.int .i64 1))) .unit,
  .p (.mv 4 (.t 13)) .unit])))
noncomputable def L_laws_toStringS_1 : Nat → (List (List UInt8)) × (List (List UInt8)) × Int → Option ((List (List UInt8)) ⊕ (List (List UInt8))) := evL [] (finT [.t 2] [] [.cell (.sl true .str)]) 0 ⟨[(0, true), (3, false), (4, false)], [.cell (.sl false .str), .cell (.sl true .str), .cell (.int .i64)]⟩ ⟨[(3, false)], [.cell (.sl true .str)]⟩ B_laws_toStringS_1
def F_laws_toStringS : TF := ⟨(.seq (.reg none [.p (.mvN 2 1) .unit])
 (.seq (.reg none [.p (.mv 5 (.t 0)) .unit,
  .p (.lenB 6 (.t 5)) .unit,
  .p (.mkS 7 16 [(.lit (.string (ba [])))] (.t 6) (.t 6)) .str,
  .p (.mvT 3 7) .unit])
 (.seq (.seq (.reg none [.p (.mv 4 (.c (.int .i64 0))) .unit])
 (.jl 0 ⟨[(0, true), (3, false), (4, false)], [.cell (.sl false .str), .cell (.sl true .str), .cell (.int .i64)]⟩ ⟨[(3, false)], [.cell (.sl true .str)]⟩ B_laws_toStringS_1))
 (.seq (.reg none [.p (.mvT 21 3) .unit,
  .p (.mvT 2 21) .unit])
 .ret)))),
 22, 1, [.t 2]⟩
theorem m_laws_toStringS : mH Tryd.prog 41 [(1, 3, .t), (5, 0, .v), (6, 0, .t), (6, 1, .t)] = some (F_laws_toStringS.code.x, F_laws_toStringS.N, F_laws_toStringS.np, F_laws_toStringS.res) := by kernel_rfl
noncomputable def T_laws_toStringS : List (List UInt8) → Option (List (List UInt8)) := evF [] F_laws_toStringS [.cell (.sl false .str)] [] [.cell (.sl true .str)] []
noncomputable def fn_laws_toStringS : TFn := ⟨41, [.cell (.sl false .str)], [], [.cell (.sl true .str)], [], T_laws_toStringS⟩
theorem ok_laws_toStringS : FnOk Tryd.prog fn_laws_toStringS := evF_ok mixed allOk_nil m_laws_toStringS (by decide)
def F_laws_toGroup : TF := ⟨(.seq (.reg none [.p (.box 1 (.t 0)) .unit,
  .p (.alloc 2 [(.lit (.string (ba []))), (.sl true 1 [])]) .unit])
 (.seq (.reg none [.p (.alloc 3 [(.lit (.string (ba []))), (.sl true 1 [])]) .unit])
 (.seq (.reg none [.p (.fadr 4 (.t 1) 0) .unit,
  .p (.load 5 (.t 4) 1 false) .unit,
  .p (.fadr 6 (.t 3) 0) .unit,
  .p (.store (.t 6) (.t 5) 1) .unit])
 (.seq (.reg none [.p (.fadr 7 (.t 1) 1) .unit,
  .p (.load 8 (.t 7) 1 false) .unit,
  .p (.callB 9 n_laws_toStringS [((.t 8), 0)]) .unit,
  .p (.fadr 10 (.t 3) 1) .unit,
  .p (.storeT (.t 10) 9 1) .unit])
 (.seq (.reg none [.p (.loadT 11 (.t 3) 2 true) .unit,
  .p (.storeT (.t 2) 11 2) .unit])
 .ret))))),
 12, 1, [.c 2 2 true]⟩
theorem m_laws_toGroup : mH Tryd.prog 63 [(3, 4, .t), (4, 0, .t), (4, 1, .t)] = some (F_laws_toGroup.code.x, F_laws_toGroup.N, F_laws_toGroup.np, F_laws_toGroup.res) := by kernel_rfl
noncomputable def T_laws_toGroup : List UInt8 × List (List UInt8) → Option (List UInt8 × List (List UInt8)) := evF [fn_laws_toStringS] F_laws_toGroup [.agg (.pair .str (.sl false .str))] [] [.agg (.pair .str (.sl true .str))] []
noncomputable def fn_laws_toGroup : TFn := ⟨63, [.agg (.pair .str (.sl false .str))], [], [.agg (.pair .str (.sl true .str))], [], T_laws_toGroup⟩
theorem ok_laws_toGroup : FnOk Tryd.prog fn_laws_toGroup := evF_ok mixed (allOk_cons ok_laws_toStringS allOk_nil) m_laws_toGroup (by decide)
def B_laws_toGroupS_1 : TC := (.seq (.seq (.reg none [.p (.mv 8 (.t 4)) .unit,
  .p (.mv 9 (.t 0)) .unit,
  .p (.lenB 10 (.t 9)) .unit,
  .p (.bin 11 false .lss (.t 8) (.t 10)) .unit])
 (.cond (.t 11) .skip (.exit 0)))
 (.seq (.block 1 (.reg none [.p (.mvA 14 3) .unit,
  .p (.mv 15 (.t 4)) .unit,
  .p (.mv 16 (.t 0)) .unit,
  .p (.mv 17 (.t 4)) .unit,
  .p (.iadr 18 2 (.t 16) (.t 17)) .unit,
  .p (.load 19 (.t 18) 2 true) .unit,
  .p (.callB 20 n_laws_toGroup [((.t 19), 0)]) .unit,
  .p (.iadr 21 2 (.t 14) (.t 15)) .unit,
  .p (.storeT (.t 21) 20 2) .unit]))
 (.reg none [.p (.mv 12 (.t 4)) .unit,
  .p (.bin 13 false .add (.t 12) (.c (.int .i64 1))) .unit,
  .p (.mv 4 (.t 13)) .unit])))
noncomputable def L_laws_toGroupS_1 : Nat → (List (List UInt8 × List (List UInt8))) × (List (List UInt8 × List (List UInt8))) × Int → Option ((List (List UInt8 × List (List UInt8))) ⊕ (List (List UInt8 × List (List UInt8)))) := evL [fn_laws_toGroup] (finT [.t 2] [] [.cell (.sl true (.pair .str (.sl true .str)))]) 0 ⟨[(0, true), (3, false), (4, false)], [.cell (.sl false (.pair .str (.sl false .str))), .cell (.sl true (.pair .str (.sl true .str))), .cell (.int .i64)]⟩ ⟨[(3, false)], [.cell (.sl true (.pair .str (.sl true .str)))]⟩ B_laws_toGroupS_1
def F_laws_toGroupS : TF := ⟨(.seq (.reg none [.p (.mvN 2 2) .unit])
 (.seq (.reg none [.p (.mv 5 (.t 0)) .unit,
  .p (.lenB 6 (.t 5)) .unit,
  .p (.mkS 7 40 [(.lit (.string (ba []))), (.sl true 1 [])] (.t 6) (.t 6)) (.pair .str (.sl true .str)),
  .p (.mvT 3 7) .unit])
 (.seq (.seq (.reg none [.p (.mv 4 (.c (.int .i64 0))) .unit])
 (.jl 0 ⟨[(0, true), (3, false), (4, false)], [.cell (.sl false (.pair .str (.sl false .str))), .cell (.sl true (.pair .str (.sl true .str))), .cell (.int .i64)]⟩ ⟨[(3, false)], [.cell (.sl true (.pair .str (.sl true .str)))]⟩ B_laws_toGroupS_1))
 (.seq (.reg none [.p (.mvT 22 3) .unit,
  .p (.mvT 2 22) .unit])
 .ret)))),
 23, 1, [.t 2]⟩
theorem m_laws_toGroupS : mH Tryd.prog 48 [(1, 3, .t), (5, 0, .v), (5, 8, .t), (6, 0, .t), (6, 1, .t)] = some (F_laws_toGroupS.code.x, F_laws_toGroupS.N, F_laws_toGroupS.np, F_laws_toGroupS.res) := by kernel_rfl
noncomputable def T_laws_toGroupS : List (List UInt8 × List (List UInt8)) → Option (List (List UInt8 × List (List UInt8))) := evF [fn_laws_toGroup] F_laws_toGroupS [.cell (.sl false (.pair .str (.sl false .str)))] [] [.cell (.sl true (.pair .str (.sl true .str)))] []
noncomputable def fn_laws_toGroupS : TFn := ⟨48, [.cell (.sl false (.pair .str (.sl false .str)))], [], [.cell (.sl true (.pair .str (.sl true .str)))], [], T_laws_toGroupS⟩
theorem ok_laws_toGroupS : FnOk Tryd.prog fn_laws_toGroupS := evF_ok mixed (allOk_cons ok_laws_toGroup allOk_nil) m_laws_toGroupS (by decide)
def F_laws_toTable : TF := ⟨(.seq (.reg none [.p (.box 1 (.t 0)) .unit,
  .p (.alloc 2 [(.sl true 2 [])]) .unit])
 (.seq (.reg none [.p (.alloc 3 [(.sl true 2 [])]) .unit])
 (.seq (.reg none [.p (.fadr 4 (.t 1) 0) .unit,
  .p (.load 5 (.t 4) 1 false) .unit,
  .p (.callB 6 n_laws_toGroupS [((.t 5), 0)]) .unit,
  .p (.fadr 7 (.t 3) 0) .unit,
  .p (.storeT (.t 7) 6 1) .unit])
 (.seq (.reg none [.p (.loadT 8 (.t 3) 1 true) .unit,
  .p (.storeT (.t 2) 8 1) .unit])
 .ret)))),
 9, 1, [.c 2 1 true]⟩
theorem m_laws_toTable : mH Tryd.prog 19 [(2, 4, .t), (3, 0, .t), (3, 1, .t)] = some (F_laws_toTable.code.x, F_laws_toTable.N, F_laws_toTable.np, F_laws_toTable.res) := by kernel_rfl
noncomputable def T_laws_toTable : List (List UInt8 × List (List UInt8)) → Option (List (List UInt8 × List (List UInt8))) := evF [fn_laws_toGroupS] F_laws_toTable [.agg (.sl false (.pair .str (.sl false .str)))] [] [.agg (.sl true (.pair .str (.sl true .str)))] []
noncomputable def fn_laws_toTable : TFn := ⟨19, [.agg (.sl false (.pair .str (.sl false .str)))], [], [.agg (.sl true (.pair .str (.sl true .str)))], [], T_laws_toTable⟩
theorem ok_laws_toTable : FnOk Tryd.prog fn_laws_toTable := evF_ok mixed (allOk_cons ok_laws_toGroupS allOk_nil) m_laws_toTable (by decide)
def F_spec_l01In : TF := ⟨(.seq (.reg none [.p (.mv 6 (.c (.bool false))) .unit])
 (.seq (.reg none [.p (.mv 7 (.t 0)) .unit,
  .p (.mv 8 (.t 1)) .unit,
  .p (.bin 9 false .geq (.t 7) (.t 8)) .unit,
  .p (.mv 10 (.t 9)) .unit,
  .g 10 true (some 11) (.mv 11 (.t 0)) .unit,
  .g 10 true (some 12) (.mv 12 (.t 2)) .unit,
  .g 10 true (some 13) (.bin 13 false .leq (.t 11) (.t 12)) .unit,
  .p (.pick 14 (.t 10) (.t 13) (.c (.bool false))) .unit,
  .p (.mv 6 (.t 14)) .unit])
 .ret)),
 15, 3, [.t 6]⟩
theorem m_spec_l01In : mH Tryd.prog 38 [] = some (F_spec_l01In.code.x, F_spec_l01In.N, F_spec_l01In.np, F_spec_l01In.res) := by kernel_rfl
noncomputable def T_spec_l01In : (Int) × (Int) × Int → Option (Bool) := evF [] F_spec_l01In [.cell (.int .i64), .cell (.int .i64), .cell (.int .i64)] [] [.cell .bool] []
noncomputable def fn_spec_l01In : TFn := ⟨38, [.cell (.int .i64), .cell (.int .i64), .cell (.int .i64)], [], [.cell .bool], [], T_spec_l01In⟩
theorem ok_spec_l01In : FnOk Tryd.prog fn_spec_l01In := evF_ok mixed allOk_nil m_spec_l01In (by decide)
def B_spec_NameOk_1 : TC := (.seq (.seq (.reg none [.p (.mv 18 (.t 3)) .unit,
  .p (.mv 19 (.t 0)) .unit,
  .p (.lenS 20 (.t 19)) .unit,
  .p (.bin 21 false .lss (.t 18) (.t 20)) .unit])
 (.cond (.t 21) .skip (.exit 0)))
 (.seq (.block 1 (.seq (.join ⟨[(0, true), (3, false), (45, false)], [.cell .str, .cell (.int .i64), .cell .bool]⟩ (.reg none [.p (.mv 24 (.t 0)) .unit,
  .p (.mv 25 (.t 3)) .unit,
  .p (.idx 26 (.t 24) (.t 25)) .unit,
  .p (.bin 27 false .lss (.t 26) (.c (.int .u8 97))) .unit,
  .p (.mv 28 (.t 27)) .unit,
  .g 28 false (some 29) (.mv 29 (.t 0)) .unit,
  .g 28 false (some 30) (.mv 30 (.t 3)) .unit,
  .g 28 false (some 31) (.idx 31 (.t 29) (.t 30)) .unit,
  .g 28 false (some 32) (.bin 32 false .gtr (.t 31) (.c (.int .u8 122))) .unit,
  .p (.pick 33 (.t 28) (.c (.bool true)) (.t 32)) .unit,
  .p (.mv 34 (.t 33)) .unit,
  .g 34 true (some 35) (.mv 35 (.t 0)) .unit,
  .g 34 true (some 36) (.mv 36 (.t 3)) .unit,
  .g 34 true (some 37) (.idx 37 (.t 35) (.t 36)) .unit,
  .g 34 true (some 38) (.bin 38 false .lss (.t 37) (.c (.int .u8 48))) .unit,
  .g 34 true (some 39) (.mv 39 (.t 38)) .unit,
  .g 39 false (some 40) (.mv 40 (.t 0)) .unit,
  .g 39 false (some 41) (.mv 41 (.t 3)) .unit,
  .g 39 false (some 42) (.idx 42 (.t 40) (.t 41)) .unit,
  .g 39 false (some 43) (.bin 43 false .gtr (.t 42) (.c (.int .u8 57))) .unit,
  .g 34 true (some 44) (.pick 44 (.t 39) (.c (.bool true)) (.t 43)) .unit,
  .p (.pick 45 (.t 34) (.t 44) (.c (.bool false))) .unit]))
 (.cond (.t 45) (.seq (.reg none [.p (.mv 2 (.c (.bool false))) .unit])
 .ret) .skip)))
 (.reg none [.p (.mv 22 (.t 3)) .unit,
  .p (.bin 23 false .add (.t 22) (.c (.int .i64 1))) .unit,
  .p (.mv 3 (.t 23)) .unit])))
noncomputable def L_spec_NameOk_1 : Nat → (List UInt8) × Int → Option ((Unit) ⊕ (Bool)) := evL [fn_spec_l01In] (finT [.t 2] [] [.cell .bool]) 0 ⟨[(0, true), (3, false)], [.cell .str, .cell (.int .i64)]⟩ ⟨[], []⟩ B_spec_NameOk_1
def F_spec_NameOk : TF := ⟨(.seq (.reg none [.p (.mv 2 (.c (.bool false))) .unit])
 (.seq (.seq (.join ⟨[(0, true), (17, false)], [.cell .str, .cell .bool]⟩ (.reg none [.p (.mv 4 (.t 0)) .unit,
  .p (.lenS 5 (.t 4)) .unit,
  .p (.callB 6 n_spec_l01In [((.t 5), 0), ((.c (.int .i64 1)), 0), ((.c (.int .i64 12)), 0)]) .unit,
  .p (.un 7 .not (.t 6)) .unit,
  .p (.mv 8 (.t 7)) .unit,
  .g 8 false (some 9) (.mv 9 (.t 0)) .unit,
  .g 8 false (some 10) (.idx 10 (.t 9) (.c (.int .i64 0))) .unit,
  .g 8 false (some 11) (.bin 11 false .lss (.t 10) (.c (.int .u8 97))) .unit,
  .p (.pick 12 (.t 8) (.c (.bool true)) (.t 11)) .unit,
  .p (.mv 13 (.t 12)) .unit,
  .g 13 false (some 14) (.mv 14 (.t 0)) .unit,
  .g 13 false (some 15) (.idx 15 (.t 14) (.c (.int .i64 0))) .unit,
  .g 13 false (some 16) (.bin 16 false .gtr (.t 15) (.c (.int .u8 122))) .unit,
  .p (.pick 17 (.t 13) (.c (.bool true)) (.t 16)) .unit]))
 (.cond (.t 17) (.seq (.reg none [.p (.mv 2 (.c (.bool false))) .unit])
 .ret) .skip))
 (.seq (.seq (.reg none [.p (.mv 3 (.c (.int .i64 0))) .unit])
 (.jl 0 ⟨[(0, true), (3, false)], [.cell .str, .cell (.int .i64)]⟩ ⟨[], []⟩ B_spec_NameOk_1))
 (.seq (.reg none [.p (.mv 2 (.c (.bool true))) .unit])
 .ret)))),
 46, 1, [.t 2]⟩
theorem m_spec_NameOk : mH Tryd.prog 47 [] = some (F_spec_NameOk.code.x, F_spec_NameOk.N, F_spec_NameOk.np, F_spec_NameOk.res) := by kernel_rfl
noncomputable def T_spec_NameOk : List UInt8 → Option (Bool) := evF [fn_spec_l01In] F_spec_NameOk [.cell .str] [] [.cell .bool] []
noncomputable def fn_spec_NameOk : TFn := ⟨47, [.cell .str], [], [.cell .bool], [], T_spec_NameOk⟩
theorem ok_spec_NameOk : FnOk Tryd.prog fn_spec_NameOk := evF_ok mixed (allOk_cons ok_spec_l01In allOk_nil) m_spec_NameOk (by decide)
def F_spec_SplitPrivate : TF := ⟨(.seq (.reg none [.p (.mv 2 (.c (.int .i64 0))) .unit,
  .p (.mv 3 (.c (.string (ba [])))) .unit,
  .p (.mv 4 (.c (.bool false))) .unit])
 (.seq (.seq (.join ⟨[(0, true), (33, false)], [.cell .str, .cell .bool]⟩ (.reg none [.p (.mv 5 (.t 0)) .unit,
  .p (.lenS 6 (.t 5)) .unit,
  .p (.bin 7 false .lss (.t 6) (.c (.int .i64 4))) .unit,
  .p (.mv 8 (.t 7)) .unit,
  .g 8 false (some 9) (.mv 9 (.t 0)) .unit,
  .g 8 false (some 10) (.idx 10 (.t 9) (.c (.int .i64 0))) .unit,
  .g 8 false (some 11) (.bin 11 false .neq (.t 10) (.c (.int .u8 35))) .unit,
  .p (.pick 12 (.t 8) (.c (.bool true)) (.t 11)) .unit,
  .p (.mv 13 (.t 12)) .unit,
  .g 13 false (some 14) (.mv 14 (.t 0)) .unit,
  .g 13 false (some 15) (.idx 15 (.t 14) (.c (.int .i64 2))) .unit,
  .g 13 false (some 16) (.bin 16 false .neq (.t 15) (.c (.int .u8 35))) .unit,
  .p (.pick 17 (.t 13) (.c (.bool true)) (.t 16)) .unit,
  .p (.mv 18 (.t 17)) .unit,
  .g 18 false (some 19) (.mv 19 (.t 0)) .unit,
  .g 18 false (some 20) (.idx 20 (.t 19) (.c (.int .i64 1))) .unit,
  .g 18 false (some 21) (.bin 21 false .lss (.t 20) (.c (.int .u8 49))) .unit,
  .p (.pick 22 (.t 18) (.c (.bool true)) (.t 21)) .unit,
  .p (.mv 23 (.t 22)) .unit,
  .g 23 false (some 24) (.mv 24 (.t 0)) .unit,
  .g 23 false (some 25) (.idx 25 (.t 24) (.c (.int .i64 1))) .unit,
  .g 23 false (some 26) (.bin 26 false .gtr (.t 25) (.c (.int .u8 57))) .unit,
  .p (.pick 27 (.t 23) (.c (.bool true)) (.t 26)) .unit,
  .p (.mv 28 (.t 27)) .unit,
  .g 28 false (some 29) (.mv 29 (.t 0)) .unit,
  .g 28 false (some 30) (.slcS 30 (.t 29) (some (.c (.int .i64 3))) none) .unit,
  .g 28 false (some 31) (.callB 31 n_spec_NameOk [((.t 30), 0)]) .unit,
  .g 28 false (some 32) (.un 32 .not (.t 31)) .unit,
  .p (.pick 33 (.t 28) (.c (.bool true)) (.t 32)) .unit]))
 (.cond (.t 33) (.seq (.reg none [.p (.mv 2 (.c (.int .i64 0))) .unit,
  .p (.mv 3 (.c (.string (ba [])))) .unit,
  .p (.mv 4 (.c (.bool false))) .unit])
 .ret) .skip))
 (.seq (.reg (some [[], [0], [1], [2], [], [4], [3, 0, 1, 2, 3], [5, 6, 0, 1, 2, 3, 4, 5, 6], [7, 0, 1, 2, 3, 4, 5, 6, 7]]) [.p (.mv 34 (.t 0)) .unit,
  .p (.idx 35 (.t 34) (.c (.int .i64 1))) .unit,
  .p (.cvi 36 .i64 .u8 (.t 35)) .unit,
  .p (.bin 37 false .sub (.t 36) (.c (.int .i64 48))) .unit,
  .p (.mv 38 (.t 0)) .unit,
  .p (.slcS 39 (.t 38) (some (.c (.int .i64 3))) none) .unit,
  .p (.mv 2 (.t 37)) .unit,
  .p (.mv 3 (.t 39)) .unit,
  .p (.mv 4 (.c (.bool true))) .unit])
 .ret))),
 40, 1, [.t 2, .t 3, .t 4]⟩
theorem m_spec_SplitPrivate : mH Tryd.prog 60 [] = some (F_spec_SplitPrivate.code.x, F_spec_SplitPrivate.N, F_spec_SplitPrivate.np, F_spec_SplitPrivate.res) := by kernel_rfl
noncomputable def T_spec_SplitPrivate : List UInt8 → Option ((Int) × (List UInt8) × Bool) := evF [fn_spec_NameOk] F_spec_SplitPrivate [.cell .str] [] [.cell (.int .i64), .cell .str, .cell .bool] []
noncomputable def fn_spec_SplitPrivate : TFn := ⟨60, [.cell .str], [], [.cell (.int .i64), .cell .str, .cell .bool], [], T_spec_SplitPrivate⟩
theorem ok_spec_SplitPrivate : FnOk Tryd.prog fn_spec_SplitPrivate := evF_ok mixed (allOk_cons ok_spec_NameOk allOk_nil) m_spec_SplitPrivate (by decide)
def F_spec_l17Private : TF := ⟨(.seq (.reg none [.p (.mv 2 (.c (.bool false))) .unit])
 (.seq (.reg none [.p (.mv 7 (.t 0)) .unit,
  .p (.callB 8 n_spec_SplitPrivate [((.t 7), 0)]) .unit,
  .p (.mv 6 (.t 8)) .unit,
  .p (.ext 9 (.t 6) 0) .unit,
  .p (.ext 10 (.t 6) 1) .unit,
  .p (.ext 11 (.t 6) 2) .unit,
  .p (.mv 3 (.t 9)) .unit,
  .p (.mv 4 (.t 10)) .unit,
  .p (.mv 5 (.t 11)) .unit])
 (.seq (.reg none [.p (.mv 12 (.t 5)) .unit,
  .p (.mv 2 (.t 12)) .unit])
 .ret))),
 13, 1, [.t 2]⟩
theorem m_spec_l17Private : mH Tryd.prog 39 [] = some (F_spec_l17Private.code.x, F_spec_l17Private.N, F_spec_l17Private.np, F_spec_l17Private.res) := by kernel_rfl
noncomputable def T_spec_l17Private : List UInt8 → Option (Bool) := evF [fn_spec_SplitPrivate] F_spec_l17Private [.cell .str] [] [.cell .bool] []
noncomputable def fn_spec_l17Private : TFn := ⟨39, [.cell .str], [], [.cell .bool], [], T_spec_l17Private⟩
theorem ok_spec_l17Private : FnOk Tryd.prog fn_spec_l17Private := evF_ok mixed (allOk_cons ok_spec_SplitPrivate allOk_nil) m_spec_l17Private (by decide)
def B_spec_TableOk_1 : TC := (.seq (.seq (.reg none [.p (.mv 49 (.t 5)) .unit,
  .p (.fadr 50 (.t 4) 1) .unit,
  .p (.load 51 (.t 50) 1 false) .unit,
  .p (.lenB 52 (.t 51)) .unit,
  .p (.bin 53 false .lss (.t 49) (.t 52)) .unit])
 (.cond (.t 53) .skip (.exit 2)))
 (.seq (.block 3 (.seq (.join ⟨[(1, false), (3, false), (4, false), (5, false), (80, false)], [.box (.sl false (.pair .str (.sl false .str))), .cell (.int .i64), .box (.pair .str (.sl false .str)), .cell (.int .i64), .cell .bool]⟩ (.reg (some [[], [0], [], [1, 2], [3], [4], [5], [6, 5], [7], [8, 7], [9, 7, 7], [10], [11, 10], [10], [13, 10], [12, 14, 10], [15, 10], [10], [17, 10], [10], [18, 19, 10], [20, 10], [16, 21, 10], [10, 22, 7], [7, 23]]) [.p (.fadr 56 (.t 4) 1) .unit,
  .p (.load 57 (.t 56) 1 false) .unit,
  .p (.mv 58 (.t 5)) .unit,
  .p (.iadr 59 1 (.t 57) (.t 58)) .unit,
  .p (.load 60 (.t 59) 1 false) .unit,
  .p (.callB 61 n_spec_l17Private [((.t 60), 0)]) .unit,
  .p (.un 62 .not (.t 61)) .unit,
  .p (.mv 63 (.t 62)) .unit,
  .g 63 false (some 64) (.mv 64 (.t 5)) .unit,
  .g 63 false (some 65) (.bin 65 false .gtr (.t 64) (.c (.int .i64 0))) .unit,
  .g 63 false (some 66) (.mv 66 (.t 65)) .unit,
  .g 66 true (some 67) (.fadr 67 (.t 4) 1) .unit,
  .g 66 true (some 68) (.load 68 (.t 67) 1 false) .unit,
  .g 66 true (some 69) (.mv 69 (.t 5)) .unit,
  .g 66 true (some 70) (.bin 70 false .sub (.t 69) (.c (.int .i64 1))) .unit,
  .g 66 true (some 71) (.iadr 71 1 (.t 68) (.t 70)) .unit,
  .g 66 true (some 72) (.load 72 (.t 71) 1 false) .unit,
  .g 66 true (some 73) (.fadr 73 (.t 4) 1) .unit,
  .g 66 true (some 74) (.load 74 (.t 73) 1 false) .unit,
  .g 66 true (some 75) (.mv 75 (.t 5)) .unit,
  .g 66 true (some 76) (.iadr 76 1 (.t 74) (.t 75)) .unit,
  .g 66 true (some 77) (.load 77 (.t 76) 1 false) .unit,
  .g 66 true (some 78) (.bin 78 false .geq (.t 72) (.t 77)) .unit,
  .g 63 false (some 79) (.pick 79 (.t 66) (.t 78) (.c (.bool false))) .unit,
  .p (.pick 80 (.t 63) (.c (.bool true)) (.t 79)) .unit]))
 (.cond (.t 80) (.seq (.reg none [.p (.mv 2 (.c (.bool false))) .unit])
 .ret) .skip)))
 (.reg none [.p (.mv 54 (.t 5)) .unit,
  .p (.bin 55 false .add (.t 54) (.c (.int .i64 1))) .unit,
  .p (.mv 5 (.t 55)) .unit])))
noncomputable def L_spec_TableOk_1 : Nat → (List (List UInt8 × List (List UInt8))) × (Int) × (List UInt8 × List (List UInt8)) × Int → Option (((List (List UInt8 × List (List UInt8))) × Int) ⊕ (Bool)) := evL [fn_spec_NameOk, fn_spec_l01In, fn_spec_l17Private] (finT [.t 2] [] [.cell .bool]) 2 ⟨[(1, false), (3, false), (4, false), (5, false)], [.box (.sl false (.pair .str (.sl false .str))), .cell (.int .i64), .box (.pair .str (.sl false .str)), .cell (.int .i64)]⟩ ⟨[(1, false), (3, false)], [.box (.sl false (.pair .str (.sl false .str))), .cell (.int .i64)]⟩ B_spec_TableOk_1
def B_spec_TableOk_2 : TC := (.seq (.seq (.reg none [.p (.mv 10 (.t 3)) .unit,
  .p (.fadr 11 (.t 1) 0) .unit,
  .p (.load 12 (.t 11) 1 false) .unit,
  .p (.lenB 13 (.t 12)) .unit,
  .p (.bin 14 false .lss (.t 10) (.t 13)) .unit])
 (.cond (.t 14) .skip (.exit 0)))
 (.seq (.block 1 (.seq (.reg none [.p (.fadr 17 (.t 1) 0) .unit,
  .p (.load 18 (.t 17) 1 false) .unit,
  .p (.mv 19 (.t 3)) .unit,
  .p (.iadr 20 2 (.t 18) (.t 19)) .unit,
  .p (.load 21 (.t 20) 2 true) .unit,
  .p (.alloc 4 [(.lit (.string (ba []))), (.sl true 1 [])]) .unit,
  .p (.store (.t 4) (.t 21) 2) .unit])
 (.seq (.seq (.join ⟨[(1, false), (3, false), (4, false), (48, false)], [.box (.sl false (.pair .str (.sl false .str))), .cell (.int .i64), .box (.pair .str (.sl false .str)), .cell .bool]⟩ (.reg (some [[], [0], [1], [2], [3, 2], [4], [5, 4], [6, 4, 4], [7], [8, 7], [7], [10, 7], [9, 11, 7], [12, 7], [13, 7], [7], [15, 7], [14, 16, 7], [7, 17, 4], [4, 18], [19, 7], [20], [21, 20], [22, 20], [23, 20, 20], [24, 20], [20, 25]]) [.p (.fadr 22 (.t 4) 0) .unit,
  .p (.load 23 (.t 22) 1 false) .unit,
  .p (.callB 24 n_spec_NameOk [((.t 23), 0)]) .unit,
  .p (.un 25 .not (.t 24)) .unit,
  .p (.mv 26 (.t 25)) .unit,
  .g 26 false (some 27) (.mv 27 (.t 3)) .unit,
  .g 26 false (some 28) (.bin 28 false .gtr (.t 27) (.c (.int .i64 0))) .unit,
  .g 26 false (some 29) (.mv 29 (.t 28)) .unit,
  .g 29 true (some 30) (.fadr 30 (.t 1) 0) .unit,
  .g 29 true (some 31) (.load 31 (.t 30) 1 false) .unit,
  .g 29 true (some 32) (.mv 32 (.t 3)) .unit,
  .g 29 true (some 33) (.bin 33 false .sub (.t 32) (.c (.int .i64 1))) .unit,
  .g 29 true (some 34) (.iadr 34 2 (.t 31) (.t 33)) .unit,
  .g 29 true (some 35) (.fadr 35 (.t 34) 0) .unit,
  .g 29 true (some 36) (.load 36 (.t 35) 1 false) .unit,
  .g 29 true (some 37) (.fadr 37 (.t 4) 0) .unit,
  .g 29 true (some 38) (.load 38 (.t 37) 1 false) .unit,
  .g 29 true (some 39) (.bin 39 false .geq (.t 36) (.t 38)) .unit,
  .g 26 false (some 40) (.pick 40 (.t 29) (.t 39) (.c (.bool false))) .unit,
  .p (.pick 41 (.t 26) (.c (.bool true)) (.t 40)) .unit,
  .p (.mv 42 (.t 41)) .unit,
  .g 42 false (some 43) (.fadr 43 (.t 4) 1) .unit,
  .g 42 false (some 44) (.load 44 (.t 43) 1 false) .unit,
  .g 42 false (some 45) (.lenB 45 (.t 44)) .unit,
  .g 42 false (some 46) (.callB 46 n_spec_l01In [((.t 45), 0), ((.c (.int .i64 1)), 0), ((.c (.int .i64 8)), 0)]) .unit,
  .g 42 false (some 47) (.un 47 .not (.t 46)) .unit,
  .p (.pick 48 (.t 42) (.c (.bool true)) (.t 47)) .unit]))
 (.cond (.t 48) (.seq (.reg none [.p (.mv 2 (.c (.bool false))) .unit])
 .ret) .skip))
 (.seq (.reg none [.p (.mv 5 (.c (.int .i64 0))) .unit])
 (.jl 2 ⟨[(1, false), (3, false), (4, false), (5, false)], [.box (.sl false (.pair .str (.sl false .str))), .cell (.int .i64), .box (.pair .str (.sl false .str)), .cell (.int .i64)]⟩ ⟨[(1, false), (3, false)], [.box (.sl false (.pair .str (.sl false .str))), .cell (.int .i64)]⟩ B_spec_TableOk_1)))))
 (.reg none [.p (.mv 15 (.t 3)) .unit,
  .p (.bin 16 false .add (.t 15) (.c (.int .i64 1))) .unit,
  .p (.mv 3 (.t 16)) .unit])))
noncomputable def L_spec_TableOk_2 : Nat → (List (List UInt8 × List (List UInt8))) × Int → Option ((Unit) ⊕ (Bool)) := evL [fn_spec_NameOk, fn_spec_l01In, fn_spec_l17Private] (finT [.t 2] [] [.cell .bool]) 0 ⟨[(1, false), (3, false)], [.box (.sl false (.pair .str (.sl false .str))), .cell (.int .i64)]⟩ ⟨[], []⟩ B_spec_TableOk_2
def F_spec_TableOk : TF := ⟨(.seq (.reg none [.p (.box 1 (.t 0)) .unit,
  .p (.mv 2 (.c (.bool false))) .unit])
 (.seq (.seq (.reg none [.p (.fadr 6 (.t 1) 0) .unit,
  .p (.load 7 (.t 6) 1 false) .unit,
  .p (.lenB 8 (.t 7)) .unit,
  .p (.bin 9 false .gtr (.t 8) (.c (.int .i64 6))) .unit])
 (.cond (.t 9) (.seq (.reg none [.p (.mv 2 (.c (.bool false))) .unit])
 .ret) .skip))
 (.seq (.seq (.reg none [.p (.mv 3 (.c (.int .i64 0))) .unit])
 (.jl 0 ⟨[(1, false), (3, false)], [.box (.sl false (.pair .str (.sl false .str))), .cell (.int .i64)]⟩ ⟨[], []⟩ B_spec_TableOk_2))
 (.seq (.reg none [.p (.mv 2 (.c (.bool true))) .unit])
 .ret)))),
 81, 1, [.t 2]⟩
theorem m_spec_TableOk : mH Tryd.prog 18 [] = some (F_spec_TableOk.code.x, F_spec_TableOk.N, F_spec_TableOk.np, F_spec_TableOk.res) := by kernel_rfl
noncomputable def T_spec_TableOk : List (List UInt8 × List (List UInt8)) → Option (Bool) := evF [fn_spec_NameOk, fn_spec_l01In, fn_spec_l17Private] F_spec_TableOk [.agg (.sl false (.pair .str (.sl false .str)))] [] [.cell .bool] []
noncomputable def fn_spec_TableOk : TFn := ⟨18, [.agg (.sl false (.pair .str (.sl false .str)))], [], [.cell .bool], [], T_spec_TableOk⟩
theorem ok_spec_TableOk : FnOk Tryd.prog fn_spec_TableOk := evF_ok mixed (allOk_cons ok_spec_NameOk (allOk_cons ok_spec_l01In (allOk_cons ok_spec_l17Private allOk_nil))) m_spec_TableOk (by decide)
def F_impl_inRange : TF := ⟨(.seq (.reg none [.p (.mv 6 (.c (.bool false))) .unit])
 (.seq (.reg none [.p (.mv 7 (.t 0)) .unit,
  .p (.mv 8 (.t 1)) .unit,
  .p (.bin 9 false .geq (.t 7) (.t 8)) .unit,
  .p (.mv 10 (.t 9)) .unit,
  .g 10 true (some 11) (.mv 11 (.t 0)) .unit,
  .g 10 true (some 12) (.mv 12 (.t 2)) .unit,
  .g 10 true (some 13) (.bin 13 false .leq (.t 11) (.t 12)) .unit,
  .p (.pick 14 (.t 10) (.t 13) (.c (.bool false))) .unit,
  .p (.mv 6 (.t 14)) .unit])
 .ret)),
 15, 3, [.t 6]⟩
theorem m_impl_inRange : mH Tryd.prog 44 [] = some (F_impl_inRange.code.x, F_impl_inRange.N, F_impl_inRange.np, F_impl_inRange.res) := by kernel_rfl
noncomputable def T_impl_inRange : (Int) × (Int) × Int → Option (Bool) := evF [] F_impl_inRange [.cell (.int .i64), .cell (.int .i64), .cell (.int .i64)] [] [.cell .bool] []
noncomputable def fn_impl_inRange : TFn := ⟨44, [.cell (.int .i64), .cell (.int .i64), .cell (.int .i64)], [], [.cell .bool], [], T_impl_inRange⟩
theorem ok_impl_inRange : FnOk Tryd.prog fn_impl_inRange := evF_ok mixed allOk_nil m_impl_inRange (by decide)
def B_impl_NameOk_1 : TC := (.seq (.seq (.reg none [.p (.mv 5 (.t 3)) .unit,
  .p (.mv 6 (.t 0)) .unit,
  .p (.lenS 7 (.t 6)) .unit,
  .p (.bin 8 false .lss (.t 5) (.t 7)) .unit])
 (.cond (.t 8) .skip (.exit 0)))
 (.seq (.block 1 (.seq (.join ⟨[(0, true), (3, false), (4, false)], [.cell .str, .cell (.int .i64), .cell .bool]⟩ (.reg none [.p (.mv 11 (.t 0)) .unit,
  .p (.mv 12 (.t 3)) .unit,
  .p (.idx 13 (.t 11) (.t 12)) .unit,
  .p (.bin 14 false .geq (.t 13) (.c (.int .u8 97))) .unit,
  .p (.mv 15 (.t 14)) .unit,
  .g 15 true (some 16) (.mv 16 (.t 0)) .unit,
  .g 15 true (some 17) (.mv 17 (.t 3)) .unit,
  .g 15 true (some 18) (.idx 18 (.t 16) (.t 17)) .unit,
  .g 15 true (some 19) (.bin 19 false .leq (.t 18) (.c (.int .u8 122))) .unit,
  .p (.pick 20 (.t 15) (.t 19) (.c (.bool false))) .unit,
  .p (.mv 4 (.t 20)) .unit]))
 (.seq (.join ⟨[(0, true), (3, false), (38, false)], [.cell .str, .cell (.int .i64), .cell .bool]⟩ (.reg none [.p (.mv 21 (.t 4)) .unit,
  .p (.un 22 .not (.t 21)) .unit,
  .p (.mv 23 (.t 22)) .unit,
  .g 23 true (some 24) (.mv 24 (.t 3)) .unit,
  .g 23 true (some 25) (.bin 25 false .eql (.t 24) (.c (.int .i64 0))) .unit,
  .g 23 true (some 26) (.mv 26 (.t 25)) .unit,
  .g 26 false (some 27) (.mv 27 (.t 0)) .unit,
  .g 26 false (some 28) (.mv 28 (.t 3)) .unit,
  .g 26 false (some 29) (.idx 29 (.t 27) (.t 28)) .unit,
  .g 26 false (some 30) (.bin 30 false .lss (.t 29) (.c (.int .u8 48))) .unit,
  .g 23 true (some 31) (.pick 31 (.t 26) (.c (.bool true)) (.t 30)) .unit,
  .g 23 true (some 32) (.mv 32 (.t 31)) .unit,
  .g 32 false (some 33) (.mv 33 (.t 0)) .unit,
  .g 32 false (some 34) (.mv 34 (.t 3)) .unit,
  .g 32 false (some 35) (.idx 35 (.t 33) (.t 34)) .unit,
  .g 32 false (some 36) (.bin 36 false .gtr (.t 35) (.c (.int .u8 57))) .unit,
  .g 23 true (some 37) (.pick 37 (.t 32) (.c (.bool true)) (.t 36)) .unit,
  .p (.pick 38 (.t 23) (.t 37) (.c (.bool false))) .unit]))
 (.cond (.t 38) (.seq (.reg none [.p (.mv 2 (.c (.bool false))) .unit])
 .ret) .skip))))
 (.reg none [.p (.mv 9 (.t 3)) .unit,
  .p (.bin 10 false .add (.t 9) (.c (.int .i64 1))) .unit,
  .p (.mv 3 (.t 10)) .unit])))
noncomputable def L_impl_NameOk_1 : Nat → (List UInt8) × Int → Option ((List UInt8) ⊕ (Bool)) := evL [fn_impl_inRange] (finT [.t 2] [] [.cell .bool]) 0 ⟨[(0, true), (3, false)], [.cell .str, .cell (.int .i64)]⟩ ⟨[(0, true)], [.cell .str]⟩ B_impl_NameOk_1
def F_impl_NameOk : TF := ⟨(.seq (.reg none [.p (.mv 2 (.c (.bool false))) .unit])
 (.seq (.seq (.reg none [.p (.mv 3 (.c (.int .i64 0))) .unit])
 (.jl 0 ⟨[(0, true), (3, false)], [.cell .str, .cell (.int .i64)]⟩ ⟨[(0, true)], [.cell .str]⟩ B_impl_NameOk_1))
 (.seq (.reg none [.p (.mv 39 (.t 0)) .unit,
  .p (.lenS 40 (.t 39)) .unit,
  .p (.callB 41 n_impl_inRange [((.t 40), 0), ((.c (.int .i64 1)), 0), ((.c (.int .i64 12)), 0)]) .unit,
  .p (.mv 2 (.t 41)) .unit])
 .ret))),
 42, 1, [.t 2]⟩
theorem m_impl_NameOk : mH Tryd.prog 49 [] = some (F_impl_NameOk.code.x, F_impl_NameOk.N, F_impl_NameOk.np, F_impl_NameOk.res) := by kernel_rfl
noncomputable def T_impl_NameOk : List UInt8 → Option (Bool) := evF [fn_impl_inRange] F_impl_NameOk [.cell .str] [] [.cell .bool] []
noncomputable def fn_impl_NameOk : TFn := ⟨49, [.cell .str], [], [.cell .bool], [], T_impl_NameOk⟩
theorem ok_impl_NameOk : FnOk Tryd.prog fn_impl_NameOk := evF_ok mixed (allOk_cons ok_impl_inRange allOk_nil) m_impl_NameOk (by decide)
def F_impl_Decimal : TF := ⟨(.seq (.reg none [.p (.mv 2 (.c (.string (ba [])))) .unit])
 (.seq (.reg none [.p (.mv 3 (.t 0)) .unit,
  .p (.callB 4 n_strconv_Itoa [((.t 3), 0)]) .unit,
  .p (.mv 2 (.t 4)) .unit])
 .ret)),
 5, 1, [.t 2]⟩
theorem m_impl_Decimal : mH Tryd.prog 32 [] = some (F_impl_Decimal.code.x, F_impl_Decimal.N, F_impl_Decimal.np, F_impl_Decimal.res) := by kernel_rfl
noncomputable def T_impl_Decimal : Int → Option (List UInt8) := evF [fn_strconv_Itoa] F_impl_Decimal [.cell (.int .i64)] [] [.cell .str] []
noncomputable def fn_impl_Decimal : TFn := ⟨32, [.cell (.int .i64)], [], [.cell .str], [], T_impl_Decimal⟩
theorem ok_impl_Decimal : FnOk Tryd.prog fn_impl_Decimal := evF_ok mixed (allOk_cons ok_strconv_Itoa allOk_nil) m_impl_Decimal (by decide)
def B_impl_ReadDecimal_1 : TC := (.seq (.seq (.reg none [.p (.mv 14 (.t 5)) .unit,
  .p (.mv 15 (.t 0)) .unit,
  .p (.lenS 16 (.t 15)) .unit,
  .p (.bin 17 false .lss (.t 14) (.t 16)) .unit])
 (.cond (.t 17) .skip (.exit 0)))
 (.seq (.block 1 (.seq (.seq (.join ⟨[(0, true), (4, false), (5, false), (29, false)], [.cell .str, .cell (.int .i64), .cell (.int .i64), .cell .bool]⟩ (.reg none [.p (.mv 20 (.t 0)) .unit,
  .p (.mv 21 (.t 5)) .unit,
  .p (.idx 22 (.t 20) (.t 21)) .unit,
  .p (.bin 23 false .lss (.t 22) (.c (.int .u8 48))) .unit,
  .p (.mv 24 (.t 23)) .unit,
  .g 24 false (some 25) (.mv 25 (.t 0)) .unit,
  .g 24 false (some 26) (.mv 26 (.t 5)) .unit,
  .g 24 false (some 27) (.idx 27 (.t 25) (.t 26)) .unit,
  .g 24 false (some 28) (.bin 28 false .gtr (.t 27) (.c (.int .u8 57))) .unit,
  .p (.pick 29 (.t 24) (.c (.bool true)) (.t 28)) .unit]))
 (.cond (.t 29) (.seq (.reg none [.p (.mv 2 (.c (.int .i64 0))) .unit,
  .p (.mv 3 (.c (.bool false))) .unit])
 .ret) .skip))
 (.reg none [.p (.mv 30 (.t 4)) .unit,
  .p (.bin 31 false .mul (.t 30) (.c (.int .i64 10))) .unit,
  .p (.mv 32 (.t 0)) .unit,
  .p (.mv 33 (.t 5)) .unit,
  .p (.idx 34 (.t 32) (.t 33)) .unit,
  .p (.bin 35 false .sub (.t 34) (.c (.int .u8 48))) .unit,
  .p (.cvi 36 .i64 .u8 (.t 35)) .unit,
  .p (.bin 37 false .add (.t 31) (.t 36)) .unit,
  .p (.mv 4 (.t 37)) .unit])))
 (.reg none [.p (.mv 18 (.t 5)) .unit,
  .p (.bin 19 false .add (.t 18) (.c (.int .i64 1))) .unit,
  .p (.mv 5 (.t 19)) .unit])))
noncomputable def L_impl_ReadDecimal_1 : Nat → (List UInt8) × (Int) × Int → Option (((List UInt8) × Int) ⊕ ((Int) × Bool)) := evL [fn_impl_Decimal] (finT [.t 2, .t 3] [] [.cell (.int .i64), .cell .bool]) 0 ⟨[(0, true), (4, false), (5, false)], [.cell .str, .cell (.int .i64), .cell (.int .i64)]⟩ ⟨[(0, true), (4, false)], [.cell .str, .cell (.int .i64)]⟩ B_impl_ReadDecimal_1
def F_impl_ReadDecimal : TF := ⟨(.seq (.reg none [.p (.mv 2 (.c (.int .i64 0))) .unit,
  .p (.mv 3 (.c (.bool false))) .unit])
 (.seq (.seq (.join ⟨[(0, true), (13, false)], [.cell .str, .cell .bool]⟩ (.reg none [.p (.mv 6 (.t 0)) .unit,
  .p (.lenS 7 (.t 6)) .unit,
  .p (.bin 8 false .eql (.t 7) (.c (.int .i64 0))) .unit,
  .p (.mv 9 (.t 8)) .unit,
  .g 9 false (some 10) (.mv 10 (.t 0)) .unit,
  .g 9 false (some 11) (.lenS 11 (.t 10)) .unit,
  .g 9 false (some 12) (.bin 12 false .gtr (.t 11) (.c (.int .i64 10))) .unit,
  .p (.pick 13 (.t 9) (.c (.bool true)) (.t 12)) .unit]))
 (.cond (.t 13) (.seq (.reg none [.p (.mv 2 (.c (.int .i64 0))) .unit,
  .p (.mv 3 (.c (.bool false))) .unit])
 .ret) .skip))
 (.seq (.reg none [.p (.mv 4 (.c (.int .i64 0))) .unit])
 (.seq (.seq (.reg none [.p (.mv 5 (.c (.int .i64 0))) .unit])
 (.jl 0 ⟨[(0, true), (4, false), (5, false)], [.cell .str, .cell (.int .i64), .cell (.int .i64)]⟩ ⟨[(0, true), (4, false)], [.cell .str, .cell (.int .i64)]⟩ B_impl_ReadDecimal_1))
 (.seq (.seq (.join ⟨[(4, false), (45, false)], [.cell (.int .i64), .cell .bool]⟩ (.reg none [.p (.mv 38 (.t 4)) .unit,
  .p (.bin 39 false .gtr (.t 38) (.c (.int .i64 1000000000))) .unit,
  .p (.mv 40 (.t 39)) .unit,
  .g 40 false (some 41) (.mv 41 (.t 4)) .unit,
  .g 40 false (some 42) (.callB 42 n_impl_Decimal [((.t 41), 0)]) .unit,
  .g 40 false (some 43) (.mv 43 (.t 0)) .unit,
  .g 40 false (some 44) (.bin 44 false .neq (.t 42) (.t 43)) .unit,
  .p (.pick 45 (.t 40) (.c (.bool true)) (.t 44)) .unit]))
 (.cond (.t 45) (.seq (.reg none [.p (.mv 2 (.c (.int .i64 0))) .unit,
  .p (.mv 3 (.c (.bool false))) .unit])
 .ret) .skip))
 (.seq (.reg none [.p (.mv 46 (.t 4)) .unit,
  .p (.mv 2 (.t 46)) .unit,
  .p (.mv 3 (.c (.bool true))) .unit])
 .ret)))))),
 47, 1, [.t 2, .t 3]⟩
theorem m_impl_ReadDecimal : mH Tryd.prog 70 [] = some (F_impl_ReadDecimal.code.x, F_impl_ReadDecimal.N, F_impl_ReadDecimal.np, F_impl_ReadDecimal.res) := by kernel_rfl
noncomputable def T_impl_ReadDecimal : List UInt8 → Option ((Int) × Bool) := evF [fn_impl_Decimal] F_impl_ReadDecimal [.cell .str] [] [.cell (.int .i64), .cell .bool] []
noncomputable def fn_impl_ReadDecimal : TFn := ⟨70, [.cell .str], [], [.cell (.int .i64), .cell .bool], [], T_impl_ReadDecimal⟩
theorem ok_impl_ReadDecimal : FnOk Tryd.prog fn_impl_ReadDecimal := evF_ok mixed (allOk_cons ok_impl_Decimal allOk_nil) m_impl_ReadDecimal (by decide)
def F_impl_PrivateName : TF := ⟨(.seq (.reg none [.p (.mv 4 (.c (.string (ba [])))) .unit])
 (.seq (.seq (.join ⟨[(0, true), (1, true), (12, false)], [.cell (.int .i64), .cell .str, .cell .bool]⟩ (.reg none [.p (.mv 5 (.t 0)) .unit,
  .p (.callB 6 n_impl_inRange [((.t 5), 0), ((.c (.int .i64 1)), 0), ((.c (.int .i64 9)), 0)]) .unit,
  .p (.un 7 .not (.t 6)) .unit,
  .p (.mv 8 (.t 7)) .unit,
  .g 8 false (some 9) (.mv 9 (.t 1)) .unit,
  .g 8 false (some 10) (.callB 10 n_impl_NameOk [((.t 9), 0)]) .unit,
  .g 8 false (some 11) (.un 11 .not (.t 10)) .unit,
  .p (.pick 12 (.t 8) (.c (.bool true)) (.t 11)) .unit]))
 (.cond (.t 12) (.seq (.reg none [.p (.mv 4 (.c (.string (ba [])))) .unit])
 .ret) .skip))
 (.seq (.reg none [.p (.mv 13 (.t 0)) .unit,
  .p (.callB 14 n_impl_Decimal [((.t 13), 0)]) .unit,
  .p (.bin 15 false .add (.c (.string (ba [35]))) (.t 14)) .unit,
  .p (.bin 16 false .add (.t 15) (.c (.string (ba [35])))) .unit,
  .p (.mv 17 (.t 1)) .unit,
  .p (.bin 18 false .add (.t 16) (.t 17)) .unit,
  .p (.mv 4 (.t 18)) .unit])
 .ret))),
 19, 2, [.t 4]⟩
theorem m_impl_PrivateName : mH Tryd.prog 71 [] = some (F_impl_PrivateName.code.x, F_impl_PrivateName.N, F_impl_PrivateName.np, F_impl_PrivateName.res) := by kernel_rfl
noncomputable def T_impl_PrivateName : (Int) × List UInt8 → Option (List UInt8) := evF [fn_impl_inRange, fn_impl_NameOk, fn_impl_Decimal] F_impl_PrivateName [.cell (.int .i64), .cell .str] [] [.cell .str] []
noncomputable def fn_impl_PrivateName : TFn := ⟨71, [.cell (.int .i64), .cell .str], [], [.cell .str], [], T_impl_PrivateName⟩
theorem ok_impl_PrivateName : FnOk Tryd.prog fn_impl_PrivateName := evF_ok mixed (allOk_cons ok_impl_inRange (allOk_cons ok_impl_NameOk (allOk_cons ok_impl_Decimal allOk_nil))) m_impl_PrivateName (by decide)
def F_impl_SplitPrivate : TF := ⟨(.seq (.reg none [.p (.mv 2 (.c (.int .i64 0))) .unit,
  .p (.mv 3 (.c (.string (ba [])))) .unit,
  .p (.mv 4 (.c (.bool false))) .unit])
 (.seq (.reg none [.p (.mv 8 (.t 0)) .unit,
  .p (.callB 9 n_strings_Split [((.t 8), 0), ((.c (.string (ba [35]))), 0)]) .unit,
  .p (.mvT 5 9) .unit])
 (.seq (.seq (.reg none [.p (.mvA 10 5) .unit,
  .p (.lenB 11 (.t 10)) .unit,
  .p (.bin 12 false .neq (.t 11) (.c (.int .i64 3))) .unit])
 (.cond (.t 12) (.seq (.reg none [.p (.mv 2 (.c (.int .i64 0))) .unit,
  .p (.mv 3 (.c (.string (ba [])))) .unit,
  .p (.mv 4 (.c (.bool false))) .unit])
 .ret) .skip))
 (.seq (.reg none [.p (.mvA 14 5) .unit,
  .p (.iadr 15 1 (.t 14) (.c (.int .i64 1))) .unit,
  .p (.load 16 (.t 15) 1 false) .unit,
  .p (.callB 17 n_impl_ReadDecimal [((.t 16), 0)]) .unit,
  .p (.mv 13 (.t 17)) .unit,
  .p (.ext 18 (.t 13) 0) .unit,
  .p (.ext 19 (.t 13) 1) .unit,
  .p (.mv 6 (.t 18)) .unit,
  .p (.mv 7 (.t 19)) .unit])
 (.seq (.seq (.join ⟨[(5, false), (6, false), (30, false)], [.cell (.sl true .str), .cell (.int .i64), .cell .bool]⟩ (.reg none [.p (.mv 20 (.t 7)) .unit,
  .p (.un 21 .not (.t 20)) .unit,
  .p (.mv 22 (.t 21)) .unit,
  .g 22 false (some 23) (.mv 23 (.t 6)) .unit,
  .g 22 false (some 24) (.mvA 24 5) .unit,
  .g 22 false (some 25) (.iadr 25 1 (.t 24) (.c (.int .i64 2))) .unit,
  .g 22 false (some 26) (.load 26 (.t 25) 1 false) .unit,
  .g 22 false (some 27) (.callB 27 n_impl_PrivateName [((.t 23), 0), ((.t 26), 0)]) .unit,
  .g 22 false (some 28) (.mv 28 (.t 0)) .unit,
  .g 22 false (some 29) (.bin 29 false .neq (.t 27) (.t 28)) .unit,
  .p (.pick 30 (.t 22) (.c (.bool true)) (.t 29)) .unit]))
 (.cond (.t 30) (.seq (.reg none [.p (.mv 2 (.c (.int .i64 0))) .unit,
  .p (.mv 3 (.c (.string (ba [])))) .unit,
  .p (.mv 4 (.c (.bool false))) .unit])
 .ret) .skip))
 (.seq (.reg (some [[], [], [1], [2], [0, 0], [3, 4, 0, 1, 2, 3, 4], [5, 0, 1, 2, 3, 4, 5]]) [.p (.mv 31 (.t 6)) .unit,
  .p (.mvT 32 5) .unit,
  .p (.iadr 33 1 (.t 32) (.c (.int .i64 2))) .unit,
  .p (.load 34 (.t 33) 1 false) .unit,
  .p (.mv 2 (.t 31)) .unit,
  .p (.mv 3 (.t 34)) .unit,
  .p (.mv 4 (.c (.bool true))) .unit])
 .ret)))))),
 35, 1, [.t 2, .t 3, .t 4]⟩
theorem m_impl_SplitPrivate : mH Tryd.prog 61 [(1, 2, .t), (2, 0, .v), (4, 0, .v), (5, 4, .v), (7, 1, .t)] = some (F_impl_SplitPrivate.code.x, F_impl_SplitPrivate.N, F_impl_SplitPrivate.np, F_impl_SplitPrivate.res) := by kernel_rfl
noncomputable def T_impl_SplitPrivate : List UInt8 → Option ((Int) × (List UInt8) × Bool) := evF [fn_strings_Split, fn_impl_ReadDecimal, fn_impl_PrivateName] F_impl_SplitPrivate [.cell .str] [] [.cell (.int .i64), .cell .str, .cell .bool] []
noncomputable def fn_impl_SplitPrivate : TFn := ⟨61, [.cell .str], [], [.cell (.int .i64), .cell .str, .cell .bool], [], T_impl_SplitPrivate⟩
theorem ok_impl_SplitPrivate : FnOk Tryd.prog fn_impl_SplitPrivate := evF_ok mixed (allOk_cons ok_strings_Split (allOk_cons ok_impl_ReadDecimal (allOk_cons ok_impl_PrivateName allOk_nil))) m_impl_SplitPrivate (by decide)
def F_impl_isPrivate : TF := ⟨(.seq (.reg none [.p (.mv 2 (.c (.bool false))) .unit])
 (.seq (.reg none [.p (.mv 7 (.t 0)) .unit,
  .p (.callB 8 n_impl_SplitPrivate [((.t 7), 0)]) .unit,
  .p (.mv 6 (.t 8)) .unit,
  .p (.ext 9 (.t 6) 0) .unit,
  .p (.ext 10 (.t 6) 1) .unit,
  .p (.ext 11 (.t 6) 2) .unit,
  .p (.mv 3 (.t 9)) .unit,
  .p (.mv 4 (.t 10)) .unit,
  .p (.mv 5 (.t 11)) .unit])
 (.seq (.reg none [.p (.mv 12 (.t 5)) .unit,
  .p (.mv 2 (.t 12)) .unit])
 .ret))),
 13, 1, [.t 2]⟩
theorem m_impl_isPrivate : mH Tryd.prog 42 [] = some (F_impl_isPrivate.code.x, F_impl_isPrivate.N, F_impl_isPrivate.np, F_impl_isPrivate.res) := by kernel_rfl
noncomputable def T_impl_isPrivate : List UInt8 → Option (Bool) := evF [fn_impl_SplitPrivate] F_impl_isPrivate [.cell .str] [] [.cell .bool] []
noncomputable def fn_impl_isPrivate : TFn := ⟨42, [.cell .str], [], [.cell .bool], [], T_impl_isPrivate⟩
theorem ok_impl_isPrivate : FnOk Tryd.prog fn_impl_isPrivate := evF_ok mixed (allOk_cons ok_impl_SplitPrivate allOk_nil) m_impl_isPrivate (by decide)
def B_impl_membersOk_1 : TC := (.seq (.reg none [.p (.bin 8 false .lss (.t 7) (.t 6)) .unit])
 (.seq (.cond (.t 8) .skip (.exit 0))
 (.seq (.block 1 (.seq (.reg none [.p (.mv 9 (.t 7)) .unit,
  .p (.iadr 10 1 (.t 5) (.t 7)) .unit,
  .p (.load 11 (.t 10) 1 false) .unit,
  .p (.mv 3 (.t 9)) .unit,
  .p (.mv 4 (.t 11)) .unit])
 (.seq (.join ⟨[(0, true), (5, false), (6, false), (7, false), (27, false)], [.cell (.sl false .str), .cell (.sl false .str), .cell (.int .i64), .cell (.int .i64), .cell .bool]⟩ (.reg none [.p (.mv 12 (.t 4)) .unit,
  .p (.callB 13 n_impl_isPrivate [((.t 12), 0)]) .unit,
  .p (.un 14 .not (.t 13)) .unit,
  .p (.mv 15 (.t 14)) .unit,
  .g 15 false (some 16) (.mv 16 (.t 3)) .unit,
  .g 15 false (some 17) (.bin 17 false .gtr (.t 16) (.c (.int .i64 0))) .unit,
  .g 15 false (some 18) (.mv 18 (.t 17)) .unit,
  .g 18 true (some 19) (.mv 19 (.t 4)) .unit,
  .g 18 true (some 20) (.mv 20 (.t 0)) .unit,
  .g 18 true (some 21) (.mv 21 (.t 3)) .unit,
  .g 18 true (some 22) (.bin 22 false .sub (.t 21) (.c (.int .i64 1))) .unit,
  .g 18 true (some 23) (.iadr 23 1 (.t 20) (.t 22)) .unit,
  .g 18 true (some 24) (.load 24 (.t 23) 1 false) .unit,
  .g 18 true (some 25) (.bin 25 false .leq (.t 19) (.t 24)) .unit,
  .g 15 false (some 26) (.pick 26 (.t 18) (.t 25) (.c (.bool false))) .unit,
  .p (.pick 27 (.t 15) (.c (.bool true)) (.t 26)) .unit]))
 (.cond (.t 27) (.seq (.reg none [.p (.mv 2 (.c (.bool false))) .unit])
 .ret) .skip))))
 (.reg none [.p (.bin 28 false .add (.t 7) (.c (.int .i64 1))) .unit,
  .p (.mv 7 (.t 28)) .unit]))))
noncomputable def L_impl_membersOk_1 : Nat → (List (List UInt8)) × (List (List UInt8)) × (Int) × Int → Option ((List (List UInt8)) ⊕ (Bool)) := evL [fn_impl_isPrivate, fn_impl_inRange] (finT [.t 2] [] [.cell .bool]) 0 ⟨[(0, true), (5, false), (6, false), (7, false)], [.cell (.sl false .str), .cell (.sl false .str), .cell (.int .i64), .cell (.int .i64)]⟩ ⟨[(0, true)], [.cell (.sl false .str)]⟩ B_impl_membersOk_1
def F_impl_membersOk : TF := ⟨(.seq (.reg none [.p (.mv 2 (.c (.bool false))) .unit])
 (.seq (.seq (.reg none [.p (.mv 5 (.t 0)) .unit,
  .p (.lenB 6 (.t 5)) .unit,
  .p (.mv 7 (.c (.int .i64 0))) .unit])
 (.jl 0 ⟨[(0, true), (5, false), (6, false), (7, false)], [.cell (.sl false .str), .cell (.sl false .str), .cell (.int .i64), .cell (.int .i64)]⟩ ⟨[(0, true)], [.cell (.sl false .str)]⟩ B_impl_membersOk_1))
 (.seq (.reg none [.p (.mv 29 (.t 0)) .unit,
  .p (.lenB 30 (.t 29)) .unit,
  .p (.callB 31 n_impl_inRange [((.t 30), 0), ((.c (.int .i64 1)), 0), ((.c (.int .i64 8)), 0)]) .unit,
  .p (.mv 2 (.t 31)) .unit])
 .ret))),
 32, 1, [.t 2]⟩
theorem m_impl_membersOk : mH Tryd.prog 50 [] = some (F_impl_membersOk.code.x, F_impl_membersOk.N, F_impl_membersOk.np, F_impl_membersOk.res) := by kernel_rfl
noncomputable def T_impl_membersOk : List (List UInt8) → Option (Bool) := evF [fn_impl_isPrivate, fn_impl_inRange] F_impl_membersOk [.cell (.sl false .str)] [] [.cell .bool] []
noncomputable def fn_impl_membersOk : TFn := ⟨50, [.cell (.sl false .str)], [], [.cell .bool], [], T_impl_membersOk⟩
theorem ok_impl_membersOk : FnOk Tryd.prog fn_impl_membersOk := evF_ok mixed (allOk_cons ok_impl_isPrivate (allOk_cons ok_impl_inRange allOk_nil)) m_impl_membersOk (by decide)
def B_impl_TableOk_1 : TC := (.seq (.reg none [.p (.bin 9 false .lss (.t 8) (.t 7)) .unit])
 (.seq (.cond (.t 9) .skip (.exit 0))
 (.seq (.block 1 (.seq (.reg none [.p (.mv 10 (.t 8)) .unit,
  .p (.iadr 11 2 (.t 6) (.t 8)) .unit,
  .p (.load 12 (.t 11) 2 true) .unit,
  .p (.alloc 4 [(.lit (.string (ba []))), (.sl true 1 [])]) .unit,
  .p (.mv 3 (.t 10)) .unit,
  .p (.store (.t 4) (.t 12) 2) .unit])
 (.seq (.join ⟨[(1, false), (6, false), (7, false), (8, false), (38, false)], [.box (.sl false (.pair .str (.sl false .str))), .cell (.sl false (.pair .str (.sl false .str))), .cell (.int .i64), .cell (.int .i64), .cell .bool]⟩ (.reg (some [[], [0], [1], [2], [3, 2], [4], [5, 4], [6, 4, 4], [7, 4], [4, 8], [9, 7], [10], [11, 10], [12, 10, 10], [13], [14, 13], [13], [16, 13], [13], [18, 13], [17, 19, 13], [20, 13], [21, 13], [15, 22, 13], [13, 23, 10], [10, 24]]) [.p (.fadr 13 (.t 4) 0) .unit,
  .p (.load 14 (.t 13) 1 false) .unit,
  .p (.callB 15 n_impl_NameOk [((.t 14), 0)]) .unit,
  .p (.un 16 .not (.t 15)) .unit,
  .p (.mv 17 (.t 16)) .unit,
  .g 17 false (some 18) (.fadr 18 (.t 4) 1) .unit,
  .g 17 false (some 19) (.load 19 (.t 18) 1 false) .unit,
  .g 17 false (some 20) (.callB 20 n_impl_membersOk [((.t 19), 0)]) .unit,
  .g 17 false (some 21) (.un 21 .not (.t 20)) .unit,
  .p (.pick 22 (.t 17) (.c (.bool true)) (.t 21)) .unit,
  .p (.mv 23 (.t 22)) .unit,
  .g 23 false (some 24) (.mv 24 (.t 3)) .unit,
  .g 23 false (some 25) (.bin 25 false .gtr (.t 24) (.c (.int .i64 0))) .unit,
  .g 23 false (some 26) (.mv 26 (.t 25)) .unit,
  .g 26 true (some 27) (.fadr 27 (.t 4) 0) .unit,
  .g 26 true (some 28) (.load 28 (.t 27) 1 false) .unit,
  .g 26 true (some 29) (.fadr 29 (.t 1) 0) .unit,
  .g 26 true (some 30) (.load 30 (.t 29) 1 false) .unit,
  .g 26 true (some 31) (.mv 31 (.t 3)) .unit,
  .g 26 true (some 32) (.bin 32 false .sub (.t 31) (.c (.int .i64 1))) .unit,
  .g 26 true (some 33) (.iadr 33 2 (.t 30) (.t 32)) .unit,
  .g 26 true (some 34) (.fadr 34 (.t 33) 0) .unit,
  .g 26 true (some 35) (.load 35 (.t 34) 1 false) .unit,
  .g 26 true (some 36) (.bin 36 false .leq (.t 28) (.t 35)) .unit,
  .g 23 false (some 37) (.pick 37 (.t 26) (.t 36) (.c (.bool false))) .unit,
  .p (.pick 38 (.t 23) (.c (.bool true)) (.t 37)) .unit]))
 (.cond (.t 38) (.seq (.reg none [.p (.mv 2 (.c (.bool false))) .unit])
 .ret) .skip))))
 (.reg none [.p (.bin 39 false .add (.t 8) (.c (.int .i64 1))) .unit,
  .p (.mv 8 (.t 39)) .unit]))))
noncomputable def L_impl_TableOk_1 : Nat → (List (List UInt8 × List (List UInt8))) × (List (List UInt8 × List (List UInt8))) × (Int) × Int → Option ((List (List UInt8 × List (List UInt8))) ⊕ (Bool)) := evL [fn_impl_NameOk, fn_impl_membersOk] (finT [.t 2] [] [.cell .bool]) 0 ⟨[(1, false), (6, false), (7, false), (8, false)], [.box (.sl false (.pair .str (.sl false .str))), .cell (.sl false (.pair .str (.sl false .str))), .cell (.int .i64), .cell (.int .i64)]⟩ ⟨[(1, false)], [.box (.sl false (.pair .str (.sl false .str)))]⟩ B_impl_TableOk_1
def F_impl_TableOk : TF := ⟨(.seq (.reg none [.p (.box 1 (.t 0)) .unit,
  .p (.mv 2 (.c (.bool false))) .unit])
 (.seq (.seq (.reg none [.p (.fadr 5 (.t 1) 0) .unit,
  .p (.load 6 (.t 5) 1 false) .unit,
  .p (.lenB 7 (.t 6)) .unit,
  .p (.mv 8 (.c (.int .i64 0))) .unit])
 (.jl 0 ⟨[(1, false), (6, false), (7, false), (8, false)], [.box (.sl false (.pair .str (.sl false .str))), .cell (.sl false (.pair .str (.sl false .str))), .cell (.int .i64), .cell (.int .i64)]⟩ ⟨[(1, false)], [.box (.sl false (.pair .str (.sl false .str)))]⟩ B_impl_TableOk_1))
 (.seq (.reg none [.p (.fadr 40 (.t 1) 0) .unit,
  .p (.load 41 (.t 40) 1 false) .unit,
  .p (.lenB 42 (.t 41)) .unit,
  .p (.bin 43 false .leq (.t 42) (.c (.int .i64 6))) .unit,
  .p (.mv 2 (.t 43)) .unit])
 .ret))),
 44, 1, [.t 2]⟩
theorem m_impl_TableOk : mH Tryd.prog 20 [] = some (F_impl_TableOk.code.x, F_impl_TableOk.N, F_impl_TableOk.np, F_impl_TableOk.res) := by kernel_rfl
noncomputable def T_impl_TableOk : List (List UInt8 × List (List UInt8)) → Option (Bool) := evF [fn_impl_NameOk, fn_impl_membersOk] F_impl_TableOk [.agg (.sl false (.pair .str (.sl false .str)))] [] [.cell .bool] []
noncomputable def fn_impl_TableOk : TFn := ⟨20, [.agg (.sl false (.pair .str (.sl false .str)))], [], [.cell .bool], [], T_impl_TableOk⟩
theorem ok_impl_TableOk : FnOk Tryd.prog fn_impl_TableOk := evF_ok mixed (allOk_cons ok_impl_NameOk (allOk_cons ok_impl_membersOk allOk_nil)) m_impl_TableOk (by decide)
def B_laws_eqStringS_1 : TC := (.seq (.seq (.reg none [.p (.mv 11 (.t 5)) .unit,
  .p (.mv 12 (.t 0)) .unit,
  .p (.lenB 13 (.t 12)) .unit,
  .p (.bin 14 false .lss (.t 11) (.t 13)) .unit])
 (.cond (.t 14) .skip (.exit 0)))
 (.seq (.block 1 (.seq (.reg (some [[], [], [0, 1], [2], [], [], [4, 5], [6], [3, 7]]) [.p (.mv 17 (.t 0)) .unit,
  .p (.mv 18 (.t 5)) .unit,
  .p (.iadr 19 1 (.t 17) (.t 18)) .unit,
  .p (.load 20 (.t 19) 1 false) .unit,
  .p (.mv 21 (.t 1)) .unit,
  .p (.mv 22 (.t 5)) .unit,
  .p (.iadr 23 1 (.t 21) (.t 22)) .unit,
  .p (.load 24 (.t 23) 1 false) .unit,
  .p (.bin 25 false .neq (.t 20) (.t 24)) .unit])
 (.cond (.t 25) (.seq (.reg none [.p (.mv 4 (.c (.bool false))) .unit])
 .ret) .skip)))
 (.reg none [.p (.mv 15 (.t 5)) .unit,
  .p (.bin 16 false .add (.t 15) (.c (.int .i64 1))) .unit,
  .p (.mv 5 (.t 16)) .unit])))
noncomputable def L_laws_eqStringS_1 : Nat → (List (List UInt8)) × (List (List UInt8)) × Int → Option ((Unit) ⊕ (Bool)) := evL [] (finT [.t 4] [] [.cell .bool]) 0 ⟨[(0, true), (1, true), (5, false)], [.cell (.sl false .str), .cell (.sl false .str), .cell (.int .i64)]⟩ ⟨[], []⟩ B_laws_eqStringS_1
def F_laws_eqStringS : TF := ⟨(.seq (.reg none [.p (.mv 4 (.c (.bool false))) .unit])
 (.seq (.seq (.reg none [.p (.mv 6 (.t 0)) .unit,
  .p (.lenB 7 (.t 6)) .unit,
  .p (.mv 8 (.t 1)) .unit,
  .p (.lenB 9 (.t 8)) .unit,
  .p (.bin 10 false .neq (.t 7) (.t 9)) .unit])
 (.cond (.t 10) (.seq (.reg none [.p (.mv 4 (.c (.bool false))) .unit])
 .ret) .skip))
 (.seq (.seq (.reg none [.p (.mv 5 (.c (.int .i64 0))) .unit])
 (.jl 0 ⟨[(0, true), (1, true), (5, false)], [.cell (.sl false .str), .cell (.sl false .str), .cell (.int .i64)]⟩ ⟨[], []⟩ B_laws_eqStringS_1))
 (.seq (.reg none [.p (.mv 4 (.c (.bool true))) .unit])
 .ret)))),
 26, 2, [.t 4]⟩
theorem m_laws_eqStringS : mH Tryd.prog 45 [] = some (F_laws_eqStringS.code.x, F_laws_eqStringS.N, F_laws_eqStringS.np, F_laws_eqStringS.res) := by kernel_rfl
noncomputable def T_laws_eqStringS : (List (List UInt8)) × List (List UInt8) → Option (Bool) := evF [] F_laws_eqStringS [.cell (.sl false .str), .cell (.sl false .str)] [] [.cell .bool] []
noncomputable def fn_laws_eqStringS : TFn := ⟨45, [.cell (.sl false .str), .cell (.sl false .str)], [], [.cell .bool], [], T_laws_eqStringS⟩
theorem ok_laws_eqStringS : FnOk Tryd.prog fn_laws_eqStringS := evF_ok mixed allOk_nil m_laws_eqStringS (by decide)
def F_laws_eqGroup : TF := ⟨(.seq (.reg none [.p (.box 2 (.t 0)) .unit,
  .p (.box 3 (.t 1)) .unit,
  .p (.mv 4 (.c (.bool false))) .unit])
 (.seq (.seq (.reg none [.p (.fadr 5 (.t 2) 0) .unit,
  .p (.load 6 (.t 5) 1 false) .unit,
  .p (.fadr 7 (.t 3) 0) .unit,
  .p (.load 8 (.t 7) 1 false) .unit,
  .p (.bin 9 false .neq (.t 6) (.t 8)) .unit])
 (.cond (.t 9) (.seq (.reg none [.p (.mv 4 (.c (.bool false))) .unit])
 .ret) .skip))
 (.seq (.seq (.reg none [.p (.fadr 10 (.t 2) 1) .unit,
  .p (.load 11 (.t 10) 1 false) .unit,
  .p (.fadr 12 (.t 3) 1) .unit,
  .p (.load 13 (.t 12) 1 false) .unit,
  .p (.callB 14 n_laws_eqStringS [((.t 11), 0), ((.t 13), 0)]) .unit,
  .p (.un 15 .not (.t 14)) .unit])
 (.cond (.t 15) (.seq (.reg none [.p (.mv 4 (.c (.bool false))) .unit])
 .ret) .skip))
 (.seq (.reg none [.p (.mv 4 (.c (.bool true))) .unit])
 .ret)))),
 16, 2, [.t 4]⟩
theorem m_laws_eqGroup : mH Tryd.prog 64 [] = some (F_laws_eqGroup.code.x, F_laws_eqGroup.N, F_laws_eqGroup.np, F_laws_eqGroup.res) := by kernel_rfl
noncomputable def T_laws_eqGroup : (List UInt8 × List (List UInt8)) × List UInt8 × List (List UInt8) → Option (Bool) := evF [fn_laws_eqStringS] F_laws_eqGroup [.agg (.pair .str (.sl false .str)), .agg (.pair .str (.sl false .str))] [] [.cell .bool] []
noncomputable def fn_laws_eqGroup : TFn := ⟨64, [.agg (.pair .str (.sl false .str)), .agg (.pair .str (.sl false .str))], [], [.cell .bool], [], T_laws_eqGroup⟩
theorem ok_laws_eqGroup : FnOk Tryd.prog fn_laws_eqGroup := evF_ok mixed (allOk_cons ok_laws_eqStringS allOk_nil) m_laws_eqGroup (by decide)
def B_laws_eqGroupS_1 : TC := (.seq (.seq (.reg none [.p (.mv 11 (.t 5)) .unit,
  .p (.mv 12 (.t 0)) .unit,
  .p (.lenB 13 (.t 12)) .unit,
  .p (.bin 14 false .lss (.t 11) (.t 13)) .unit])
 (.cond (.t 14) .skip (.exit 0)))
 (.seq (.block 1 (.seq (.reg (some [[], [], [0, 1], [2], [], [], [4, 5], [6], [3, 7], [8]]) [.p (.mv 17 (.t 0)) .unit,
  .p (.mv 18 (.t 5)) .unit,
  .p (.iadr 19 2 (.t 17) (.t 18)) .unit,
  .p (.load 20 (.t 19) 2 true) .unit,
  .p (.mv 21 (.t 1)) .unit,
  .p (.mv 22 (.t 5)) .unit,
  .p (.iadr 23 2 (.t 21) (.t 22)) .unit,
  .p (.load 24 (.t 23) 2 true) .unit,
  .p (.callB 25 n_laws_eqGroup [((.t 20), 0), ((.t 24), 0)]) .unit,
  .p (.un 26 .not (.t 25)) .unit])
 (.cond (.t 26) (.seq (.reg none [.p (.mv 4 (.c (.bool false))) .unit])
 .ret) .skip)))
 (.reg none [.p (.mv 15 (.t 5)) .unit,
  .p (.bin 16 false .add (.t 15) (.c (.int .i64 1))) .unit,
  .p (.mv 5 (.t 16)) .unit])))
noncomputable def L_laws_eqGroupS_1 : Nat → (List (List UInt8 × List (List UInt8))) × (List (List UInt8 × List (List UInt8))) × Int → Option ((Unit) ⊕ (Bool)) := evL [fn_laws_eqGroup] (finT [.t 4] [] [.cell .bool]) 0 ⟨[(0, true), (1, true), (5, false)], [.cell (.sl false (.pair .str (.sl false .str))), .cell (.sl false (.pair .str (.sl false .str))), .cell (.int .i64)]⟩ ⟨[], []⟩ B_laws_eqGroupS_1
def F_laws_eqGroupS : TF := ⟨(.seq (.reg none [.p (.mv 4 (.c (.bool false))) .unit])
 (.seq (.seq (.reg none [.p (.mv 6 (.t 0)) .unit,
  .p (.lenB 7 (.t 6)) .unit,
  .p (.mv 8 (.t 1)) .unit,
  .p (.lenB 9 (.t 8)) .unit,
  .p (.bin 10 false .neq (.t 7) (.t 9)) .unit])
 (.cond (.t 10) (.seq (.reg none [.p (.mv 4 (.c (.bool false))) .unit])
 .ret) .skip))
 (.seq (.seq (.reg none [.p (.mv 5 (.c (.int .i64 0))) .unit])
 (.jl 0 ⟨[(0, true), (1, true), (5, false)], [.cell (.sl false (.pair .str (.sl false .str))), .cell (.sl false (.pair .str (.sl false .str))), .cell (.int .i64)]⟩ ⟨[], []⟩ B_laws_eqGroupS_1))
 (.seq (.reg none [.p (.mv 4 (.c (.bool true))) .unit])
 .ret)))),
 27, 2, [.t 4]⟩
theorem m_laws_eqGroupS : mH Tryd.prog 51 [] = some (F_laws_eqGroupS.code.x, F_laws_eqGroupS.N, F_laws_eqGroupS.np, F_laws_eqGroupS.res) := by kernel_rfl
noncomputable def T_laws_eqGroupS : (List (List UInt8 × List (List UInt8))) × List (List UInt8 × List (List UInt8)) → Option (Bool) := evF [fn_laws_eqGroup] F_laws_eqGroupS [.cell (.sl false (.pair .str (.sl false .str))), .cell (.sl false (.pair .str (.sl false .str)))] [] [.cell .bool] []
noncomputable def fn_laws_eqGroupS : TFn := ⟨51, [.cell (.sl false (.pair .str (.sl false .str))), .cell (.sl false (.pair .str (.sl false .str)))], [], [.cell .bool], [], T_laws_eqGroupS⟩
theorem ok_laws_eqGroupS : FnOk Tryd.prog fn_laws_eqGroupS := evF_ok mixed (allOk_cons ok_laws_eqGroup allOk_nil) m_laws_eqGroupS (by decide)
def F_laws_eqTable : TF := ⟨(.seq (.reg none [.p (.box 2 (.t 0)) .unit,
  .p (.box 3 (.t 1)) .unit,
  .p (.mv 4 (.c (.bool false))) .unit])
 (.seq (.seq (.reg none [.p (.fadr 5 (.t 2) 0) .unit,
  .p (.load 6 (.t 5) 1 false) .unit,
  .p (.fadr 7 (.t 3) 0) .unit,
  .p (.load 8 (.t 7) 1 false) .unit,
  .p (.callB 9 n_laws_eqGroupS [((.t 6), 0), ((.t 8), 0)]) .unit,
  .p (.un 10 .not (.t 9)) .unit])
 (.cond (.t 10) (.seq (.reg none [.p (.mv 4 (.c (.bool false))) .unit])
 .ret) .skip))
 (.seq (.reg none [.p (.mv 4 (.c (.bool true))) .unit])
 .ret))),
 11, 2, [.t 4]⟩
theorem m_laws_eqTable : mH Tryd.prog 21 [] = some (F_laws_eqTable.code.x, F_laws_eqTable.N, F_laws_eqTable.np, F_laws_eqTable.res) := by kernel_rfl
noncomputable def T_laws_eqTable : (List (List UInt8 × List (List UInt8))) × List (List UInt8 × List (List UInt8)) → Option (Bool) := evF [fn_laws_eqGroupS] F_laws_eqTable [.agg (.sl false (.pair .str (.sl false .str))), .agg (.sl false (.pair .str (.sl false .str)))] [] [.cell .bool] []
noncomputable def fn_laws_eqTable : TFn := ⟨21, [.agg (.sl false (.pair .str (.sl false .str))), .agg (.sl false (.pair .str (.sl false .str)))], [], [.cell .bool], [], T_laws_eqTable⟩
theorem ok_laws_eqTable : FnOk Tryd.prog fn_laws_eqTable := evF_ok mixed (allOk_cons ok_laws_eqGroupS allOk_nil) m_laws_eqTable (by decide)
def F_laws_FnExactTableOk : TF := ⟨(.seq (.reg none [.p (.box 1 (.t 0)) .unit,
  .p (.mv 2 (.c (.bool false))) .unit])
 (.seq (.reg none [.p (.mv 3 (.c (.int .i64 1048576))) .unit])
 (.seq (.reg none [.p (.load 7 (.t 1) 1 true) .unit,
  .p (.mv 8 (.t 3)) .unit,
  .p (.callB 9 n_laws_szTable [((.t 7), 0), ((.t 8), 0)]) .unit,
  .p (.mv 3 (.t 9)) .unit])
 (.seq (.seq (.reg none [.p (.mv 10 (.t 3)) .unit,
  .p (.bin 11 false .lss (.t 10) (.c (.int .i64 0))) .unit])
 (.cond (.t 11) (.seq (.reg none [.p (.mv 2 (.c (.bool true))) .unit])
 .ret) .skip))
 (.seq (.reg none [.p (.load 12 (.t 1) 1 true) .unit,
  .p (.callB 13 n_laws_toTable [((.t 12), 0)]) .unit,
  .p (.callB 14 n_spec_TableOk [((.t 13), 0)]) .unit,
  .p (.mv 4 (.t 14)) .unit])
 (.seq (.reg none [.p (.load 15 (.t 1) 1 true) .unit,
  .p (.callB 16 n_laws_toTable [((.t 15), 0)]) .unit,
  .p (.alloc 5 [(.sl true 2 [])]) .unit,
  .p (.storeT (.t 5) 16 1) .unit])
 (.seq (.reg none [.p (.load 17 (.t 5) 1 true) .unit,
  .p (.callB 18 n_impl_TableOk [((.t 17), 0)]) .unit,
  .p (.mv 6 (.t 18)) .unit])
 (.seq (.seq (.reg none [.p (.mv 19 (.t 6)) .unit,
  .p (.mv 20 (.t 4)) .unit,
  .p (.bin 21 true .neq (.t 19) (.t 20)) .unit])
 (.cond (.t 21) (.seq (.reg none [.p (.mv 2 (.c (.bool false))) .unit])
 .ret) .skip))
 (.seq (.seq (.reg (some [[], [], [1], [0, 2, 2], [3]]) [.p (.load 22 (.t 5) 1 true) .unit,
  .p (.load 23 (.t 1) 1 true) .unit,
  .p (.callB 24 n_laws_toTable [((.t 23), 0)]) .unit,
  .p (.callB 25 n_laws_eqTable [((.t 22), 0), ((.t 24), 0)]) .unit,
  .p (.un 26 .not (.t 25)) .unit])
 (.cond (.t 26) (.seq (.reg none [.p (.mv 2 (.c (.bool false))) .unit])
 .ret) .skip))
 (.seq (.reg none [.p (.mv 2 (.c (.bool true))) .unit])
 .ret)))))))))),
 27, 1, [.t 2]⟩
theorem m_laws_FnExactTableOk : mH Tryd.prog 5 [(6, 3, .t)] = some (F_laws_FnExactTableOk.code.x, F_laws_FnExactTableOk.N, F_laws_FnExactTableOk.np, F_laws_FnExactTableOk.res) := by kernel_rfl
noncomputable def T_laws_FnExactTableOk : List (List UInt8 × List (List UInt8)) → Option (Bool) := evF [fn_laws_szTable, fn_laws_toTable, fn_spec_TableOk, fn_impl_TableOk, fn_laws_eqTable] F_laws_FnExactTableOk [.agg (.sl false (.pair .str (.sl false .str)))] [] [.cell .bool] []
noncomputable def fn_laws_FnExactTableOk : TFn := ⟨5, [.agg (.sl false (.pair .str (.sl false .str)))], [], [.cell .bool], [], T_laws_FnExactTableOk⟩
theorem ok_laws_FnExactTableOk : FnOk Tryd.prog fn_laws_FnExactTableOk := evF_ok mixed (allOk_cons ok_laws_szTable (allOk_cons ok_laws_toTable (allOk_cons ok_spec_TableOk (allOk_cons ok_impl_TableOk (allOk_cons ok_laws_eqTable allOk_nil))))) m_laws_FnExactTableOk (by decide)

end Xs
end Go.Proofs.YtlblgfhdndpmfaaDoor
