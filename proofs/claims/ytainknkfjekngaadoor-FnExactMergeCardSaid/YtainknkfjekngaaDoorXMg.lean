/- The typed code of the functions, printed by program. -/
import Derived.Test.YtainknkfjekngaaDoorT7
import Derived.Test.YtainknkfjekngaaDoorProg
import Derived.KernelRfl


import Derived.Test.YtainknkfjekngaaDoorItoa

import Derived.Test.YtainknkfjekngaaDoorIns
import Derived.Test.YtainknkfjekngaaDoorSplit
namespace Go.Proofs.YtainknkfjekngaaDoor
open Go Vm
namespace Xs
theorem mixed : Tryd.prog.follows .mixedOrders = true := by kernel_rfl
abbrev n_laws_FnExactMerge : Nat := 4
abbrev n_laws_szTable : Nat := 5
abbrev n_laws_toTable : Nat := 7
abbrev n_laws_eqTable : Nat := 10
abbrev n_laws_markTable : Nat := 12
abbrev n_laws_heldTable : Nat := 14
abbrev n_spec_Merge : Nat := 15
abbrev n_impl_Merge : Nat := 16
abbrev n_laws_szGroupS : Nat := 17
abbrev n_spec_l17Copy : Nat := 18
abbrev n_spec_SplitPrivate : Nat := 19
abbrev n_spec_l17Set : Nat := 21
abbrev n_laws_toGroupS : Nat := 22
abbrev n_impl_copyTable : Nat := 23
abbrev n_impl_SplitPrivate : Nat := 27
abbrev n_laws_eqGroupS : Nat := 29
abbrev n_laws_markGroupS : Nat := 30
abbrev n_laws_heldGroupS : Nat := 31
abbrev n_spec_TableOk : Nat := 32
abbrev n_spec_MembersOf : Nat := 33
abbrev n_spec_l03Insert : Nat := 34
abbrev n_impl_TableOk : Nat := 35
abbrev n___impl_Table__join : Nat := 36
abbrev n_laws_szGroup : Nat := 37
abbrev n_spec_NameOk : Nat := 38
abbrev n_laws_toGroup : Nat := 39
abbrev n_slices_Clone___string_string_ : Nat := 40
abbrev n_slices_Insert___impl_Group_impl_Group_ : Nat := 41
abbrev n_strings_Split : Nat := 44
abbrev n_impl_ReadDecimal : Nat := 45
abbrev n_impl_PrivateName : Nat := 46
abbrev n_laws_eqGroup : Nat := 48
abbrev n_laws_markText : Nat := 49
abbrev n_laws_markStringS : Nat := 50
abbrev n_laws_heldStringS : Nat := 51
abbrev n_spec_l01In : Nat := 52
abbrev n_spec_l17Private : Nat := 53
abbrev n_impl_NameOk : Nat := 54
abbrev n_impl_membersOk : Nat := 55
abbrev n_impl_addTo : Nat := 56
abbrev n_laws_szStringS : Nat := 57
abbrev n_laws_toStringS : Nat := 58
abbrev n_impl_Decimal : Nat := 63
abbrev n_impl_inRange : Nat := 64
abbrev n_laws_eqStringS : Nat := 65
abbrev n_impl_isPrivate : Nat := 66
abbrev n_slices_BinarySearch___string_string_ : Nat := 67
abbrev n_slices_Insert___string_string_ : Nat := 68
abbrev n_strconv_Itoa : Nat := 73
abbrev n_cmp_Less_string_ : Nat := 74
abbrev n_slices_isNaN_string_ : Nat := 75
abbrev n_cmp_isNaN_string_ : Nat := 84
def B_laws_szStringS_1 : TC := (.seq (.seq (.reg none [.p (.mv 12 (.t 5)) .unit,
  .p (.mv 13 (.t 0)) .unit,
  .p (.lenB 14 (.t 13)) .unit,
  .p (.bin 15 false .lss (.t 12) (.t 14)) .unit])
 (.cond (.t 15) .skip (.exit 0)))
 (.seq (.block 1 (.seq (.reg none [.p (.mv 18 (.t 1)) .unit,
  .p (.mv 19 (.t 0)) .unit,
  .p (.mv 20 (.t 5)) .unit,
  .p (.iadr 21 1 (.t 19) (.t 20)) .unit,
  .p (.load 22 (.t 21) 1 false) .unit,
  .p (.lenS 23 (.t 22)) .unit,
  .p (.bin 24 false .sub (.t 18) (.t 23)) .unit,
  .p (.mv 1 (.t 24)) .unit])
 (.seq (.reg none [.p (.mv 25 (.t 1)) .unit,
  .p (.bin 26 false .lss (.t 25) (.c (.int .i64 0))) .unit])
 (.cond (.t 26) (.seq (.reg none [.p (.mv 4 (.c (.int .i64 (-1)))) .unit])
 .ret) .skip))))
 (.reg none [.p (.mv 16 (.t 5)) .unit,
  .p (.bin 17 false .add (.t 16) (.c (.int .i64 1))) .unit,
  .p (.mv 5 (.t 17)) .unit])))
noncomputable def L_laws_szStringS_1 : Nat → (List (List UInt8)) × (Int) × Int → Option ((Int) ⊕ (Int)) := evL [] (finT [.t 4] [] [.cell (.int .i64)]) 0 ⟨[(0, true), (1, false), (5, false)], [.cell (.sl false .str), .cell (.int .i64), .cell (.int .i64)]⟩ ⟨[(1, false)], [.cell (.int .i64)]⟩ B_laws_szStringS_1
def F_laws_szStringS : TF := ⟨(.seq (.reg none [.p (.mv 4 (.c (.int .i64 0))) .unit])
 (.seq (.reg none [.p (.mv 6 (.t 1)) .unit,
  .p (.mv 7 (.t 0)) .unit,
  .p (.lenB 8 (.t 7)) .unit,
  .p (.bin 9 false .sub (.t 6) (.t 8)) .unit,
  .p (.mv 1 (.t 9)) .unit])
 (.seq (.seq (.reg none [.p (.mv 10 (.t 1)) .unit,
  .p (.bin 11 false .lss (.t 10) (.c (.int .i64 0))) .unit])
 (.cond (.t 11) (.seq (.reg none [.p (.mv 4 (.c (.int .i64 (-1)))) .unit])
 .ret) .skip))
 (.seq (.seq (.reg none [.p (.mv 5 (.c (.int .i64 0))) .unit])
 (.jl 0 ⟨[(0, true), (1, false), (5, false)], [.cell (.sl false .str), .cell (.int .i64), .cell (.int .i64)]⟩ ⟨[(1, false)], [.cell (.int .i64)]⟩ B_laws_szStringS_1))
 (.seq (.reg none [.p (.mv 27 (.t 1)) .unit,
  .p (.mv 4 (.t 27)) .unit])
 .ret))))),
 28, 2, [.t 4]⟩
theorem m_laws_szStringS : mH Tryd.prog 57 [] = some (F_laws_szStringS.code.x, F_laws_szStringS.N, F_laws_szStringS.np, F_laws_szStringS.res) := by kernel_rfl
noncomputable def T_laws_szStringS : (List (List UInt8)) × Int → Option (Int) := evF [] F_laws_szStringS [.cell (.sl false .str), .cell (.int .i64)] [] [.cell (.int .i64)] []
noncomputable def fn_laws_szStringS : TFn := ⟨57, [.cell (.sl false .str), .cell (.int .i64)], [], [.cell (.int .i64)], [], T_laws_szStringS⟩
theorem ok_laws_szStringS : FnOk Tryd.prog fn_laws_szStringS := evF_ok mixed allOk_nil m_laws_szStringS (by decide)
def F_laws_szGroup : TF := ⟨(.seq (.reg none [.p (.box 2 (.t 0)) .unit,
  .p (.mv 4 (.c (.int .i64 0))) .unit])
 (.seq (.reg none [.p (.mv 5 (.t 1)) .unit,
  .p (.fadr 6 (.t 2) 0) .unit,
  .p (.load 7 (.t 6) 1 false) .unit,
  .p (.lenS 8 (.t 7)) .unit,
  .p (.bin 9 false .sub (.t 5) (.t 8)) .unit,
  .p (.mv 1 (.t 9)) .unit])
 (.seq (.seq (.reg none [.p (.mv 10 (.t 1)) .unit,
  .p (.bin 11 false .lss (.t 10) (.c (.int .i64 0))) .unit])
 (.cond (.t 11) (.seq (.reg none [.p (.mv 4 (.c (.int .i64 (-1)))) .unit])
 .ret) .skip))
 (.seq (.reg none [.p (.fadr 12 (.t 2) 1) .unit,
  .p (.load 13 (.t 12) 1 false) .unit,
  .p (.mv 14 (.t 1)) .unit,
  .p (.callB 15 n_laws_szStringS [((.t 13), 0), ((.t 14), 0)]) .unit,
  .p (.mv 1 (.t 15)) .unit])
 (.seq (.seq (.reg none [.p (.mv 16 (.t 1)) .unit,
  .p (.bin 17 false .lss (.t 16) (.c (.int .i64 0))) .unit])
 (.cond (.t 17) (.seq (.reg none [.p (.mv 4 (.c (.int .i64 (-1)))) .unit])
 .ret) .skip))
 (.seq (.reg none [.p (.mv 18 (.t 1)) .unit,
  .p (.mv 4 (.t 18)) .unit])
 .ret)))))),
 19, 2, [.t 4]⟩
theorem m_laws_szGroup : mH Tryd.prog 37 [] = some (F_laws_szGroup.code.x, F_laws_szGroup.N, F_laws_szGroup.np, F_laws_szGroup.res) := by kernel_rfl
noncomputable def T_laws_szGroup : (List UInt8 × List (List UInt8)) × Int → Option (Int) := evF [fn_laws_szStringS] F_laws_szGroup [.agg (.pair .str (.sl false .str)), .cell (.int .i64)] [] [.cell (.int .i64)] []
noncomputable def fn_laws_szGroup : TFn := ⟨37, [.agg (.pair .str (.sl false .str)), .cell (.int .i64)], [], [.cell (.int .i64)], [], T_laws_szGroup⟩
theorem ok_laws_szGroup : FnOk Tryd.prog fn_laws_szGroup := evF_ok mixed (allOk_cons ok_laws_szStringS allOk_nil) m_laws_szGroup (by decide)
def B_laws_szGroupS_1 : TC := (.seq (.seq (.reg none [.p (.mv 12 (.t 5)) .unit,
  .p (.mv 13 (.t 0)) .unit,
  .p (.lenB 14 (.t 13)) .unit,
  .p (.bin 15 false .lss (.t 12) (.t 14)) .unit])
 (.cond (.t 15) .skip (.exit 0)))
 (.seq (.block 1 (.seq (.reg none [.p (.mv 18 (.t 0)) .unit,
  .p (.mv 19 (.t 5)) .unit,
  .p (.iadr 20 2 (.t 18) (.t 19)) .unit,
  .p (.load 21 (.t 20) 2 true) .unit,
  .p (.mv 22 (.t 1)) .unit,
  .p (.callB 23 n_laws_szGroup [((.t 21), 0), ((.t 22), 0)]) .unit,
  .p (.mv 1 (.t 23)) .unit])
 (.seq (.reg none [.p (.mv 24 (.t 1)) .unit,
  .p (.bin 25 false .lss (.t 24) (.c (.int .i64 0))) .unit])
 (.cond (.t 25) (.seq (.reg none [.p (.mv 4 (.c (.int .i64 (-1)))) .unit])
 .ret) .skip))))
 (.reg none [.p (.mv 16 (.t 5)) .unit,
  .p (.bin 17 false .add (.t 16) (.c (.int .i64 1))) .unit,
  .p (.mv 5 (.t 17)) .unit])))
noncomputable def L_laws_szGroupS_1 : Nat → (List (List UInt8 × List (List UInt8))) × (Int) × Int → Option ((Int) ⊕ (Int)) := evL [fn_laws_szGroup] (finT [.t 4] [] [.cell (.int .i64)]) 0 ⟨[(0, true), (1, false), (5, false)], [.cell (.sl false (.pair .str (.sl false .str))), .cell (.int .i64), .cell (.int .i64)]⟩ ⟨[(1, false)], [.cell (.int .i64)]⟩ B_laws_szGroupS_1
def F_laws_szGroupS : TF := ⟨(.seq (.reg none [.p (.mv 4 (.c (.int .i64 0))) .unit])
 (.seq (.reg none [.p (.mv 6 (.t 1)) .unit,
  .p (.mv 7 (.t 0)) .unit,
  .p (.lenB 8 (.t 7)) .unit,
  .p (.bin 9 false .sub (.t 6) (.t 8)) .unit,
  .p (.mv 1 (.t 9)) .unit])
 (.seq (.seq (.reg none [.p (.mv 10 (.t 1)) .unit,
  .p (.bin 11 false .lss (.t 10) (.c (.int .i64 0))) .unit])
 (.cond (.t 11) (.seq (.reg none [.p (.mv 4 (.c (.int .i64 (-1)))) .unit])
 .ret) .skip))
 (.seq (.seq (.reg none [.p (.mv 5 (.c (.int .i64 0))) .unit])
 (.jl 0 ⟨[(0, true), (1, false), (5, false)], [.cell (.sl false (.pair .str (.sl false .str))), .cell (.int .i64), .cell (.int .i64)]⟩ ⟨[(1, false)], [.cell (.int .i64)]⟩ B_laws_szGroupS_1))
 (.seq (.reg none [.p (.mv 26 (.t 1)) .unit,
  .p (.mv 4 (.t 26)) .unit])
 .ret))))),
 27, 2, [.t 4]⟩
theorem m_laws_szGroupS : mH Tryd.prog 17 [] = some (F_laws_szGroupS.code.x, F_laws_szGroupS.N, F_laws_szGroupS.np, F_laws_szGroupS.res) := by kernel_rfl
noncomputable def T_laws_szGroupS : (List (List UInt8 × List (List UInt8))) × Int → Option (Int) := evF [fn_laws_szGroup] F_laws_szGroupS [.cell (.sl false (.pair .str (.sl false .str))), .cell (.int .i64)] [] [.cell (.int .i64)] []
noncomputable def fn_laws_szGroupS : TFn := ⟨17, [.cell (.sl false (.pair .str (.sl false .str))), .cell (.int .i64)], [], [.cell (.int .i64)], [], T_laws_szGroupS⟩
theorem ok_laws_szGroupS : FnOk Tryd.prog fn_laws_szGroupS := evF_ok mixed (allOk_cons ok_laws_szGroup allOk_nil) m_laws_szGroupS (by decide)
def F_laws_szTable : TF := ⟨(.seq (.reg none [.p (.box 2 (.t 0)) .unit,
  .p (.mv 4 (.c (.int .i64 0))) .unit])
 (.seq (.reg none [.p (.fadr 5 (.t 2) 0) .unit,
  .p (.load 6 (.t 5) 1 false) .unit,
  .p (.mv 7 (.t 1)) .unit,
  .p (.callB 8 n_laws_szGroupS [((.t 6), 0), ((.t 7), 0)]) .unit,
  .p (.mv 1 (.t 8)) .unit])
 (.seq (.seq (.reg none [.p (.mv 9 (.t 1)) .unit,
  .p (.bin 10 false .lss (.t 9) (.c (.int .i64 0))) .unit])
 (.cond (.t 10) (.seq (.reg none [.p (.mv 4 (.c (.int .i64 (-1)))) .unit])
 .ret) .skip))
 (.seq (.reg none [.p (.mv 11 (.t 1)) .unit,
  .p (.mv 4 (.t 11)) .unit])
 .ret)))),
 12, 2, [.t 4]⟩
theorem m_laws_szTable : mH Tryd.prog 5 [] = some (F_laws_szTable.code.x, F_laws_szTable.N, F_laws_szTable.np, F_laws_szTable.res) := by kernel_rfl
noncomputable def T_laws_szTable : (List (List UInt8 × List (List UInt8))) × Int → Option (Int) := evF [fn_laws_szGroupS] F_laws_szTable [.agg (.sl false (.pair .str (.sl false .str))), .cell (.int .i64)] [] [.cell (.int .i64)] []
noncomputable def fn_laws_szTable : TFn := ⟨5, [.agg (.sl false (.pair .str (.sl false .str))), .cell (.int .i64)], [], [.cell (.int .i64)], [], T_laws_szTable⟩
theorem ok_laws_szTable : FnOk Tryd.prog fn_laws_szTable := evF_ok mixed (allOk_cons ok_laws_szGroupS allOk_nil) m_laws_szTable (by decide)
def B_laws_toStringS_1 : TC := (.seq (.seq (.reg none [.p (.mv 8 (.t 4)) .unit,
  .p (.mv 9 (.t 0)) .unit,
  .p (.lenB 10 (.t 9)) .unit,
  .p (.bin 11 false .lss (.t 8) (.t 10)) .unit])
 (.cond (.t 11) .skip (.exit 0)))
 (.seq (.block 1 (.reg none [.p (.mvA 14 3) .unit,
  .p (.mv 15 (.t 4)) .unit,
  .p (.mv 16 (.t 0)) .unit,
  .p (.mv 17 (.t 4)) .unit,
  .p (.iadr 18 1 (.t 16) (.t 17)) .unit,
  .p (.load 19 (.t 18) 1 false) .unit,
  .p (.iadr 20 1 (.t 14) (.t 15)) .unit,
  .p (.store (.t 20) (.t 19) 1) .unit]))
 (.reg none [.p (.mv 12 (.t 4)) .unit,
  .p (.bin 13 false .add (.t 12) (.c (.int .i64 1))) .unit,
  .p (.mv 4 (.t 13)) .unit])))
noncomputable def L_laws_toStringS_1 : Nat → (List (List UInt8)) × (List (List UInt8)) × Int → Option ((List (List UInt8)) ⊕ (List (List UInt8))) := evL [] (finT [.t 2] [] [.cell (.sl true .str)]) 0 ⟨[(0, true), (3, false), (4, false)], [.cell (.sl false .str), .cell (.sl true .str), .cell (.int .i64)]⟩ ⟨[(3, false)], [.cell (.sl true .str)]⟩ B_laws_toStringS_1
def F_laws_toStringS : TF := ⟨(.seq (.reg none [.p (.mvN 2 1) .unit])
 (.seq (.reg none [.p (.mv 5 (.t 0)) .unit,
  .p (.lenB 6 (.t 5)) .unit,
  .p (.mkS 7 16 [(.lit (.string (ba [])))] (.t 6) (.t 6)) .str,
  .p (.mvT 3 7) .unit])
 (.seq (.seq (.reg none [.p (.mv 4 (.c (.int .i64 0))) .unit])
 (.jl 0 ⟨[(0, true), (3, false), (4, false)], [.cell (.sl false .str), .cell (.sl true .str), .cell (.int .i64)]⟩ ⟨[(3, false)], [.cell (.sl true .str)]⟩ B_laws_toStringS_1))
 (.seq (.reg none [.p (.mvT 21 3) .unit,
  .p (.mvT 2 21) .unit])
 .ret)))),
 22, 1, [.t 2]⟩
theorem m_laws_toStringS : mH Tryd.prog 58 [(1, 3, .t), (5, 0, .v), (6, 0, .t), (6, 1, .t)] = some (F_laws_toStringS.code.x, F_laws_toStringS.N, F_laws_toStringS.np, F_laws_toStringS.res) := by kernel_rfl
noncomputable def T_laws_toStringS : List (List UInt8) → Option (List (List UInt8)) := evF [] F_laws_toStringS [.cell (.sl false .str)] [] [.cell (.sl true .str)] []
noncomputable def fn_laws_toStringS : TFn := ⟨58, [.cell (.sl false .str)], [], [.cell (.sl true .str)], [], T_laws_toStringS⟩
theorem ok_laws_toStringS : FnOk Tryd.prog fn_laws_toStringS := evF_ok mixed allOk_nil m_laws_toStringS (by decide)
def F_laws_toGroup : TF := ⟨(.seq (.reg none [.p (.box 1 (.t 0)) .unit,
  .p (.alloc 2 [(.lit (.string (ba []))), (.sl true 1 [])]) .unit])
 (.seq (.reg none [.p (.alloc 3 [(.lit (.string (ba []))), (.sl true 1 [])]) .unit])
 (.seq (.reg none [.p (.fadr 4 (.t 1) 0) .unit,
  .p (.load 5 (.t 4) 1 false) .unit,
  .p (.fadr 6 (.t 3) 0) .unit,
  .p (.store (.t 6) (.t 5) 1) .unit])
 (.seq (.reg none [.p (.fadr 7 (.t 1) 1) .unit,
  .p (.load 8 (.t 7) 1 false) .unit,
  .p (.callB 9 n_laws_toStringS [((.t 8), 0)]) .unit,
  .p (.fadr 10 (.t 3) 1) .unit,
  .p (.storeT (.t 10) 9 1) .unit])
 (.seq (.reg none [.p (.loadT 11 (.t 3) 2 true) .unit,
  .p (.storeT (.t 2) 11 2) .unit])
 .ret))))),
 12, 1, [.c 2 2 true]⟩
theorem m_laws_toGroup : mH Tryd.prog 39 [(3, 4, .t), (4, 0, .t), (4, 1, .t)] = some (F_laws_toGroup.code.x, F_laws_toGroup.N, F_laws_toGroup.np, F_laws_toGroup.res) := by kernel_rfl
noncomputable def T_laws_toGroup : List UInt8 × List (List UInt8) → Option (List UInt8 × List (List UInt8)) := evF [fn_laws_toStringS] F_laws_toGroup [.agg (.pair .str (.sl false .str))] [] [.agg (.pair .str (.sl true .str))] []
noncomputable def fn_laws_toGroup : TFn := ⟨39, [.agg (.pair .str (.sl false .str))], [], [.agg (.pair .str (.sl true .str))], [], T_laws_toGroup⟩
theorem ok_laws_toGroup : FnOk Tryd.prog fn_laws_toGroup := evF_ok mixed (allOk_cons ok_laws_toStringS allOk_nil) m_laws_toGroup (by decide)
def B_laws_toGroupS_1 : TC := (.seq (.seq (.reg none [.p (.mv 8 (.t 4)) .unit,
  .p (.mv 9 (.t 0)) .unit,
  .p (.lenB 10 (.t 9)) .unit,
  .p (.bin 11 false .lss (.t 8) (.t 10)) .unit])
 (.cond (.t 11) .skip (.exit 0)))
 (.seq (.block 1 (.reg none [.p (.mvA 14 3) .unit,
  .p (.mv 15 (.t 4)) .unit,
  .p (.mv 16 (.t 0)) .unit,
  .p (.mv 17 (.t 4)) .unit,
  .p (.iadr 18 2 (.t 16) (.t 17)) .unit,
  .p (.load 19 (.t 18) 2 true) .unit,
  .p (.callB 20 n_laws_toGroup [((.t 19), 0)]) .unit,
  .p (.iadr 21 2 (.t 14) (.t 15)) .unit,
  .p (.storeT (.t 21) 20 2) .unit]))
 (.reg none [.p (.mv 12 (.t 4)) .unit,
  .p (.bin 13 false .add (.t 12) (.c (.int .i64 1))) .unit,
  .p (.mv 4 (.t 13)) .unit])))
noncomputable def L_laws_toGroupS_1 : Nat → (List (List UInt8 × List (List UInt8))) × (List (List UInt8 × List (List UInt8))) × Int → Option ((List (List UInt8 × List (List UInt8))) ⊕ (List (List UInt8 × List (List UInt8)))) := evL [fn_laws_toGroup] (finT [.t 2] [] [.cell (.sl true (.pair .str (.sl true .str)))]) 0 ⟨[(0, true), (3, false), (4, false)], [.cell (.sl false (.pair .str (.sl false .str))), .cell (.sl true (.pair .str (.sl true .str))), .cell (.int .i64)]⟩ ⟨[(3, false)], [.cell (.sl true (.pair .str (.sl true .str)))]⟩ B_laws_toGroupS_1
def F_laws_toGroupS : TF := ⟨(.seq (.reg none [.p (.mvN 2 2) .unit])
 (.seq (.reg none [.p (.mv 5 (.t 0)) .unit,
  .p (.lenB 6 (.t 5)) .unit,
  .p (.mkS 7 40 [(.lit (.string (ba []))), (.sl true 1 [])] (.t 6) (.t 6)) (.pair .str (.sl true .str)),
  .p (.mvT 3 7) .unit])
 (.seq (.seq (.reg none [.p (.mv 4 (.c (.int .i64 0))) .unit])
 (.jl 0 ⟨[(0, true), (3, false), (4, false)], [.cell (.sl false (.pair .str (.sl false .str))), .cell (.sl true (.pair .str (.sl true .str))), .cell (.int .i64)]⟩ ⟨[(3, false)], [.cell (.sl true (.pair .str (.sl true .str)))]⟩ B_laws_toGroupS_1))
 (.seq (.reg none [.p (.mvT 22 3) .unit,
  .p (.mvT 2 22) .unit])
 .ret)))),
 23, 1, [.t 2]⟩
theorem m_laws_toGroupS : mH Tryd.prog 22 [(1, 3, .t), (5, 0, .v), (5, 8, .t), (6, 0, .t), (6, 1, .t)] = some (F_laws_toGroupS.code.x, F_laws_toGroupS.N, F_laws_toGroupS.np, F_laws_toGroupS.res) := by kernel_rfl
noncomputable def T_laws_toGroupS : List (List UInt8 × List (List UInt8)) → Option (List (List UInt8 × List (List UInt8))) := evF [fn_laws_toGroup] F_laws_toGroupS [.cell (.sl false (.pair .str (.sl false .str)))] [] [.cell (.sl true (.pair .str (.sl true .str)))] []
noncomputable def fn_laws_toGroupS : TFn := ⟨22, [.cell (.sl false (.pair .str (.sl false .str)))], [], [.cell (.sl true (.pair .str (.sl true .str)))], [], T_laws_toGroupS⟩
theorem ok_laws_toGroupS : FnOk Tryd.prog fn_laws_toGroupS := evF_ok mixed (allOk_cons ok_laws_toGroup allOk_nil) m_laws_toGroupS (by decide)
def F_laws_toTable : TF := ⟨(.seq (.reg none [.p (.box 1 (.t 0)) .unit,
  .p (.alloc 2 [(.sl true 2 [])]) .unit])
 (.seq (.reg none [.p (.alloc 3 [(.sl true 2 [])]) .unit])
 (.seq (.reg none [.p (.fadr 4 (.t 1) 0) .unit,
  .p (.load 5 (.t 4) 1 false) .unit,
  .p (.callB 6 n_laws_toGroupS [((.t 5), 0)]) .unit,
  .p (.fadr 7 (.t 3) 0) .unit,
  .p (.storeT (.t 7) 6 1) .unit])
 (.seq (.reg none [.p (.loadT 8 (.t 3) 1 true) .unit,
  .p (.storeT (.t 2) 8 1) .unit])
 .ret)))),
 9, 1, [.c 2 1 true]⟩
theorem m_laws_toTable : mH Tryd.prog 7 [(2, 4, .t), (3, 0, .t), (3, 1, .t)] = some (F_laws_toTable.code.x, F_laws_toTable.N, F_laws_toTable.np, F_laws_toTable.res) := by kernel_rfl
noncomputable def T_laws_toTable : List (List UInt8 × List (List UInt8)) → Option (List (List UInt8 × List (List UInt8))) := evF [fn_laws_toGroupS] F_laws_toTable [.agg (.sl false (.pair .str (.sl false .str)))] [] [.agg (.sl true (.pair .str (.sl true .str)))] []
noncomputable def fn_laws_toTable : TFn := ⟨7, [.agg (.sl false (.pair .str (.sl false .str)))], [], [.agg (.sl true (.pair .str (.sl true .str)))], [], T_laws_toTable⟩
theorem ok_laws_toTable : FnOk Tryd.prog fn_laws_toTable := evF_ok mixed (allOk_cons ok_laws_toGroupS allOk_nil) m_laws_toTable (by decide)
def B_spec_l17Copy_1 : TC := (.seq (.seq (.reg none [.p (.mv 6 (.t 4)) .unit,
  .p (.fadr 7 (.t 1) 0) .unit,
  .p (.load 8 (.t 7) 1 false) .unit,
  .p (.lenB 9 (.t 8)) .unit,
  .p (.bin 10 false .lss (.t 6) (.t 9)) .unit])
 (.cond (.t 10) .skip (.exit 0)))
 (.seq (.block 1 (.reg (some [[], [0], [], [2], [], [3, 4], [5], [6], [], [], [9], [], [10, 11], [12], [13], [8, 14], [7, 15], [16], [1, 17, 15], [0, 1, 2, 3, 4, 5, 6, 7, 8, 9, 10, 11, 12, 13, 14, 15, 16, 17, 18], [19, 18, 18, 0, 1, 2, 3, 4, 5, 6, 7, 8, 9, 10, 11, 12, 13, 14, 15, 16, 17, 18]]) [.p (.fadr 13 (.t 3) 0) .unit,
  .p (.load 14 (.t 13) 1 false) .unit,
  .p (.fadr 15 (.t 1) 0) .unit,
  .p (.load 16 (.t 15) 1 false) .unit,
  .p (.mv 17 (.t 4)) .unit,
  .p (.iadr 18 2 (.t 16) (.t 17)) .unit,
  .p (.fadr 19 (.t 18) 0) .unit,
  .p (.load 20 (.t 19) 1 false) .unit,
  .p (.bldS 21 0 [(.lit (.string (ba [])))] []) .str,
  .p (.fadr 22 (.t 1) 0) .unit,
  .p (.load 23 (.t 22) 1 false) .unit,
  .p (.mv 24 (.t 4)) .unit,
  .p (.iadr 25 2 (.t 23) (.t 24)) .unit,
  .p (.fadr 26 (.t 25) 1) .unit,
  .p (.load 27 (.t 26) 1 false) .unit,
  .p (.app 28 1 16 (.t 21) (.t 27)) .str,
  .p (.bld 29 [(.lit (.string (ba []))), (.sl true 1 [])] [⟨0, 1, (.t 20)⟩, ⟨1, 1, (.t 28)⟩]) .unit,
  .p (.bldS 30 1 [(.lit (.string (ba []))), (.sl true 1 [])] [⟨0, 2, (.t 29)⟩]) (.pair .str (.sl true .str)),
  .p (.appC 31 2 40 14 (.t 30) true) (.pair .str (.sl true .str)),
  .p (.fadr 32 (.t 3) 0) .unit,
  .p (.storeT (.t 32) 31 1) .unit]))
 (.reg none [.p (.mv 11 (.t 4)) .unit,
  .p (.bin 12 false .add (.t 11) (.c (.int .i64 1))) .unit,
  .p (.mv 4 (.t 12)) .unit])))
noncomputable def L_spec_l17Copy_1 : Nat → (List (List UInt8 × List (List UInt8))) × (List (List UInt8 × List (List UInt8))) × (List (List UInt8 × List (List UInt8))) × Int → Option (((List (List UInt8 × List (List UInt8))) × List (List UInt8 × List (List UInt8))) ⊕ (List (List UInt8 × List (List UInt8)))) := evL [] (finT [.c 2 1 true] [] [.agg (.sl true (.pair .str (.sl true .str)))]) 0 ⟨[(1, false), (2, false), (3, false), (4, false)], [.box (.sl false (.pair .str (.sl false .str))), .box (.sl true (.pair .str (.sl true .str))), .box (.sl true (.pair .str (.sl true .str))), .cell (.int .i64)]⟩ ⟨[(2, false), (3, false)], [.box (.sl true (.pair .str (.sl true .str))), .box (.sl true (.pair .str (.sl true .str)))]⟩ B_spec_l17Copy_1
def F_spec_l17Copy : TF := ⟨(.seq (.reg none [.p (.box 1 (.t 0)) .unit,
  .p (.alloc 2 [(.sl true 2 [])]) .unit])
 (.seq (.reg none [.p (.bld 5 [(.sl true 2 [])] []) .unit,
  .p (.alloc 3 [(.sl true 2 [])]) .unit,
  .p (.storeT (.t 3) 5 1) .unit])
 (.seq (.seq (.reg none [.p (.mv 4 (.c (.int .i64 0))) .unit])
 (.jl 0 ⟨[(1, false), (2, false), (3, false), (4, false)], [.box (.sl false (.pair .str (.sl false .str))), .box (.sl true (.pair .str (.sl true .str))), .box (.sl true (.pair .str (.sl true .str))), .cell (.int .i64)]⟩ ⟨[(2, false), (3, false)], [.box (.sl true (.pair .str (.sl true .str))), .box (.sl true (.pair .str (.sl true .str)))]⟩ B_spec_l17Copy_1))
 (.seq (.reg none [.p (.loadT 33 (.t 3) 1 true) .unit,
  .p (.storeT (.t 2) 33 1) .unit])
 .ret)))),
 34, 1, [.c 2 1 true]⟩
theorem m_spec_l17Copy : mH Tryd.prog 18 [(1, 2, .t), (5, 18, .v), (5, 20, .t), (6, 0, .t), (6, 1, .t)] = some (F_spec_l17Copy.code.x, F_spec_l17Copy.N, F_spec_l17Copy.np, F_spec_l17Copy.res) := by kernel_rfl
noncomputable def T_spec_l17Copy : List (List UInt8 × List (List UInt8)) → Option (List (List UInt8 × List (List UInt8))) := evF [] F_spec_l17Copy [.agg (.sl false (.pair .str (.sl false .str)))] [] [.agg (.sl true (.pair .str (.sl true .str)))] []
noncomputable def fn_spec_l17Copy : TFn := ⟨18, [.agg (.sl false (.pair .str (.sl false .str)))], [], [.agg (.sl true (.pair .str (.sl true .str)))], [], T_spec_l17Copy⟩
theorem ok_spec_l17Copy : FnOk Tryd.prog fn_spec_l17Copy := evF_ok mixed allOk_nil m_spec_l17Copy (by decide)
def F_spec_l01In : TF := ⟨(.seq (.reg none [.p (.mv 6 (.c (.bool false))) .unit])
 (.seq (.reg none [.p (.mv 7 (.t 0)) .unit,
  .p (.mv 8 (.t 1)) .unit,
  .p (.bin 9 false .geq (.t 7) (.t 8)) .unit,
  .p (.mv 10 (.t 9)) .unit,
  .g 10 true (some 11) (.mv 11 (.t 0)) .unit,
  .g 10 true (some 12) (.mv 12 (.t 2)) .unit,
  .g 10 true (some 13) (.bin 13 false .leq (.t 11) (.t 12)) .unit,
  .p (.pick 14 (.t 10) (.t 13) (.c (.bool false))) .unit,
  .p (.mv 6 (.t 14)) .unit])
 .ret)),
 15, 3, [.t 6]⟩
theorem m_spec_l01In : mH Tryd.prog 52 [] = some (F_spec_l01In.code.x, F_spec_l01In.N, F_spec_l01In.np, F_spec_l01In.res) := by kernel_rfl
noncomputable def T_spec_l01In : (Int) × (Int) × Int → Option (Bool) := evF [] F_spec_l01In [.cell (.int .i64), .cell (.int .i64), .cell (.int .i64)] [] [.cell .bool] []
noncomputable def fn_spec_l01In : TFn := ⟨52, [.cell (.int .i64), .cell (.int .i64), .cell (.int .i64)], [], [.cell .bool], [], T_spec_l01In⟩
theorem ok_spec_l01In : FnOk Tryd.prog fn_spec_l01In := evF_ok mixed allOk_nil m_spec_l01In (by decide)
def B_spec_NameOk_1 : TC := (.seq (.seq (.reg none [.p (.mv 18 (.t 3)) .unit,
  .p (.mv 19 (.t 0)) .unit,
  .p (.lenS 20 (.t 19)) .unit,
  .p (.bin 21 false .lss (.t 18) (.t 20)) .unit])
 (.cond (.t 21) .skip (.exit 0)))
 (.seq (.block 1 (.seq (.join ⟨[(0, true), (3, false), (45, false)], [.cell .str, .cell (.int .i64), .cell .bool]⟩ (.reg none [.p (.mv 24 (.t 0)) .unit,
  .p (.mv 25 (.t 3)) .unit,
  .p (.idx 26 (.t 24) (.t 25)) .unit,
  .p (.bin 27 false .lss (.t 26) (.c (.int .u8 97))) .unit,
  .p (.mv 28 (.t 27)) .unit,
  .g 28 false (some 29) (.mv 29 (.t 0)) .unit,
  .g 28 false (some 30) (.mv 30 (.t 3)) .unit,
  .g 28 false (some 31) (.idx 31 (.t 29) (.t 30)) .unit,
  .g 28 false (some 32) (.bin 32 false .gtr (.t 31) (.c (.int .u8 122))) .unit,
  .p (.pick 33 (.t 28) (.c (.bool true)) (.t 32)) .unit,
  .p (.mv 34 (.t 33)) .unit,
  .g 34 true (some 35) (.mv 35 (.t 0)) .unit,
  .g 34 true (some 36) (.mv 36 (.t 3)) .unit,
  .g 34 true (some 37) (.idx 37 (.t 35) (.t 36)) .unit,
  .g 34 true (some 38) (.bin 38 false .lss (.t 37) (.c (.int .u8 48))) .unit,
  .g 34 true (some 39) (.mv 39 (.t 38)) .unit,
  .g 39 false (some 40) (.mv 40 (.t 0)) .unit,
  .g 39 false (some 41) (.mv 41 (.t 3)) .unit,
  .g 39 false (some 42) (.idx 42 (.t 40) (.t 41)) .unit,
  .g 39 false (some 43) (.bin 43 false .gtr (.t 42) (.c (.int .u8 57))) .unit,
  .g 34 true (some 44) (.pick 44 (.t 39) (.c (.bool true)) (.t 43)) .unit,
  .p (.pick 45 (.t 34) (.t 44) (.c (.bool false))) .unit]))
 (.cond (.t 45) (.seq (.reg none [.p (.mv 2 (.c (.bool false))) .unit])
 .ret) .skip)))
 (.reg none [.p (.mv 22 (.t 3)) .unit,
  .p (.bin 23 false .add (.t 22) (.c (.int .i64 1))) .unit,
  .p (.mv 3 (.t 23)) .unit])))
noncomputable def L_spec_NameOk_1 : Nat → (List UInt8) × Int → Option ((Unit) ⊕ (Bool)) := evL [fn_spec_l01In] (finT [.t 2] [] [.cell .bool]) 0 ⟨[(0, true), (3, false)], [.cell .str, .cell (.int .i64)]⟩ ⟨[], []⟩ B_spec_NameOk_1
def F_spec_NameOk : TF := ⟨(.seq (.reg none [.p (.mv 2 (.c (.bool false))) .unit])
 (.seq (.seq (.join ⟨[(0, true), (17, false)], [.cell .str, .cell .bool]⟩ (.reg none [.p (.mv 4 (.t 0)) .unit,
  .p (.lenS 5 (.t 4)) .unit,
  .p (.callB 6 n_spec_l01In [((.t 5), 0), ((.c (.int .i64 1)), 0), ((.c (.int .i64 12)), 0)]) .unit,
  .p (.un 7 .not (.t 6)) .unit,
  .p (.mv 8 (.t 7)) .unit,
  .g 8 false (some 9) (.mv 9 (.t 0)) .unit,
  .g 8 false (some 10) (.idx 10 (.t 9) (.c (.int .i64 0))) .unit,
  .g 8 false (some 11) (.bin 11 false .lss (.t 10) (.c (.int .u8 97))) .unit,
  .p (.pick 12 (.t 8) (.c (.bool true)) (.t 11)) .unit,
  .p (.mv 13 (.t 12)) .unit,
  .g 13 false (some 14) (.mv 14 (.t 0)) .unit,
  .g 13 false (some 15) (.idx 15 (.t 14) (.c (.int .i64 0))) .unit,
  .g 13 false (some 16) (.bin 16 false .gtr (.t 15) (.c (.int .u8 122))) .unit,
  .p (.pick 17 (.t 13) (.c (.bool true)) (.t 16)) .unit]))
 (.cond (.t 17) (.seq (.reg none [.p (.mv 2 (.c (.bool false))) .unit])
 .ret) .skip))
 (.seq (.seq (.reg none [.p (.mv 3 (.c (.int .i64 0))) .unit])
 (.jl 0 ⟨[(0, true), (3, false)], [.cell .str, .cell (.int .i64)]⟩ ⟨[], []⟩ B_spec_NameOk_1))
 (.seq (.reg none [.p (.mv 2 (.c (.bool true))) .unit])
 .ret)))),
 46, 1, [.t 2]⟩
theorem m_spec_NameOk : mH Tryd.prog 38 [] = some (F_spec_NameOk.code.x, F_spec_NameOk.N, F_spec_NameOk.np, F_spec_NameOk.res) := by kernel_rfl
noncomputable def T_spec_NameOk : List UInt8 → Option (Bool) := evF [fn_spec_l01In] F_spec_NameOk [.cell .str] [] [.cell .bool] []
noncomputable def fn_spec_NameOk : TFn := ⟨38, [.cell .str], [], [.cell .bool], [], T_spec_NameOk⟩
theorem ok_spec_NameOk : FnOk Tryd.prog fn_spec_NameOk := evF_ok mixed (allOk_cons ok_spec_l01In allOk_nil) m_spec_NameOk (by decide)
def F_spec_SplitPrivate : TF := ⟨(.seq (.reg none [.p (.mv 2 (.c (.int .i64 0))) .unit,
  .p (.mv 3 (.c (.string (ba [])))) .unit,
  .p (.mv 4 (.c (.bool false))) .unit])
 (.seq (.seq (.join ⟨[(0, true), (33, false)], [.cell .str, .cell .bool]⟩ (.reg none [.p (.mv 5 (.t 0)) .unit,
  .p (.lenS 6 (.t 5)) .unit,
  .p (.bin 7 false .lss (.t 6) (.c (.int .i64 4))) .unit,
  .p (.mv 8 (.t 7)) .unit,
  .g 8 false (some 9) (.mv 9 (.t 0)) .unit,
  .g 8 false (some 10) (.idx 10 (.t 9) (.c (.int .i64 0))) .unit,
  .g 8 false (some 11) (.bin 11 false .neq (.t 10) (.c (.int .u8 35))) .unit,
  .p (.pick 12 (.t 8) (.c (.bool true)) (.t 11)) .unit,
  .p (.mv 13 (.t 12)) .unit,
  .g 13 false (some 14) (.mv 14 (.t 0)) .unit,
  .g 13 false (some 15) (.idx 15 (.t 14) (.c (.int .i64 2))) .unit,
  .g 13 false (some 16) (.bin 16 false .neq (.t 15) (.c (.int .u8 35))) .unit,
  .p (.pick 17 (.t 13) (.c (.bool true)) (.t 16)) .unit,
  .p (.mv 18 (.t 17)) .unit,
  .g 18 false (some 19) (.mv 19 (.t 0)) .unit,
  .g 18 false (some 20) (.idx 20 (.t 19) (.c (.int .i64 1))) .unit,
  .g 18 false (some 21) (.bin 21 false .lss (.t 20) (.c (.int .u8 49))) .unit,
  .p (.pick 22 (.t 18) (.c (.bool true)) (.t 21)) .unit,
  .p (.mv 23 (.t 22)) .unit,
  .g 23 false (some 24) (.mv 24 (.t 0)) .unit,
  .g 23 false (some 25) (.idx 25 (.t 24) (.c (.int .i64 1))) .unit,
  .g 23 false (some 26) (.bin 26 false .gtr (.t 25) (.c (.int .u8 57))) .unit,
  .p (.pick 27 (.t 23) (.c (.bool true)) (.t 26)) .unit,
  .p (.mv 28 (.t 27)) .unit,
  .g 28 false (some 29) (.mv 29 (.t 0)) .unit,
  .g 28 false (some 30) (.slcS 30 (.t 29) (some (.c (.int .i64 3))) none) .unit,
  .g 28 false (some 31) (.callB 31 n_spec_NameOk [((.t 30), 0)]) .unit,
  .g 28 false (some 32) (.un 32 .not (.t 31)) .unit,
  .p (.pick 33 (.t 28) (.c (.bool true)) (.t 32)) .unit]))
 (.cond (.t 33) (.seq (.reg none [.p (.mv 2 (.c (.int .i64 0))) .unit,
  .p (.mv 3 (.c (.string (ba [])))) .unit,
  .p (.mv 4 (.c (.bool false))) .unit])
 .ret) .skip))
 (.seq (.reg (some [[], [0], [1], [2], [], [4], [3, 0, 1, 2, 3], [5, 6, 0, 1, 2, 3, 4, 5, 6], [7, 0, 1, 2, 3, 4, 5, 6, 7]]) [.p (.mv 34 (.t 0)) .unit,
  .p (.idx 35 (.t 34) (.c (.int .i64 1))) .unit,
  .p (.cvi 36 .i64 .u8 (.t 35)) .unit,
  .p (.bin 37 false .sub (.t 36) (.c (.int .i64 48))) .unit,
  .p (.mv 38 (.t 0)) .unit,
  .p (.slcS 39 (.t 38) (some (.c (.int .i64 3))) none) .unit,
  .p (.mv 2 (.t 37)) .unit,
  .p (.mv 3 (.t 39)) .unit,
  .p (.mv 4 (.c (.bool true))) .unit])
 .ret))),
 40, 1, [.t 2, .t 3, .t 4]⟩
theorem m_spec_SplitPrivate : mH Tryd.prog 19 [] = some (F_spec_SplitPrivate.code.x, F_spec_SplitPrivate.N, F_spec_SplitPrivate.np, F_spec_SplitPrivate.res) := by kernel_rfl
noncomputable def T_spec_SplitPrivate : List UInt8 → Option ((Int) × (List UInt8) × Bool) := evF [fn_spec_NameOk] F_spec_SplitPrivate [.cell .str] [] [.cell (.int .i64), .cell .str, .cell .bool] []
noncomputable def fn_spec_SplitPrivate : TFn := ⟨19, [.cell .str], [], [.cell (.int .i64), .cell .str, .cell .bool], [], T_spec_SplitPrivate⟩
theorem ok_spec_SplitPrivate : FnOk Tryd.prog fn_spec_SplitPrivate := evF_ok mixed (allOk_cons ok_spec_NameOk allOk_nil) m_spec_SplitPrivate (by decide)
def F_spec_l17Private : TF := ⟨(.seq (.reg none [.p (.mv 2 (.c (.bool false))) .unit])
 (.seq (.reg none [.p (.mv 7 (.t 0)) .unit,
  .p (.callB 8 n_spec_SplitPrivate [((.t 7), 0)]) .unit,
  .p (.mv 6 (.t 8)) .unit,
  .p (.ext 9 (.t 6) 0) .unit,
  .p (.ext 10 (.t 6) 1) .unit,
  .p (.ext 11 (.t 6) 2) .unit,
  .p (.mv 3 (.t 9)) .unit,
  .p (.mv 4 (.t 10)) .unit,
  .p (.mv 5 (.t 11)) .unit])
 (.seq (.reg none [.p (.mv 12 (.t 5)) .unit,
  .p (.mv 2 (.t 12)) .unit])
 .ret))),
 13, 1, [.t 2]⟩
theorem m_spec_l17Private : mH Tryd.prog 53 [] = some (F_spec_l17Private.code.x, F_spec_l17Private.N, F_spec_l17Private.np, F_spec_l17Private.res) := by kernel_rfl
noncomputable def T_spec_l17Private : List UInt8 → Option (Bool) := evF [fn_spec_SplitPrivate] F_spec_l17Private [.cell .str] [] [.cell .bool] []
noncomputable def fn_spec_l17Private : TFn := ⟨53, [.cell .str], [], [.cell .bool], [], T_spec_l17Private⟩
theorem ok_spec_l17Private : FnOk Tryd.prog fn_spec_l17Private := evF_ok mixed (allOk_cons ok_spec_SplitPrivate allOk_nil) m_spec_l17Private (by decide)
def B_spec_TableOk_1 : TC := (.seq (.seq (.reg none [.p (.mv 49 (.t 5)) .unit,
  .p (.fadr 50 (.t 4) 1) .unit,
  .p (.load 51 (.t 50) 1 false) .unit,
  .p (.lenB 52 (.t 51)) .unit,
  .p (.bin 53 false .lss (.t 49) (.t 52)) .unit])
 (.cond (.t 53) .skip (.exit 2)))
 (.seq (.block 3 (.seq (.join ⟨[(1, false), (3, false), (4, false), (5, false), (80, false)], [.box (.sl false (.pair .str (.sl false .str))), .cell (.int .i64), .box (.pair .str (.sl false .str)), .cell (.int .i64), .cell .bool]⟩ (.reg (some [[], [0], [], [1, 2], [3], [4], [5], [6, 5], [7], [8, 7], [9, 7, 7], [10], [11, 10], [10], [13, 10], [12, 14, 10], [15, 10], [10], [17, 10], [10], [18, 19, 10], [20, 10], [16, 21, 10], [10, 22, 7], [7, 23]]) [.p (.fadr 56 (.t 4) 1) .unit,
  .p (.load 57 (.t 56) 1 false) .unit,
  .p (.mv 58 (.t 5)) .unit,
  .p (.iadr 59 1 (.t 57) (.t 58)) .unit,
  .p (.load 60 (.t 59) 1 false) .unit,
  .p (.callB 61 n_spec_l17Private [((.t 60), 0)]) .unit,
  .p (.un 62 .not (.t 61)) .unit,
  .p (.mv 63 (.t 62)) .unit,
  .g 63 false (some 64) (.mv 64 (.t 5)) .unit,
  .g 63 false (some 65) (.bin 65 false .gtr (.t 64) (.c (.int .i64 0))) .unit,
  .g 63 false (some 66) (.mv 66 (.t 65)) .unit,
  .g 66 true (some 67) (.fadr 67 (.t 4) 1) .unit,
  .g 66 true (some 68) (.load 68 (.t 67) 1 false) .unit,
  .g 66 true (some 69) (.mv 69 (.t 5)) .unit,
  .g 66 true (some 70) (.bin 70 false .sub (.t 69) (.c (.int .i64 1))) .unit,
  .g 66 true (some 71) (.iadr 71 1 (.t 68) (.t 70)) .unit,
  .g 66 true (some 72) (.load 72 (.t 71) 1 false) .unit,
  .g 66 true (some 73) (.fadr 73 (.t 4) 1) .unit,
  .g 66 true (some 74) (.load 74 (.t 73) 1 false) .unit,
  .g 66 true (some 75) (.mv 75 (.t 5)) .unit,
  .g 66 true (some 76) (.iadr 76 1 (.t 74) (.t 75)) .unit,
  .g 66 true (some 77) (.load 77 (.t 76) 1 false) .unit,
  .g 66 true (some 78) (.bin 78 false .geq (.t 72) (.t 77)) .unit,
  .g 63 false (some 79) (.pick 79 (.t 66) (.t 78) (.c (.bool false))) .unit,
  .p (.pick 80 (.t 63) (.c (.bool true)) (.t 79)) .unit]))
 (.cond (.t 80) (.seq (.reg none [.p (.mv 2 (.c (.bool false))) .unit])
 .ret) .skip)))
 (.reg none [.p (.mv 54 (.t 5)) .unit,
  .p (.bin 55 false .add (.t 54) (.c (.int .i64 1))) .unit,
  .p (.mv 5 (.t 55)) .unit])))
noncomputable def L_spec_TableOk_1 : Nat → (List (List UInt8 × List (List UInt8))) × (Int) × (List UInt8 × List (List UInt8)) × Int → Option (((List (List UInt8 × List (List UInt8))) × Int) ⊕ (Bool)) := evL [fn_spec_NameOk, fn_spec_l01In, fn_spec_l17Private] (finT [.t 2] [] [.cell .bool]) 2 ⟨[(1, false), (3, false), (4, false), (5, false)], [.box (.sl false (.pair .str (.sl false .str))), .cell (.int .i64), .box (.pair .str (.sl false .str)), .cell (.int .i64)]⟩ ⟨[(1, false), (3, false)], [.box (.sl false (.pair .str (.sl false .str))), .cell (.int .i64)]⟩ B_spec_TableOk_1
def B_spec_TableOk_2 : TC := (.seq (.seq (.reg none [.p (.mv 10 (.t 3)) .unit,
  .p (.fadr 11 (.t 1) 0) .unit,
  .p (.load 12 (.t 11) 1 false) .unit,
  .p (.lenB 13 (.t 12)) .unit,
  .p (.bin 14 false .lss (.t 10) (.t 13)) .unit])
 (.cond (.t 14) .skip (.exit 0)))
 (.seq (.block 1 (.seq (.reg none [.p (.fadr 17 (.t 1) 0) .unit,
  .p (.load 18 (.t 17) 1 false) .unit,
  .p (.mv 19 (.t 3)) .unit,
  .p (.iadr 20 2 (.t 18) (.t 19)) .unit,
  .p (.load 21 (.t 20) 2 true) .unit,
  .p (.alloc 4 [(.lit (.string (ba []))), (.sl true 1 [])]) .unit,
  .p (.store (.t 4) (.t 21) 2) .unit])
 (.seq (.seq (.join ⟨[(1, false), (3, false), (4, false), (48, false)], [.box (.sl false (.pair .str (.sl false .str))), .cell (.int .i64), .box (.pair .str (.sl false .str)), .cell .bool]⟩ (.reg (some [[], [0], [1], [2], [3, 2], [4], [5, 4], [6, 4, 4], [7], [8, 7], [7], [10, 7], [9, 11, 7], [12, 7], [13, 7], [7], [15, 7], [14, 16, 7], [7, 17, 4], [4, 18], [19, 7], [20], [21, 20], [22, 20], [23, 20, 20], [24, 20], [20, 25]]) [.p (.fadr 22 (.t 4) 0) .unit,
  .p (.load 23 (.t 22) 1 false) .unit,
  .p (.callB 24 n_spec_NameOk [((.t 23), 0)]) .unit,
  .p (.un 25 .not (.t 24)) .unit,
  .p (.mv 26 (.t 25)) .unit,
  .g 26 false (some 27) (.mv 27 (.t 3)) .unit,
  .g 26 false (some 28) (.bin 28 false .gtr (.t 27) (.c (.int .i64 0))) .unit,
  .g 26 false (some 29) (.mv 29 (.t 28)) .unit,
  .g 29 true (some 30) (.fadr 30 (.t 1) 0) .unit,
  .g 29 true (some 31) (.load 31 (.t 30) 1 false) .unit,
  .g 29 true (some 32) (.mv 32 (.t 3)) .unit,
  .g 29 true (some 33) (.bin 33 false .sub (.t 32) (.c (.int .i64 1))) .unit,
  .g 29 true (some 34) (.iadr 34 2 (.t 31) (.t 33)) .unit,
  .g 29 true (some 35) (.fadr 35 (.t 34) 0) .unit,
  .g 29 true (some 36) (.load 36 (.t 35) 1 false) .unit,
  .g 29 true (some 37) (.fadr 37 (.t 4) 0) .unit,
  .g 29 true (some 38) (.load 38 (.t 37) 1 false) .unit,
  .g 29 true (some 39) (.bin 39 false .geq (.t 36) (.t 38)) .unit,
  .g 26 false (some 40) (.pick 40 (.t 29) (.t 39) (.c (.bool false))) .unit,
  .p (.pick 41 (.t 26) (.c (.bool true)) (.t 40)) .unit,
  .p (.mv 42 (.t 41)) .unit,
  .g 42 false (some 43) (.fadr 43 (.t 4) 1) .unit,
  .g 42 false (some 44) (.load 44 (.t 43) 1 false) .unit,
  .g 42 false (some 45) (.lenB 45 (.t 44)) .unit,
  .g 42 false (some 46) (.callB 46 n_spec_l01In [((.t 45), 0), ((.c (.int .i64 1)), 0), ((.c (.int .i64 8)), 0)]) .unit,
  .g 42 false (some 47) (.un 47 .not (.t 46)) .unit,
  .p (.pick 48 (.t 42) (.c (.bool true)) (.t 47)) .unit]))
 (.cond (.t 48) (.seq (.reg none [.p (.mv 2 (.c (.bool false))) .unit])
 .ret) .skip))
 (.seq (.reg none [.p (.mv 5 (.c (.int .i64 0))) .unit])
 (.jl 2 ⟨[(1, false), (3, false), (4, false), (5, false)], [.box (.sl false (.pair .str (.sl false .str))), .cell (.int .i64), .box (.pair .str (.sl false .str)), .cell (.int .i64)]⟩ ⟨[(1, false), (3, false)], [.box (.sl false (.pair .str (.sl false .str))), .cell (.int .i64)]⟩ B_spec_TableOk_1)))))
 (.reg none [.p (.mv 15 (.t 3)) .unit,
  .p (.bin 16 false .add (.t 15) (.c (.int .i64 1))) .unit,
  .p (.mv 3 (.t 16)) .unit])))
noncomputable def L_spec_TableOk_2 : Nat → (List (List UInt8 × List (List UInt8))) × Int → Option ((Unit) ⊕ (Bool)) := evL [fn_spec_NameOk, fn_spec_l01In, fn_spec_l17Private] (finT [.t 2] [] [.cell .bool]) 0 ⟨[(1, false), (3, false)], [.box (.sl false (.pair .str (.sl false .str))), .cell (.int .i64)]⟩ ⟨[], []⟩ B_spec_TableOk_2
def F_spec_TableOk : TF := ⟨(.seq (.reg none [.p (.box 1 (.t 0)) .unit,
  .p (.mv 2 (.c (.bool false))) .unit])
 (.seq (.seq (.reg none [.p (.fadr 6 (.t 1) 0) .unit,
  .p (.load 7 (.t 6) 1 false) .unit,
  .p (.lenB 8 (.t 7)) .unit,
  .p (.bin 9 false .gtr (.t 8) (.c (.int .i64 6))) .unit])
 (.cond (.t 9) (.seq (.reg none [.p (.mv 2 (.c (.bool false))) .unit])
 .ret) .skip))
 (.seq (.seq (.reg none [.p (.mv 3 (.c (.int .i64 0))) .unit])
 (.jl 0 ⟨[(1, false), (3, false)], [.box (.sl false (.pair .str (.sl false .str))), .cell (.int .i64)]⟩ ⟨[], []⟩ B_spec_TableOk_2))
 (.seq (.reg none [.p (.mv 2 (.c (.bool true))) .unit])
 .ret)))),
 81, 1, [.t 2]⟩
theorem m_spec_TableOk : mH Tryd.prog 32 [] = some (F_spec_TableOk.code.x, F_spec_TableOk.N, F_spec_TableOk.np, F_spec_TableOk.res) := by kernel_rfl
noncomputable def T_spec_TableOk : List (List UInt8 × List (List UInt8)) → Option (Bool) := evF [fn_spec_NameOk, fn_spec_l01In, fn_spec_l17Private] F_spec_TableOk [.agg (.sl false (.pair .str (.sl false .str)))] [] [.cell .bool] []
noncomputable def fn_spec_TableOk : TFn := ⟨32, [.agg (.sl false (.pair .str (.sl false .str)))], [], [.cell .bool], [], T_spec_TableOk⟩
theorem ok_spec_TableOk : FnOk Tryd.prog fn_spec_TableOk := evF_ok mixed (allOk_cons ok_spec_NameOk (allOk_cons ok_spec_l01In (allOk_cons ok_spec_l17Private allOk_nil))) m_spec_TableOk (by decide)
def B_spec_MembersOf_1 : TC := (.seq (.seq (.reg none [.p (.mv 6 (.t 5)) .unit,
  .p (.fadr 7 (.t 2) 0) .unit,
  .p (.load 8 (.t 7) 1 false) .unit,
  .p (.lenB 9 (.t 8)) .unit,
  .p (.bin 10 false .lss (.t 6) (.t 9)) .unit])
 (.cond (.t 10) .skip (.exit 0)))
 (.seq (.block 1 (.seq (.reg none [.p (.fadr 13 (.t 2) 0) .unit,
  .p (.load 14 (.t 13) 1 false) .unit,
  .p (.mv 15 (.t 5)) .unit,
  .p (.iadr 16 2 (.t 14) (.t 15)) .unit,
  .p (.fadr 17 (.t 16) 0) .unit,
  .p (.load 18 (.t 17) 1 false) .unit,
  .p (.mv 19 (.t 1)) .unit,
  .p (.bin 20 false .eql (.t 18) (.t 19)) .unit])
 (.cond (.t 20) (.seq (.reg none [.p (.bldS 21 0 [(.lit (.string (ba [])))] []) .str,
  .p (.fadr 22 (.t 2) 0) .unit,
  .p (.load 23 (.t 22) 1 false) .unit,
  .p (.mv 24 (.t 5)) .unit,
  .p (.iadr 25 2 (.t 23) (.t 24)) .unit,
  .p (.fadr 26 (.t 25) 1) .unit,
  .p (.load 27 (.t 26) 1 false) .unit,
  .p (.app 28 1 16 (.t 21) (.t 27)) .str,
  .p (.mvT 4 28) .unit])
 .ret) .skip)))
 (.reg none [.p (.mv 11 (.t 5)) .unit,
  .p (.bin 12 false .add (.t 11) (.c (.int .i64 1))) .unit,
  .p (.mv 5 (.t 12)) .unit])))
noncomputable def L_spec_MembersOf_1 : Nat → (List UInt8) × (List (List UInt8 × List (List UInt8))) × Int → Option ((Unit) ⊕ (List (List UInt8))) := evL [] (finT [.t 4] [] [.cell (.sl true .str)]) 0 ⟨[(1, true), (2, false), (5, false)], [.cell .str, .box (.sl false (.pair .str (.sl false .str))), .cell (.int .i64)]⟩ ⟨[], []⟩ B_spec_MembersOf_1
def F_spec_MembersOf : TF := ⟨(.seq (.reg none [.p (.box 2 (.t 0)) .unit,
  .p (.mvN 4 1) .unit])
 (.seq (.seq (.reg none [.p (.mv 5 (.c (.int .i64 0))) .unit])
 (.jl 0 ⟨[(1, true), (2, false), (5, false)], [.cell .str, .box (.sl false (.pair .str (.sl false .str))), .cell (.int .i64)]⟩ ⟨[], []⟩ B_spec_MembersOf_1))
 (.seq (.reg none [.p (.bldS 29 0 [(.lit (.string (ba [])))] []) .str,
  .p (.mvT 4 29) .unit])
 .ret))),
 30, 2, [.t 4]⟩
theorem m_spec_MembersOf : mH Tryd.prog 33 [(5, 8, .t), (6, 1, .t)] = some (F_spec_MembersOf.code.x, F_spec_MembersOf.N, F_spec_MembersOf.np, F_spec_MembersOf.res) := by kernel_rfl
noncomputable def T_spec_MembersOf : (List (List UInt8 × List (List UInt8))) × List UInt8 → Option (List (List UInt8)) := evF [] F_spec_MembersOf [.agg (.sl false (.pair .str (.sl false .str))), .cell .str] [] [.cell (.sl true .str)] []
noncomputable def fn_spec_MembersOf : TFn := ⟨33, [.agg (.sl false (.pair .str (.sl false .str))), .cell .str], [], [.cell (.sl true .str)], [], T_spec_MembersOf⟩
theorem ok_spec_MembersOf : FnOk Tryd.prog fn_spec_MembersOf := evF_ok mixed allOk_nil m_spec_MembersOf (by decide)
def B_spec_l03Insert_1 : TC := (.seq (.seq (.reg none [.p (.mv 9 (.t 6)) .unit,
  .p (.mv 10 (.t 0)) .unit,
  .p (.lenB 11 (.t 10)) .unit,
  .p (.bin 12 false .lss (.t 9) (.t 11)) .unit])
 (.cond (.t 12) .skip (.exit 0)))
 (.seq (.join ⟨[(0, true), (1, true), (5, false), (6, false)], [.cell (.sl false .str), .cell .str, .cell (.sl true .str), .cell (.int .i64)]⟩ (.block 1 (.seq (.reg none [.p (.mv 15 (.t 0)) .unit,
  .p (.mv 16 (.t 6)) .unit,
  .p (.iadr 17 1 (.t 15) (.t 16)) .unit,
  .p (.load 18 (.t 17) 1 false) .unit,
  .p (.mv 19 (.t 1)) .unit,
  .p (.bin 20 false .lss (.t 18) (.t 19)) .unit])
 (.cond (.t 20) (.reg none [.p (.mvT 21 5) .unit,
  .p (.mv 22 (.t 0)) .unit,
  .p (.mv 23 (.t 6)) .unit,
  .p (.iadr 24 1 (.t 22) (.t 23)) .unit,
  .p (.load 25 (.t 24) 1 false) .unit,
  .p (.bldS 26 1 [(.lit (.string (ba [])))] [⟨0, 1, (.t 25)⟩]) .str,
  .p (.app 27 1 16 (.t 21) (.t 26)) .str,
  .p (.mvT 5 27) .unit]) .skip))))
 (.reg none [.p (.mv 13 (.t 6)) .unit,
  .p (.bin 14 false .add (.t 13) (.c (.int .i64 1))) .unit,
  .p (.mv 6 (.t 14)) .unit])))
noncomputable def L_spec_l03Insert_1 : Nat → (List (List UInt8)) × (List UInt8) × (List (List UInt8)) × Int → Option (((List (List UInt8)) × (List UInt8) × List (List UInt8)) ⊕ (List (List UInt8))) := evL [] (finT [.t 4] [] [.cell (.sl true .str)]) 0 ⟨[(0, true), (1, true), (5, false), (6, false)], [.cell (.sl false .str), .cell .str, .cell (.sl true .str), .cell (.int .i64)]⟩ ⟨[(0, true), (1, true), (5, false)], [.cell (.sl false .str), .cell .str, .cell (.sl true .str)]⟩ B_spec_l03Insert_1
def B_spec_l03Insert_2 : TC := (.seq (.seq (.reg none [.p (.mv 32 (.t 7)) .unit,
  .p (.mv 33 (.t 0)) .unit,
  .p (.lenB 34 (.t 33)) .unit,
  .p (.bin 35 false .lss (.t 32) (.t 34)) .unit])
 (.cond (.t 35) .skip (.exit 2)))
 (.seq (.join ⟨[(0, true), (1, true), (5, false), (7, false)], [.cell (.sl false .str), .cell .str, .cell (.sl true .str), .cell (.int .i64)]⟩ (.block 3 (.seq (.reg none [.p (.mv 38 (.t 0)) .unit,
  .p (.mv 39 (.t 7)) .unit,
  .p (.iadr 40 1 (.t 38) (.t 39)) .unit,
  .p (.load 41 (.t 40) 1 false) .unit,
  .p (.mv 42 (.t 1)) .unit,
  .p (.bin 43 false .gtr (.t 41) (.t 42)) .unit])
 (.cond (.t 43) (.reg none [.p (.mvT 44 5) .unit,
  .p (.mv 45 (.t 0)) .unit,
  .p (.mv 46 (.t 7)) .unit,
  .p (.iadr 47 1 (.t 45) (.t 46)) .unit,
  .p (.load 48 (.t 47) 1 false) .unit,
  .p (.bldS 49 1 [(.lit (.string (ba [])))] [⟨0, 1, (.t 48)⟩]) .str,
  .p (.app 50 1 16 (.t 44) (.t 49)) .str,
  .p (.mvT 5 50) .unit]) .skip))))
 (.reg none [.p (.mv 36 (.t 7)) .unit,
  .p (.bin 37 false .add (.t 36) (.c (.int .i64 1))) .unit,
  .p (.mv 7 (.t 37)) .unit])))
noncomputable def L_spec_l03Insert_2 : Nat → (List (List UInt8)) × (List UInt8) × (List (List UInt8)) × Int → Option ((List (List UInt8)) ⊕ (List (List UInt8))) := evL [] (finT [.t 4] [] [.cell (.sl true .str)]) 2 ⟨[(0, true), (1, true), (5, false), (7, false)], [.cell (.sl false .str), .cell .str, .cell (.sl true .str), .cell (.int .i64)]⟩ ⟨[(5, false)], [.cell (.sl true .str)]⟩ B_spec_l03Insert_2
def F_spec_l03Insert : TF := ⟨(.seq (.reg none [.p (.mvN 4 1) .unit])
 (.seq (.reg none [.p (.bldS 8 0 [(.lit (.string (ba [])))] []) .str,
  .p (.mvT 5 8) .unit])
 (.seq (.seq (.reg none [.p (.mv 6 (.c (.int .i64 0))) .unit])
 (.jl 0 ⟨[(0, true), (1, true), (5, false), (6, false)], [.cell (.sl false .str), .cell .str, .cell (.sl true .str), .cell (.int .i64)]⟩ ⟨[(0, true), (1, true), (5, false)], [.cell (.sl false .str), .cell .str, .cell (.sl true .str)]⟩ B_spec_l03Insert_1))
 (.seq (.reg none [.p (.mvT 28 5) .unit,
  .p (.mv 29 (.t 1)) .unit,
  .p (.bldS 30 1 [(.lit (.string (ba [])))] [⟨0, 1, (.t 29)⟩]) .str,
  .p (.app 31 1 16 (.t 28) (.t 30)) .str,
  .p (.mvT 5 31) .unit])
 (.seq (.seq (.reg none [.p (.mv 7 (.c (.int .i64 0))) .unit])
 (.jl 2 ⟨[(0, true), (1, true), (5, false), (7, false)], [.cell (.sl false .str), .cell .str, .cell (.sl true .str), .cell (.int .i64)]⟩ ⟨[(5, false)], [.cell (.sl true .str)]⟩ B_spec_l03Insert_2))
 (.seq (.reg none [.p (.mvT 51 5) .unit,
  .p (.mvT 4 51) .unit])
 .ret)))))),
 52, 2, [.t 4]⟩
theorem m_spec_l03Insert : mH Tryd.prog 34 [(1, 1, .t), (6, 0, .t), (6, 7, .t), (7, 0, .t), (7, 4, .t), (12, 0, .t), (12, 7, .t), (13, 0, .t), (13, 1, .t)] = some (F_spec_l03Insert.code.x, F_spec_l03Insert.N, F_spec_l03Insert.np, F_spec_l03Insert.res) := by kernel_rfl
noncomputable def T_spec_l03Insert : (List (List UInt8)) × List UInt8 → Option (List (List UInt8)) := evF [] F_spec_l03Insert [.cell (.sl false .str), .cell .str] [] [.cell (.sl true .str)] []
noncomputable def fn_spec_l03Insert : TFn := ⟨34, [.cell (.sl false .str), .cell .str], [], [.cell (.sl true .str)], [], T_spec_l03Insert⟩
theorem ok_spec_l03Insert : FnOk Tryd.prog fn_spec_l03Insert := evF_ok mixed allOk_nil m_spec_l03Insert (by decide)
def B_spec_l17Set_1 : TC := (.seq (.seq (.reg none [.p (.mv 11 (.t 8)) .unit,
  .p (.fadr 12 (.t 3) 0) .unit,
  .p (.load 13 (.t 12) 1 false) .unit,
  .p (.lenB 14 (.t 13)) .unit,
  .p (.bin 15 false .lss (.t 11) (.t 14)) .unit])
 (.cond (.t 15) .skip (.exit 0)))
 (.seq (.join ⟨[(1, true), (2, true), (3, false), (6, false), (7, false), (8, false)], [.cell .str, .cell (.sl false .str), .box (.sl false (.pair .str (.sl false .str))), .box (.sl true (.pair .str (.sl false .str))), .box (.sl true (.pair .str (.sl false .str))), .cell (.int .i64)]⟩ (.block 1 (.seq (.reg none [.p (.fadr 18 (.t 3) 0) .unit,
  .p (.load 19 (.t 18) 1 false) .unit,
  .p (.mv 20 (.t 8)) .unit,
  .p (.iadr 21 2 (.t 19) (.t 20)) .unit,
  .p (.fadr 22 (.t 21) 0) .unit,
  .p (.load 23 (.t 22) 1 false) .unit,
  .p (.mv 24 (.t 1)) .unit,
  .p (.bin 25 false .lss (.t 23) (.t 24)) .unit])
 (.cond (.t 25) (.reg (some [[], [0], [], [2], [], [3, 4], [5], [6], [1, 7], [0, 1, 2, 3, 4, 5, 6, 7, 8], [9, 8, 8, 0, 1, 2, 3, 4, 5, 6, 7, 8]]) [.p (.fadr 26 (.t 7) 0) .unit,
  .p (.load 27 (.t 26) 1 false) .unit,
  .p (.fadr 28 (.t 3) 0) .unit,
  .p (.load 29 (.t 28) 1 false) .unit,
  .p (.mv 30 (.t 8)) .unit,
  .p (.iadr 31 2 (.t 29) (.t 30)) .unit,
  .p (.load 32 (.t 31) 2 true) .unit,
  .p (.bldS 33 1 [(.lit (.string (ba []))), (.sl true 1 [])] [⟨0, 2, (.t 32)⟩]) (.pair .str (.sl false .str)),
  .p (.appC 34 2 40 27 (.t 33) false) (.pair .str (.sl false .str)),
  .p (.fadr 35 (.t 7) 0) .unit,
  .p (.storeT (.t 35) 34 1) .unit]) .skip))))
 (.reg none [.p (.mv 16 (.t 8)) .unit,
  .p (.bin 17 false .add (.t 16) (.c (.int .i64 1))) .unit,
  .p (.mv 8 (.t 17)) .unit])))
noncomputable def L_spec_l17Set_1 : Nat → (List UInt8) × (List (List UInt8)) × (List (List UInt8 × List (List UInt8))) × (List (List UInt8 × List (List UInt8))) × (List (List UInt8 × List (List UInt8))) × Int → Option (((List UInt8) × (List (List UInt8)) × (List (List UInt8 × List (List UInt8))) × (List (List UInt8 × List (List UInt8))) × List (List UInt8 × List (List UInt8))) ⊕ (List (List UInt8 × List (List UInt8)))) := evL [] (finT [.c 6 1 true] [] [.agg (.sl true (.pair .str (.sl false .str)))]) 0 ⟨[(1, true), (2, true), (3, false), (6, false), (7, false), (8, false)], [.cell .str, .cell (.sl false .str), .box (.sl false (.pair .str (.sl false .str))), .box (.sl true (.pair .str (.sl false .str))), .box (.sl true (.pair .str (.sl false .str))), .cell (.int .i64)]⟩ ⟨[(1, true), (2, true), (3, false), (6, false), (7, false)], [.cell .str, .cell (.sl false .str), .box (.sl false (.pair .str (.sl false .str))), .box (.sl true (.pair .str (.sl false .str))), .box (.sl true (.pair .str (.sl false .str)))]⟩ B_spec_l17Set_1
def B_spec_l17Set_2 : TC := (.seq (.seq (.reg none [.p (.mv 47 (.t 9)) .unit,
  .p (.fadr 48 (.t 3) 0) .unit,
  .p (.load 49 (.t 48) 1 false) .unit,
  .p (.lenB 50 (.t 49)) .unit,
  .p (.bin 51 false .lss (.t 47) (.t 50)) .unit])
 (.cond (.t 51) .skip (.exit 2)))
 (.seq (.join ⟨[(1, true), (3, false), (6, false), (7, false), (9, false)], [.cell .str, .box (.sl false (.pair .str (.sl false .str))), .box (.sl true (.pair .str (.sl false .str))), .box (.sl true (.pair .str (.sl false .str))), .cell (.int .i64)]⟩ (.block 3 (.seq (.reg none [.p (.fadr 54 (.t 3) 0) .unit,
  .p (.load 55 (.t 54) 1 false) .unit,
  .p (.mv 56 (.t 9)) .unit,
  .p (.iadr 57 2 (.t 55) (.t 56)) .unit,
  .p (.fadr 58 (.t 57) 0) .unit,
  .p (.load 59 (.t 58) 1 false) .unit,
  .p (.mv 60 (.t 1)) .unit,
  .p (.bin 61 false .gtr (.t 59) (.t 60)) .unit])
 (.cond (.t 61) (.reg (some [[], [0], [], [2], [], [3, 4], [5], [6], [1, 7], [0, 1, 2, 3, 4, 5, 6, 7, 8], [9, 8, 8, 0, 1, 2, 3, 4, 5, 6, 7, 8]]) [.p (.fadr 62 (.t 7) 0) .unit,
  .p (.load 63 (.t 62) 1 false) .unit,
  .p (.fadr 64 (.t 3) 0) .unit,
  .p (.load 65 (.t 64) 1 false) .unit,
  .p (.mv 66 (.t 9)) .unit,
  .p (.iadr 67 2 (.t 65) (.t 66)) .unit,
  .p (.load 68 (.t 67) 2 true) .unit,
  .p (.bldS 69 1 [(.lit (.string (ba []))), (.sl true 1 [])] [⟨0, 2, (.t 68)⟩]) (.pair .str (.sl false .str)),
  .p (.appC 70 2 40 63 (.t 69) false) (.pair .str (.sl false .str)),
  .p (.fadr 71 (.t 7) 0) .unit,
  .p (.storeT (.t 71) 70 1) .unit]) .skip))))
 (.reg none [.p (.mv 52 (.t 9)) .unit,
  .p (.bin 53 false .add (.t 52) (.c (.int .i64 1))) .unit,
  .p (.mv 9 (.t 53)) .unit])))
noncomputable def L_spec_l17Set_2 : Nat → (List UInt8) × (List (List UInt8 × List (List UInt8))) × (List (List UInt8 × List (List UInt8))) × (List (List UInt8 × List (List UInt8))) × Int → Option (((List (List UInt8 × List (List UInt8))) × List (List UInt8 × List (List UInt8))) ⊕ (List (List UInt8 × List (List UInt8)))) := evL [] (finT [.c 6 1 true] [] [.agg (.sl true (.pair .str (.sl false .str)))]) 2 ⟨[(1, true), (3, false), (6, false), (7, false), (9, false)], [.cell .str, .box (.sl false (.pair .str (.sl false .str))), .box (.sl true (.pair .str (.sl false .str))), .box (.sl true (.pair .str (.sl false .str))), .cell (.int .i64)]⟩ ⟨[(6, false), (7, false)], [.box (.sl true (.pair .str (.sl false .str))), .box (.sl true (.pair .str (.sl false .str)))]⟩ B_spec_l17Set_2
def F_spec_l17Set : TF := ⟨(.seq (.reg none [.p (.box 3 (.t 0)) .unit,
  .p (.alloc 6 [(.sl true 2 [])]) .unit])
 (.seq (.reg none [.p (.bld 10 [(.sl true 2 [])] []) .unit,
  .p (.alloc 7 [(.sl true 2 [])]) .unit,
  .p (.storeT (.t 7) 10 1) .unit])
 (.seq (.seq (.reg none [.p (.mv 8 (.c (.int .i64 0))) .unit])
 (.jl 0 ⟨[(1, true), (2, true), (3, false), (6, false), (7, false), (8, false)], [.cell .str, .cell (.sl false .str), .box (.sl false (.pair .str (.sl false .str))), .box (.sl true (.pair .str (.sl false .str))), .box (.sl true (.pair .str (.sl false .str))), .cell (.int .i64)]⟩ ⟨[(1, true), (2, true), (3, false), (6, false), (7, false)], [.cell .str, .cell (.sl false .str), .box (.sl false (.pair .str (.sl false .str))), .box (.sl true (.pair .str (.sl false .str))), .box (.sl true (.pair .str (.sl false .str)))]⟩ B_spec_l17Set_1))
 (.seq (.join ⟨[(1, true), (3, false), (6, false), (7, false)], [.cell .str, .box (.sl false (.pair .str (.sl false .str))), .box (.sl true (.pair .str (.sl false .str))), .box (.sl true (.pair .str (.sl false .str)))]⟩ (.seq (.reg none [.p (.mv 36 (.t 2)) .unit,
  .p (.lenB 37 (.t 36)) .unit,
  .p (.bin 38 false .gtr (.t 37) (.c (.int .i64 0))) .unit])
 (.cond (.t 38) (.reg none [.p (.fadr 39 (.t 7) 0) .unit,
  .p (.load 40 (.t 39) 1 false) .unit,
  .p (.mv 41 (.t 1)) .unit,
  .p (.mv 42 (.t 2)) .unit,
  .p (.bld 43 [(.lit (.string (ba []))), (.sl true 1 [])] [⟨0, 1, (.t 41)⟩, ⟨1, 1, (.t 42)⟩]) .unit,
  .p (.bldS 44 1 [(.lit (.string (ba []))), (.sl true 1 [])] [⟨0, 2, (.t 43)⟩]) (.pair .str (.sl false .str)),
  .p (.appC 45 2 40 40 (.t 44) false) (.pair .str (.sl false .str)),
  .p (.fadr 46 (.t 7) 0) .unit,
  .p (.storeT (.t 46) 45 1) .unit]) .skip)))
 (.seq (.seq (.reg none [.p (.mv 9 (.c (.int .i64 0))) .unit])
 (.jl 2 ⟨[(1, true), (3, false), (6, false), (7, false), (9, false)], [.cell .str, .box (.sl false (.pair .str (.sl false .str))), .box (.sl true (.pair .str (.sl false .str))), .box (.sl true (.pair .str (.sl false .str))), .cell (.int .i64)]⟩ ⟨[(6, false), (7, false)], [.box (.sl true (.pair .str (.sl false .str))), .box (.sl true (.pair .str (.sl false .str)))]⟩ B_spec_l17Set_2))
 (.seq (.reg none [.p (.loadT 72 (.t 7) 1 true) .unit,
  .p (.storeT (.t 6) 72 1) .unit])
 .ret)))))),
 73, 3, [.c 6 1 true]⟩
theorem m_spec_l17Set : mH Tryd.prog 21 [(1, 2, .t), (6, 8, .z), (6, 10, .t), (8, 6, .z), (8, 8, .t), (13, 8, .z), (13, 10, .t), (14, 0, .t), (14, 1, .t)] = some (F_spec_l17Set.code.x, F_spec_l17Set.N, F_spec_l17Set.np, F_spec_l17Set.res) := by kernel_rfl
noncomputable def T_spec_l17Set : (List (List UInt8 × List (List UInt8))) × (List UInt8) × List (List UInt8) → Option (List (List UInt8 × List (List UInt8))) := evF [] F_spec_l17Set [.agg (.sl false (.pair .str (.sl false .str))), .cell .str, .cell (.sl false .str)] [] [.agg (.sl true (.pair .str (.sl false .str)))] []
noncomputable def fn_spec_l17Set : TFn := ⟨21, [.agg (.sl false (.pair .str (.sl false .str))), .cell .str, .cell (.sl false .str)], [], [.agg (.sl true (.pair .str (.sl false .str)))], [], T_spec_l17Set⟩
theorem ok_spec_l17Set : FnOk Tryd.prog fn_spec_l17Set := evF_ok mixed allOk_nil m_spec_l17Set (by decide)
def B_spec_Merge_1 : TC := (.seq (.seq (.reg none [.p (.mv 34 (.t 8)) .unit,
  .p (.fadr 35 (.t 3) 0) .unit,
  .p (.load 36 (.t 35) 1 false) .unit,
  .p (.mv 37 (.t 6)) .unit,
  .p (.iadr 38 2 (.t 36) (.t 37)) .unit,
  .p (.fadr 39 (.t 38) 1) .unit,
  .p (.load 40 (.t 39) 1 false) .unit,
  .p (.lenB 41 (.t 40)) .unit,
  .p (.bin 42 false .lss (.t 34) (.t 41)) .unit])
 (.cond (.t 42) .skip (.exit 2)))
 (.seq (.block 3 (.reg none [.p (.mvT 45 7) .unit,
  .p (.fadr 46 (.t 3) 0) .unit,
  .p (.load 47 (.t 46) 1 false) .unit,
  .p (.mv 48 (.t 6)) .unit,
  .p (.iadr 49 2 (.t 47) (.t 48)) .unit,
  .p (.fadr 50 (.t 49) 1) .unit,
  .p (.load 51 (.t 50) 1 false) .unit,
  .p (.mv 52 (.t 8)) .unit,
  .p (.iadr 53 1 (.t 51) (.t 52)) .unit,
  .p (.load 54 (.t 53) 1 false) .unit,
  .p (.callB 55 n_spec_l03Insert [((.t 45), 0), ((.t 54), 0)]) .unit,
  .p (.mvT 7 55) .unit]))
 (.reg none [.p (.mv 43 (.t 8)) .unit,
  .p (.bin 44 false .add (.t 43) (.c (.int .i64 1))) .unit,
  .p (.mv 8 (.t 44)) .unit])))
noncomputable def L_spec_Merge_1 : Nat → (List (List UInt8 × List (List UInt8))) × (List (List UInt8 × List (List UInt8))) × (List (List UInt8 × List (List UInt8))) × (List (List UInt8 × List (List UInt8))) × (Int) × (List (List UInt8)) × Int → Option (((List (List UInt8 × List (List UInt8))) × (List (List UInt8 × List (List UInt8))) × (List (List UInt8 × List (List UInt8))) × (List (List UInt8 × List (List UInt8))) × (Int) × List (List UInt8)) ⊕ (List (List UInt8 × List (List UInt8)))) := evL [fn_spec_l17Copy, fn_spec_TableOk, fn_spec_MembersOf, fn_spec_l03Insert, fn_spec_l17Set] (finT [.c 4 1 true] [] [.agg (.sl true (.pair .str (.sl true .str)))]) 2 ⟨[(2, false), (3, false), (4, false), (5, false), (6, false), (7, false), (8, false)], [.box (.sl false (.pair .str (.sl false .str))), .box (.sl false (.pair .str (.sl false .str))), .box (.sl true (.pair .str (.sl false .str))), .box (.sl false (.pair .str (.sl false .str))), .cell (.int .i64), .cell (.sl true .str), .cell (.int .i64)]⟩ ⟨[(2, false), (3, false), (4, false), (5, false), (6, false), (7, false)], [.box (.sl false (.pair .str (.sl false .str))), .box (.sl false (.pair .str (.sl false .str))), .box (.sl true (.pair .str (.sl false .str))), .box (.sl false (.pair .str (.sl false .str))), .cell (.int .i64), .cell (.sl true .str)]⟩ B_spec_Merge_1
def B_spec_Merge_2 : TC := (.seq (.seq (.join ⟨[(2, false), (3, false), (4, false), (5, false), (6, false), (23, false)], [.box (.sl false (.pair .str (.sl false .str))), .box (.sl false (.pair .str (.sl false .str))), .box (.sl true (.pair .str (.sl false .str))), .box (.sl false (.pair .str (.sl false .str))), .cell (.int .i64), .cell .bool]⟩ (.reg none [.p (.mv 11 (.t 6)) .unit,
  .p (.fadr 12 (.t 3) 0) .unit,
  .p (.load 13 (.t 12) 1 false) .unit,
  .p (.lenB 14 (.t 13)) .unit,
  .p (.bin 15 false .lss (.t 11) (.t 14)) .unit,
  .p (.mv 16 (.t 15)) .unit,
  .g 16 true (some 17) (.load 17 (.t 2) 1 true) .unit,
  .g 16 true (some 18) (.callB 18 n_spec_TableOk [((.t 17), 0)]) .unit,
  .p (.pick 19 (.t 16) (.t 18) (.c (.bool false))) .unit,
  .p (.mv 20 (.t 19)) .unit,
  .g 20 true (some 21) (.load 21 (.t 3) 1 true) .unit,
  .g 20 true (some 22) (.callB 22 n_spec_TableOk [((.t 21), 0)]) .unit,
  .p (.pick 23 (.t 20) (.t 22) (.c (.bool false))) .unit]))
 (.cond (.t 23) .skip (.exit 0)))
 (.seq (.block 1 (.seq (.reg (some [[], [], [1], [], [2, 3], [4], [5], [0, 6], [7, 7, 0, 1, 2, 3, 4, 5, 6, 7]]) [.p (.load 26 (.t 5) 1 true) .unit,
  .p (.fadr 27 (.t 3) 0) .unit,
  .p (.load 28 (.t 27) 1 false) .unit,
  .p (.mv 29 (.t 6)) .unit,
  .p (.iadr 30 2 (.t 28) (.t 29)) .unit,
  .p (.fadr 31 (.t 30) 0) .unit,
  .p (.load 32 (.t 31) 1 false) .unit,
  .p (.callB 33 n_spec_MembersOf [((.t 26), 0), ((.t 32), 0)]) .unit,
  .p (.mvT 7 33) .unit])
 (.seq (.seq (.reg none [.p (.mv 8 (.c (.int .i64 0))) .unit])
 (.jl 2 ⟨[(2, false), (3, false), (4, false), (5, false), (6, false), (7, false), (8, false)], [.box (.sl false (.pair .str (.sl false .str))), .box (.sl false (.pair .str (.sl false .str))), .box (.sl true (.pair .str (.sl false .str))), .box (.sl false (.pair .str (.sl false .str))), .cell (.int .i64), .cell (.sl true .str), .cell (.int .i64)]⟩ ⟨[(2, false), (3, false), (4, false), (5, false), (6, false), (7, false)], [.box (.sl false (.pair .str (.sl false .str))), .box (.sl false (.pair .str (.sl false .str))), .box (.sl true (.pair .str (.sl false .str))), .box (.sl false (.pair .str (.sl false .str))), .cell (.int .i64), .cell (.sl true .str)]⟩ B_spec_Merge_1))
 (.reg (some [[], [], [1], [], [2, 3], [4], [5], [], [0, 6, 7], [8, 8, 0, 1, 2, 3, 4, 5, 6, 7, 8]]) [.p (.load 56 (.t 5) 1 true) .unit,
  .p (.fadr 57 (.t 3) 0) .unit,
  .p (.load 58 (.t 57) 1 false) .unit,
  .p (.mv 59 (.t 6)) .unit,
  .p (.iadr 60 2 (.t 58) (.t 59)) .unit,
  .p (.fadr 61 (.t 60) 0) .unit,
  .p (.load 62 (.t 61) 1 false) .unit,
  .p (.mvZ 63 7) .unit,
  .p (.callS 64 n_spec_l17Set [(.t 56), (.t 62), (.t 63)]) .unit,
  .p (.storeZ (.t 5) 64 1) .unit]))))
 (.reg none [.p (.mv 24 (.t 6)) .unit,
  .p (.bin 25 false .add (.t 24) (.c (.int .i64 1))) .unit,
  .p (.mv 6 (.t 25)) .unit])))
noncomputable def L_spec_Merge_2 : Nat → (List (List UInt8 × List (List UInt8))) × (List (List UInt8 × List (List UInt8))) × (List (List UInt8 × List (List UInt8))) × (List (List UInt8 × List (List UInt8))) × Int → Option (((List (List UInt8 × List (List UInt8))) × (List (List UInt8 × List (List UInt8))) × List (List UInt8 × List (List UInt8))) ⊕ (List (List UInt8 × List (List UInt8)))) := evL [fn_spec_l17Copy, fn_spec_TableOk, fn_spec_MembersOf, fn_spec_l03Insert, fn_spec_l17Set] (finT [.c 4 1 true] [] [.agg (.sl true (.pair .str (.sl true .str)))]) 0 ⟨[(2, false), (3, false), (4, false), (5, false), (6, false)], [.box (.sl false (.pair .str (.sl false .str))), .box (.sl false (.pair .str (.sl false .str))), .box (.sl true (.pair .str (.sl false .str))), .box (.sl false (.pair .str (.sl false .str))), .cell (.int .i64)]⟩ ⟨[(2, false), (4, false), (5, false)], [.box (.sl false (.pair .str (.sl false .str))), .box (.sl true (.pair .str (.sl false .str))), .box (.sl false (.pair .str (.sl false .str)))]⟩ B_spec_Merge_2
def F_spec_Merge : TF := ⟨(.seq (.reg none [.p (.box 2 (.t 0)) .unit,
  .p (.box 3 (.t 1)) .unit,
  .p (.alloc 4 [(.sl true 2 [])]) .unit])
 (.seq (.reg none [.p (.load 9 (.t 2) 1 true) .unit,
  .p (.callB 10 n_spec_l17Copy [((.t 9), 0)]) .unit,
  .p (.alloc 5 [(.sl true 2 [])]) .unit,
  .p (.storeZ (.t 5) 10 1) .unit])
 (.seq (.seq (.reg none [.p (.mv 6 (.c (.int .i64 0))) .unit])
 (.jl 0 ⟨[(2, false), (3, false), (4, false), (5, false), (6, false)], [.box (.sl false (.pair .str (.sl false .str))), .box (.sl false (.pair .str (.sl false .str))), .box (.sl true (.pair .str (.sl false .str))), .box (.sl false (.pair .str (.sl false .str))), .cell (.int .i64)]⟩ ⟨[(2, false), (4, false), (5, false)], [.box (.sl false (.pair .str (.sl false .str))), .box (.sl true (.pair .str (.sl false .str))), .box (.sl false (.pair .str (.sl false .str)))]⟩ B_spec_Merge_2))
 (.seq (.seq (.reg none [.p (.load 65 (.t 5) 1 true) .unit,
  .p (.callB 66 n_spec_TableOk [((.t 65), 0)]) .unit,
  .p (.un 67 .not (.t 66)) .unit])
 (.cond (.t 67) (.seq (.reg none [.p (.load 68 (.t 2) 1 true) .unit,
  .p (.callB 69 n_spec_l17Copy [((.t 68), 0)]) .unit,
  .p (.storeT (.t 4) 69 1) .unit])
 .ret) .skip))
 (.seq (.reg none [.p (.load 70 (.t 5) 1 true) .unit,
  .p (.callB 71 n_spec_l17Copy [((.t 70), 0)]) .unit,
  .p (.storeT (.t 4) 71 1) .unit])
 .ret))))),
 72, 2, [.c 4 1 true]⟩
theorem m_spec_Merge : mH Tryd.prog 15 [(1, 3, .z), (5, 8, .t), (9, 0, .t), (9, 11, .t), (10, 7, .z), (10, 8, .z), (10, 9, .z), (12, 2, .t), (13, 2, .t)] = some (F_spec_Merge.code.x, F_spec_Merge.N, F_spec_Merge.np, F_spec_Merge.res) := by kernel_rfl
noncomputable def T_spec_Merge : (List (List UInt8 × List (List UInt8))) × List (List UInt8 × List (List UInt8)) → Option (List (List UInt8 × List (List UInt8))) := evF [fn_spec_l17Copy, fn_spec_TableOk, fn_spec_MembersOf, fn_spec_l03Insert, fn_spec_l17Set] F_spec_Merge [.agg (.sl false (.pair .str (.sl false .str))), .agg (.sl false (.pair .str (.sl false .str)))] [] [.agg (.sl true (.pair .str (.sl true .str)))] []
noncomputable def fn_spec_Merge : TFn := ⟨15, [.agg (.sl false (.pair .str (.sl false .str))), .agg (.sl false (.pair .str (.sl false .str)))], [], [.agg (.sl true (.pair .str (.sl true .str)))], [], T_spec_Merge⟩
theorem ok_spec_Merge : FnOk Tryd.prog fn_spec_Merge := evF_ok mixed (allOk_cons ok_spec_l17Copy (allOk_cons ok_spec_TableOk (allOk_cons ok_spec_MembersOf (allOk_cons ok_spec_l03Insert (allOk_cons ok_spec_l17Set allOk_nil))))) m_spec_Merge (by decide)
def F_impl_inRange : TF := ⟨(.seq (.reg none [.p (.mv 6 (.c (.bool false))) .unit])
 (.seq (.reg none [.p (.mv 7 (.t 0)) .unit,
  .p (.mv 8 (.t 1)) .unit,
  .p (.bin 9 false .geq (.t 7) (.t 8)) .unit,
  .p (.mv 10 (.t 9)) .unit,
  .g 10 true (some 11) (.mv 11 (.t 0)) .unit,
  .g 10 true (some 12) (.mv 12 (.t 2)) .unit,
  .g 10 true (some 13) (.bin 13 false .leq (.t 11) (.t 12)) .unit,
  .p (.pick 14 (.t 10) (.t 13) (.c (.bool false))) .unit,
  .p (.mv 6 (.t 14)) .unit])
 .ret)),
 15, 3, [.t 6]⟩
theorem m_impl_inRange : mH Tryd.prog 64 [] = some (F_impl_inRange.code.x, F_impl_inRange.N, F_impl_inRange.np, F_impl_inRange.res) := by kernel_rfl
noncomputable def T_impl_inRange : (Int) × (Int) × Int → Option (Bool) := evF [] F_impl_inRange [.cell (.int .i64), .cell (.int .i64), .cell (.int .i64)] [] [.cell .bool] []
noncomputable def fn_impl_inRange : TFn := ⟨64, [.cell (.int .i64), .cell (.int .i64), .cell (.int .i64)], [], [.cell .bool], [], T_impl_inRange⟩
theorem ok_impl_inRange : FnOk Tryd.prog fn_impl_inRange := evF_ok mixed allOk_nil m_impl_inRange (by decide)
def B_impl_NameOk_1 : TC := (.seq (.seq (.reg none [.p (.mv 5 (.t 3)) .unit,
  .p (.mv 6 (.t 0)) .unit,
  .p (.lenS 7 (.t 6)) .unit,
  .p (.bin 8 false .lss (.t 5) (.t 7)) .unit])
 (.cond (.t 8) .skip (.exit 0)))
 (.seq (.block 1 (.seq (.join ⟨[(0, true), (3, false), (4, false)], [.cell .str, .cell (.int .i64), .cell .bool]⟩ (.reg none [.p (.mv 11 (.t 0)) .unit,
  .p (.mv 12 (.t 3)) .unit,
  .p (.idx 13 (.t 11) (.t 12)) .unit,
  .p (.bin 14 false .geq (.t 13) (.c (.int .u8 97))) .unit,
  .p (.mv 15 (.t 14)) .unit,
  .g 15 true (some 16) (.mv 16 (.t 0)) .unit,
  .g 15 true (some 17) (.mv 17 (.t 3)) .unit,
  .g 15 true (some 18) (.idx 18 (.t 16) (.t 17)) .unit,
  .g 15 true (some 19) (.bin 19 false .leq (.t 18) (.c (.int .u8 122))) .unit,
  .p (.pick 20 (.t 15) (.t 19) (.c (.bool false))) .unit,
  .p (.mv 4 (.t 20)) .unit]))
 (.seq (.join ⟨[(0, true), (3, false), (38, false)], [.cell .str, .cell (.int .i64), .cell .bool]⟩ (.reg none [.p (.mv 21 (.t 4)) .unit,
  .p (.un 22 .not (.t 21)) .unit,
  .p (.mv 23 (.t 22)) .unit,
  .g 23 true (some 24) (.mv 24 (.t 3)) .unit,
  .g 23 true (some 25) (.bin 25 false .eql (.t 24) (.c (.int .i64 0))) .unit,
  .g 23 true (some 26) (.mv 26 (.t 25)) .unit,
  .g 26 false (some 27) (.mv 27 (.t 0)) .unit,
  .g 26 false (some 28) (.mv 28 (.t 3)) .unit,
  .g 26 false (some 29) (.idx 29 (.t 27) (.t 28)) .unit,
  .g 26 false (some 30) (.bin 30 false .lss (.t 29) (.c (.int .u8 48))) .unit,
  .g 23 true (some 31) (.pick 31 (.t 26) (.c (.bool true)) (.t 30)) .unit,
  .g 23 true (some 32) (.mv 32 (.t 31)) .unit,
  .g 32 false (some 33) (.mv 33 (.t 0)) .unit,
  .g 32 false (some 34) (.mv 34 (.t 3)) .unit,
  .g 32 false (some 35) (.idx 35 (.t 33) (.t 34)) .unit,
  .g 32 false (some 36) (.bin 36 false .gtr (.t 35) (.c (.int .u8 57))) .unit,
  .g 23 true (some 37) (.pick 37 (.t 32) (.c (.bool true)) (.t 36)) .unit,
  .p (.pick 38 (.t 23) (.t 37) (.c (.bool false))) .unit]))
 (.cond (.t 38) (.seq (.reg none [.p (.mv 2 (.c (.bool false))) .unit])
 .ret) .skip))))
 (.reg none [.p (.mv 9 (.t 3)) .unit,
  .p (.bin 10 false .add (.t 9) (.c (.int .i64 1))) .unit,
  .p (.mv 3 (.t 10)) .unit])))
noncomputable def L_impl_NameOk_1 : Nat → (List UInt8) × Int → Option ((List UInt8) ⊕ (Bool)) := evL [fn_impl_inRange] (finT [.t 2] [] [.cell .bool]) 0 ⟨[(0, true), (3, false)], [.cell .str, .cell (.int .i64)]⟩ ⟨[(0, true)], [.cell .str]⟩ B_impl_NameOk_1
def F_impl_NameOk : TF := ⟨(.seq (.reg none [.p (.mv 2 (.c (.bool false))) .unit])
 (.seq (.seq (.reg none [.p (.mv 3 (.c (.int .i64 0))) .unit])
 (.jl 0 ⟨[(0, true), (3, false)], [.cell .str, .cell (.int .i64)]⟩ ⟨[(0, true)], [.cell .str]⟩ B_impl_NameOk_1))
 (.seq (.reg none [.p (.mv 39 (.t 0)) .unit,
  .p (.lenS 40 (.t 39)) .unit,
  .p (.callB 41 n_impl_inRange [((.t 40), 0), ((.c (.int .i64 1)), 0), ((.c (.int .i64 12)), 0)]) .unit,
  .p (.mv 2 (.t 41)) .unit])
 .ret))),
 42, 1, [.t 2]⟩
theorem m_impl_NameOk : mH Tryd.prog 54 [] = some (F_impl_NameOk.code.x, F_impl_NameOk.N, F_impl_NameOk.np, F_impl_NameOk.res) := by kernel_rfl
noncomputable def T_impl_NameOk : List UInt8 → Option (Bool) := evF [fn_impl_inRange] F_impl_NameOk [.cell .str] [] [.cell .bool] []
noncomputable def fn_impl_NameOk : TFn := ⟨54, [.cell .str], [], [.cell .bool], [], T_impl_NameOk⟩
theorem ok_impl_NameOk : FnOk Tryd.prog fn_impl_NameOk := evF_ok mixed (allOk_cons ok_impl_inRange allOk_nil) m_impl_NameOk (by decide)
def F_impl_Decimal : TF := ⟨(.seq (.reg none [.p (.mv 2 (.c (.string (ba [])))) .unit])
 (.seq (.reg none [.p (.mv 3 (.t 0)) .unit,
  .p (.callB 4 n_strconv_Itoa [((.t 3), 0)]) .unit,
  .p (.mv 2 (.t 4)) .unit])
 .ret)),
 5, 1, [.t 2]⟩
theorem m_impl_Decimal : mH Tryd.prog 63 [] = some (F_impl_Decimal.code.x, F_impl_Decimal.N, F_impl_Decimal.np, F_impl_Decimal.res) := by kernel_rfl
noncomputable def T_impl_Decimal : Int → Option (List UInt8) := evF [fn_strconv_Itoa] F_impl_Decimal [.cell (.int .i64)] [] [.cell .str] []
noncomputable def fn_impl_Decimal : TFn := ⟨63, [.cell (.int .i64)], [], [.cell .str], [], T_impl_Decimal⟩
theorem ok_impl_Decimal : FnOk Tryd.prog fn_impl_Decimal := evF_ok mixed (allOk_cons ok_strconv_Itoa allOk_nil) m_impl_Decimal (by decide)
def B_impl_ReadDecimal_1 : TC := (.seq (.seq (.reg none [.p (.mv 14 (.t 5)) .unit,
  .p (.mv 15 (.t 0)) .unit,
  .p (.lenS 16 (.t 15)) .unit,
  .p (.bin 17 false .lss (.t 14) (.t 16)) .unit])
 (.cond (.t 17) .skip (.exit 0)))
 (.seq (.block 1 (.seq (.seq (.join ⟨[(0, true), (4, false), (5, false), (29, false)], [.cell .str, .cell (.int .i64), .cell (.int .i64), .cell .bool]⟩ (.reg none [.p (.mv 20 (.t 0)) .unit,
  .p (.mv 21 (.t 5)) .unit,
  .p (.idx 22 (.t 20) (.t 21)) .unit,
  .p (.bin 23 false .lss (.t 22) (.c (.int .u8 48))) .unit,
  .p (.mv 24 (.t 23)) .unit,
  .g 24 false (some 25) (.mv 25 (.t 0)) .unit,
  .g 24 false (some 26) (.mv 26 (.t 5)) .unit,
  .g 24 false (some 27) (.idx 27 (.t 25) (.t 26)) .unit,
  .g 24 false (some 28) (.bin 28 false .gtr (.t 27) (.c (.int .u8 57))) .unit,
  .p (.pick 29 (.t 24) (.c (.bool true)) (.t 28)) .unit]))
 (.cond (.t 29) (.seq (.reg none [.p (.mv 2 (.c (.int .i64 0))) .unit,
  .p (.mv 3 (.c (.bool false))) .unit])
 .ret) .skip))
 (.reg none [.p (.mv 30 (.t 4)) .unit,
  .p (.bin 31 false .mul (.t 30) (.c (.int .i64 10))) .unit,
  .p (.mv 32 (.t 0)) .unit,
  .p (.mv 33 (.t 5)) .unit,
  .p (.idx 34 (.t 32) (.t 33)) .unit,
  .p (.bin 35 false .sub (.t 34) (.c (.int .u8 48))) .unit,
  .p (.cvi 36 .i64 .u8 (.t 35)) .unit,
  .p (.bin 37 false .add (.t 31) (.t 36)) .unit,
  .p (.mv 4 (.t 37)) .unit])))
 (.reg none [.p (.mv 18 (.t 5)) .unit,
  .p (.bin 19 false .add (.t 18) (.c (.int .i64 1))) .unit,
  .p (.mv 5 (.t 19)) .unit])))
noncomputable def L_impl_ReadDecimal_1 : Nat → (List UInt8) × (Int) × Int → Option (((List UInt8) × Int) ⊕ ((Int) × Bool)) := evL [fn_impl_Decimal] (finT [.t 2, .t 3] [] [.cell (.int .i64), .cell .bool]) 0 ⟨[(0, true), (4, false), (5, false)], [.cell .str, .cell (.int .i64), .cell (.int .i64)]⟩ ⟨[(0, true), (4, false)], [.cell .str, .cell (.int .i64)]⟩ B_impl_ReadDecimal_1
def F_impl_ReadDecimal : TF := ⟨(.seq (.reg none [.p (.mv 2 (.c (.int .i64 0))) .unit,
  .p (.mv 3 (.c (.bool false))) .unit])
 (.seq (.seq (.join ⟨[(0, true), (13, false)], [.cell .str, .cell .bool]⟩ (.reg none [.p (.mv 6 (.t 0)) .unit,
  .p (.lenS 7 (.t 6)) .unit,
  .p (.bin 8 false .eql (.t 7) (.c (.int .i64 0))) .unit,
  .p (.mv 9 (.t 8)) .unit,
  .g 9 false (some 10) (.mv 10 (.t 0)) .unit,
  .g 9 false (some 11) (.lenS 11 (.t 10)) .unit,
  .g 9 false (some 12) (.bin 12 false .gtr (.t 11) (.c (.int .i64 10))) .unit,
  .p (.pick 13 (.t 9) (.c (.bool true)) (.t 12)) .unit]))
 (.cond (.t 13) (.seq (.reg none [.p (.mv 2 (.c (.int .i64 0))) .unit,
  .p (.mv 3 (.c (.bool false))) .unit])
 .ret) .skip))
 (.seq (.reg none [.p (.mv 4 (.c (.int .i64 0))) .unit])
 (.seq (.seq (.reg none [.p (.mv 5 (.c (.int .i64 0))) .unit])
 (.jl 0 ⟨[(0, true), (4, false), (5, false)], [.cell .str, .cell (.int .i64), .cell (.int .i64)]⟩ ⟨[(0, true), (4, false)], [.cell .str, .cell (.int .i64)]⟩ B_impl_ReadDecimal_1))
 (.seq (.seq (.join ⟨[(4, false), (45, false)], [.cell (.int .i64), .cell .bool]⟩ (.reg none [.p (.mv 38 (.t 4)) .unit,
  .p (.bin 39 false .gtr (.t 38) (.c (.int .i64 1000000000))) .unit,
  .p (.mv 40 (.t 39)) .unit,
  .g 40 false (some 41) (.mv 41 (.t 4)) .unit,
  .g 40 false (some 42) (.callB 42 n_impl_Decimal [((.t 41), 0)]) .unit,
  .g 40 false (some 43) (.mv 43 (.t 0)) .unit,
  .g 40 false (some 44) (.bin 44 false .neq (.t 42) (.t 43)) .unit,
  .p (.pick 45 (.t 40) (.c (.bool true)) (.t 44)) .unit]))
 (.cond (.t 45) (.seq (.reg none [.p (.mv 2 (.c (.int .i64 0))) .unit,
  .p (.mv 3 (.c (.bool false))) .unit])
 .ret) .skip))
 (.seq (.reg none [.p (.mv 46 (.t 4)) .unit,
  .p (.mv 2 (.t 46)) .unit,
  .p (.mv 3 (.c (.bool true))) .unit])
 .ret)))))),
 47, 1, [.t 2, .t 3]⟩
theorem m_impl_ReadDecimal : mH Tryd.prog 45 [] = some (F_impl_ReadDecimal.code.x, F_impl_ReadDecimal.N, F_impl_ReadDecimal.np, F_impl_ReadDecimal.res) := by kernel_rfl
noncomputable def T_impl_ReadDecimal : List UInt8 → Option ((Int) × Bool) := evF [fn_impl_Decimal] F_impl_ReadDecimal [.cell .str] [] [.cell (.int .i64), .cell .bool] []
noncomputable def fn_impl_ReadDecimal : TFn := ⟨45, [.cell .str], [], [.cell (.int .i64), .cell .bool], [], T_impl_ReadDecimal⟩
theorem ok_impl_ReadDecimal : FnOk Tryd.prog fn_impl_ReadDecimal := evF_ok mixed (allOk_cons ok_impl_Decimal allOk_nil) m_impl_ReadDecimal (by decide)
def F_impl_PrivateName : TF := ⟨(.seq (.reg none [.p (.mv 4 (.c (.string (ba [])))) .unit])
 (.seq (.seq (.join ⟨[(0, true), (1, true), (12, false)], [.cell (.int .i64), .cell .str, .cell .bool]⟩ (.reg none [.p (.mv 5 (.t 0)) .unit,
  .p (.callB 6 n_impl_inRange [((.t 5), 0), ((.c (.int .i64 1)), 0), ((.c (.int .i64 9)), 0)]) .unit,
  .p (.un 7 .not (.t 6)) .unit,
  .p (.mv 8 (.t 7)) .unit,
  .g 8 false (some 9) (.mv 9 (.t 1)) .unit,
  .g 8 false (some 10) (.callB 10 n_impl_NameOk [((.t 9), 0)]) .unit,
  .g 8 false (some 11) (.un 11 .not (.t 10)) .unit,
  .p (.pick 12 (.t 8) (.c (.bool true)) (.t 11)) .unit]))
 (.cond (.t 12) (.seq (.reg none [.p (.mv 4 (.c (.string (ba [])))) .unit])
 .ret) .skip))
 (.seq (.reg none [.p (.mv 13 (.t 0)) .unit,
  .p (.callB 14 n_impl_Decimal [((.t 13), 0)]) .unit,
  .p (.bin 15 false .add (.c (.string (ba [35]))) (.t 14)) .unit,
  .p (.bin 16 false .add (.t 15) (.c (.string (ba [35])))) .unit,
  .p (.mv 17 (.t 1)) .unit,
  .p (.bin 18 false .add (.t 16) (.t 17)) .unit,
  .p (.mv 4 (.t 18)) .unit])
 .ret))),
 19, 2, [.t 4]⟩
theorem m_impl_PrivateName : mH Tryd.prog 46 [] = some (F_impl_PrivateName.code.x, F_impl_PrivateName.N, F_impl_PrivateName.np, F_impl_PrivateName.res) := by kernel_rfl
noncomputable def T_impl_PrivateName : (Int) × List UInt8 → Option (List UInt8) := evF [fn_impl_inRange, fn_impl_NameOk, fn_impl_Decimal] F_impl_PrivateName [.cell (.int .i64), .cell .str] [] [.cell .str] []
noncomputable def fn_impl_PrivateName : TFn := ⟨46, [.cell (.int .i64), .cell .str], [], [.cell .str], [], T_impl_PrivateName⟩
theorem ok_impl_PrivateName : FnOk Tryd.prog fn_impl_PrivateName := evF_ok mixed (allOk_cons ok_impl_inRange (allOk_cons ok_impl_NameOk (allOk_cons ok_impl_Decimal allOk_nil))) m_impl_PrivateName (by decide)
def F_impl_SplitPrivate : TF := ⟨(.seq (.reg none [.p (.mv 2 (.c (.int .i64 0))) .unit,
  .p (.mv 3 (.c (.string (ba [])))) .unit,
  .p (.mv 4 (.c (.bool false))) .unit])
 (.seq (.reg none [.p (.mv 8 (.t 0)) .unit,
  .p (.callB 9 n_strings_Split [((.t 8), 0), ((.c (.string (ba [35]))), 0)]) .unit,
  .p (.mvT 5 9) .unit])
 (.seq (.seq (.reg none [.p (.mvA 10 5) .unit,
  .p (.lenB 11 (.t 10)) .unit,
  .p (.bin 12 false .neq (.t 11) (.c (.int .i64 3))) .unit])
 (.cond (.t 12) (.seq (.reg none [.p (.mv 2 (.c (.int .i64 0))) .unit,
  .p (.mv 3 (.c (.string (ba [])))) .unit,
  .p (.mv 4 (.c (.bool false))) .unit])
 .ret) .skip))
 (.seq (.reg none [.p (.mvA 14 5) .unit,
  .p (.iadr 15 1 (.t 14) (.c (.int .i64 1))) .unit,
  .p (.load 16 (.t 15) 1 false) .unit,
  .p (.callB 17 n_impl_ReadDecimal [((.t 16), 0)]) .unit,
  .p (.mv 13 (.t 17)) .unit,
  .p (.ext 18 (.t 13) 0) .unit,
  .p (.ext 19 (.t 13) 1) .unit,
  .p (.mv 6 (.t 18)) .unit,
  .p (.mv 7 (.t 19)) .unit])
 (.seq (.seq (.join ⟨[(5, false), (6, false), (30, false)], [.cell (.sl true .str), .cell (.int .i64), .cell .bool]⟩ (.reg none [.p (.mv 20 (.t 7)) .unit,
  .p (.un 21 .not (.t 20)) .unit,
  .p (.mv 22 (.t 21)) .unit,
  .g 22 false (some 23) (.mv 23 (.t 6)) .unit,
  .g 22 false (some 24) (.mvA 24 5) .unit,
  .g 22 false (some 25) (.iadr 25 1 (.t 24) (.c (.int .i64 2))) .unit,
  .g 22 false (some 26) (.load 26 (.t 25) 1 false) .unit,
  .g 22 false (some 27) (.callB 27 n_impl_PrivateName [((.t 23), 0), ((.t 26), 0)]) .unit,
  .g 22 false (some 28) (.mv 28 (.t 0)) .unit,
  .g 22 false (some 29) (.bin 29 false .neq (.t 27) (.t 28)) .unit,
  .p (.pick 30 (.t 22) (.c (.bool true)) (.t 29)) .unit]))
 (.cond (.t 30) (.seq (.reg none [.p (.mv 2 (.c (.int .i64 0))) .unit,
  .p (.mv 3 (.c (.string (ba [])))) .unit,
  .p (.mv 4 (.c (.bool false))) .unit])
 .ret) .skip))
 (.seq (.reg (some [[], [], [1], [2], [0, 0], [3, 4, 0, 1, 2, 3, 4], [5, 0, 1, 2, 3, 4, 5]]) [.p (.mv 31 (.t 6)) .unit,
  .p (.mvT 32 5) .unit,
  .p (.iadr 33 1 (.t 32) (.c (.int .i64 2))) .unit,
  .p (.load 34 (.t 33) 1 false) .unit,
  .p (.mv 2 (.t 31)) .unit,
  .p (.mv 3 (.t 34)) .unit,
  .p (.mv 4 (.c (.bool true))) .unit])
 .ret)))))),
 35, 1, [.t 2, .t 3, .t 4]⟩
theorem m_impl_SplitPrivate : mH Tryd.prog 27 [(1, 2, .t), (2, 0, .v), (4, 0, .v), (5, 4, .v), (7, 1, .t)] = some (F_impl_SplitPrivate.code.x, F_impl_SplitPrivate.N, F_impl_SplitPrivate.np, F_impl_SplitPrivate.res) := by kernel_rfl
noncomputable def T_impl_SplitPrivate : List UInt8 → Option ((Int) × (List UInt8) × Bool) := evF [fn_strings_Split, fn_impl_ReadDecimal, fn_impl_PrivateName] F_impl_SplitPrivate [.cell .str] [] [.cell (.int .i64), .cell .str, .cell .bool] []
noncomputable def fn_impl_SplitPrivate : TFn := ⟨27, [.cell .str], [], [.cell (.int .i64), .cell .str, .cell .bool], [], T_impl_SplitPrivate⟩
theorem ok_impl_SplitPrivate : FnOk Tryd.prog fn_impl_SplitPrivate := evF_ok mixed (allOk_cons ok_strings_Split (allOk_cons ok_impl_ReadDecimal (allOk_cons ok_impl_PrivateName allOk_nil))) m_impl_SplitPrivate (by decide)
def F_impl_isPrivate : TF := ⟨(.seq (.reg none [.p (.mv 2 (.c (.bool false))) .unit])
 (.seq (.reg none [.p (.mv 7 (.t 0)) .unit,
  .p (.callB 8 n_impl_SplitPrivate [((.t 7), 0)]) .unit,
  .p (.mv 6 (.t 8)) .unit,
  .p (.ext 9 (.t 6) 0) .unit,
  .p (.ext 10 (.t 6) 1) .unit,
  .p (.ext 11 (.t 6) 2) .unit,
  .p (.mv 3 (.t 9)) .unit,
  .p (.mv 4 (.t 10)) .unit,
  .p (.mv 5 (.t 11)) .unit])
 (.seq (.reg none [.p (.mv 12 (.t 5)) .unit,
  .p (.mv 2 (.t 12)) .unit])
 .ret))),
 13, 1, [.t 2]⟩
theorem m_impl_isPrivate : mH Tryd.prog 66 [] = some (F_impl_isPrivate.code.x, F_impl_isPrivate.N, F_impl_isPrivate.np, F_impl_isPrivate.res) := by kernel_rfl
noncomputable def T_impl_isPrivate : List UInt8 → Option (Bool) := evF [fn_impl_SplitPrivate] F_impl_isPrivate [.cell .str] [] [.cell .bool] []
noncomputable def fn_impl_isPrivate : TFn := ⟨66, [.cell .str], [], [.cell .bool], [], T_impl_isPrivate⟩
theorem ok_impl_isPrivate : FnOk Tryd.prog fn_impl_isPrivate := evF_ok mixed (allOk_cons ok_impl_SplitPrivate allOk_nil) m_impl_isPrivate (by decide)
def B_impl_membersOk_1 : TC := (.seq (.reg none [.p (.bin 8 false .lss (.t 7) (.t 6)) .unit])
 (.seq (.cond (.t 8) .skip (.exit 0))
 (.seq (.block 1 (.seq (.reg none [.p (.mv 9 (.t 7)) .unit,
  .p (.iadr 10 1 (.t 5) (.t 7)) .unit,
  .p (.load 11 (.t 10) 1 false) .unit,
  .p (.mv 3 (.t 9)) .unit,
  .p (.mv 4 (.t 11)) .unit])
 (.seq (.join ⟨[(0, true), (5, false), (6, false), (7, false), (27, false)], [.cell (.sl false .str), .cell (.sl false .str), .cell (.int .i64), .cell (.int .i64), .cell .bool]⟩ (.reg none [.p (.mv 12 (.t 4)) .unit,
  .p (.callB 13 n_impl_isPrivate [((.t 12), 0)]) .unit,
  .p (.un 14 .not (.t 13)) .unit,
  .p (.mv 15 (.t 14)) .unit,
  .g 15 false (some 16) (.mv 16 (.t 3)) .unit,
  .g 15 false (some 17) (.bin 17 false .gtr (.t 16) (.c (.int .i64 0))) .unit,
  .g 15 false (some 18) (.mv 18 (.t 17)) .unit,
  .g 18 true (some 19) (.mv 19 (.t 4)) .unit,
  .g 18 true (some 20) (.mv 20 (.t 0)) .unit,
  .g 18 true (some 21) (.mv 21 (.t 3)) .unit,
  .g 18 true (some 22) (.bin 22 false .sub (.t 21) (.c (.int .i64 1))) .unit,
  .g 18 true (some 23) (.iadr 23 1 (.t 20) (.t 22)) .unit,
  .g 18 true (some 24) (.load 24 (.t 23) 1 false) .unit,
  .g 18 true (some 25) (.bin 25 false .leq (.t 19) (.t 24)) .unit,
  .g 15 false (some 26) (.pick 26 (.t 18) (.t 25) (.c (.bool false))) .unit,
  .p (.pick 27 (.t 15) (.c (.bool true)) (.t 26)) .unit]))
 (.cond (.t 27) (.seq (.reg none [.p (.mv 2 (.c (.bool false))) .unit])
 .ret) .skip))))
 (.reg none [.p (.bin 28 false .add (.t 7) (.c (.int .i64 1))) .unit,
  .p (.mv 7 (.t 28)) .unit]))))
noncomputable def L_impl_membersOk_1 : Nat → (List (List UInt8)) × (List (List UInt8)) × (Int) × Int → Option ((List (List UInt8)) ⊕ (Bool)) := evL [fn_impl_isPrivate, fn_impl_inRange] (finT [.t 2] [] [.cell .bool]) 0 ⟨[(0, true), (5, false), (6, false), (7, false)], [.cell (.sl false .str), .cell (.sl false .str), .cell (.int .i64), .cell (.int .i64)]⟩ ⟨[(0, true)], [.cell (.sl false .str)]⟩ B_impl_membersOk_1
def F_impl_membersOk : TF := ⟨(.seq (.reg none [.p (.mv 2 (.c (.bool false))) .unit])
 (.seq (.seq (.reg none [.p (.mv 5 (.t 0)) .unit,
  .p (.lenB 6 (.t 5)) .unit,
  .p (.mv 7 (.c (.int .i64 0))) .unit])
 (.jl 0 ⟨[(0, true), (5, false), (6, false), (7, false)], [.cell (.sl false .str), .cell (.sl false .str), .cell (.int .i64), .cell (.int .i64)]⟩ ⟨[(0, true)], [.cell (.sl false .str)]⟩ B_impl_membersOk_1))
 (.seq (.reg none [.p (.mv 29 (.t 0)) .unit,
  .p (.lenB 30 (.t 29)) .unit,
  .p (.callB 31 n_impl_inRange [((.t 30), 0), ((.c (.int .i64 1)), 0), ((.c (.int .i64 8)), 0)]) .unit,
  .p (.mv 2 (.t 31)) .unit])
 .ret))),
 32, 1, [.t 2]⟩
theorem m_impl_membersOk : mH Tryd.prog 55 [] = some (F_impl_membersOk.code.x, F_impl_membersOk.N, F_impl_membersOk.np, F_impl_membersOk.res) := by kernel_rfl
noncomputable def T_impl_membersOk : List (List UInt8) → Option (Bool) := evF [fn_impl_isPrivate, fn_impl_inRange] F_impl_membersOk [.cell (.sl false .str)] [] [.cell .bool] []
noncomputable def fn_impl_membersOk : TFn := ⟨55, [.cell (.sl false .str)], [], [.cell .bool], [], T_impl_membersOk⟩
theorem ok_impl_membersOk : FnOk Tryd.prog fn_impl_membersOk := evF_ok mixed (allOk_cons ok_impl_isPrivate (allOk_cons ok_impl_inRange allOk_nil)) m_impl_membersOk (by decide)
def B_impl_TableOk_1 : TC := (.seq (.reg none [.p (.bin 9 false .lss (.t 8) (.t 7)) .unit])
 (.seq (.cond (.t 9) .skip (.exit 0))
 (.seq (.block 1 (.seq (.reg none [.p (.mv 10 (.t 8)) .unit,
  .p (.iadr 11 2 (.t 6) (.t 8)) .unit,
  .p (.load 12 (.t 11) 2 true) .unit,
  .p (.alloc 4 [(.lit (.string (ba []))), (.sl true 1 [])]) .unit,
  .p (.mv 3 (.t 10)) .unit,
  .p (.store (.t 4) (.t 12) 2) .unit])
 (.seq (.join ⟨[(1, false), (6, false), (7, false), (8, false), (38, false)], [.box (.sl false (.pair .str (.sl false .str))), .cell (.sl false (.pair .str (.sl false .str))), .cell (.int .i64), .cell (.int .i64), .cell .bool]⟩ (.reg (some [[], [0], [1], [2], [3, 2], [4], [5, 4], [6, 4, 4], [7, 4], [4, 8], [9, 7], [10], [11, 10], [12, 10, 10], [13], [14, 13], [13], [16, 13], [13], [18, 13], [17, 19, 13], [20, 13], [21, 13], [15, 22, 13], [13, 23, 10], [10, 24]]) [.p (.fadr 13 (.t 4) 0) .unit,
  .p (.load 14 (.t 13) 1 false) .unit,
  .p (.callB 15 n_impl_NameOk [((.t 14), 0)]) .unit,
  .p (.un 16 .not (.t 15)) .unit,
  .p (.mv 17 (.t 16)) .unit,
  .g 17 false (some 18) (.fadr 18 (.t 4) 1) .unit,
  .g 17 false (some 19) (.load 19 (.t 18) 1 false) .unit,
  .g 17 false (some 20) (.callB 20 n_impl_membersOk [((.t 19), 0)]) .unit,
  .g 17 false (some 21) (.un 21 .not (.t 20)) .unit,
  .p (.pick 22 (.t 17) (.c (.bool true)) (.t 21)) .unit,
  .p (.mv 23 (.t 22)) .unit,
  .g 23 false (some 24) (.mv 24 (.t 3)) .unit,
  .g 23 false (some 25) (.bin 25 false .gtr (.t 24) (.c (.int .i64 0))) .unit,
  .g 23 false (some 26) (.mv 26 (.t 25)) .unit,
  .g 26 true (some 27) (.fadr 27 (.t 4) 0) .unit,
  .g 26 true (some 28) (.load 28 (.t 27) 1 false) .unit,
  .g 26 true (some 29) (.fadr 29 (.t 1) 0) .unit,
  .g 26 true (some 30) (.load 30 (.t 29) 1 false) .unit,
  .g 26 true (some 31) (.mv 31 (.t 3)) .unit,
  .g 26 true (some 32) (.bin 32 false .sub (.t 31) (.c (.int .i64 1))) .unit,
  .g 26 true (some 33) (.iadr 33 2 (.t 30) (.t 32)) .unit,
  .g 26 true (some 34) (.fadr 34 (.t 33) 0) .unit,
  .g 26 true (some 35) (.load 35 (.t 34) 1 false) .unit,
  .g 26 true (some 36) (.bin 36 false .leq (.t 28) (.t 35)) .unit,
  .g 23 false (some 37) (.pick 37 (.t 26) (.t 36) (.c (.bool false))) .unit,
  .p (.pick 38 (.t 23) (.c (.bool true)) (.t 37)) .unit]))
 (.cond (.t 38) (.seq (.reg none [.p (.mv 2 (.c (.bool false))) .unit])
 .ret) .skip))))
 (.reg none [.p (.bin 39 false .add (.t 8) (.c (.int .i64 1))) .unit,
  .p (.mv 8 (.t 39)) .unit]))))
noncomputable def L_impl_TableOk_1 : Nat → (List (List UInt8 × List (List UInt8))) × (List (List UInt8 × List (List UInt8))) × (Int) × Int → Option ((List (List UInt8 × List (List UInt8))) ⊕ (Bool)) := evL [fn_impl_NameOk, fn_impl_membersOk] (finT [.t 2] [] [.cell .bool]) 0 ⟨[(1, false), (6, false), (7, false), (8, false)], [.box (.sl false (.pair .str (.sl false .str))), .cell (.sl false (.pair .str (.sl false .str))), .cell (.int .i64), .cell (.int .i64)]⟩ ⟨[(1, false)], [.box (.sl false (.pair .str (.sl false .str)))]⟩ B_impl_TableOk_1
def F_impl_TableOk : TF := ⟨(.seq (.reg none [.p (.box 1 (.t 0)) .unit,
  .p (.mv 2 (.c (.bool false))) .unit])
 (.seq (.seq (.reg none [.p (.fadr 5 (.t 1) 0) .unit,
  .p (.load 6 (.t 5) 1 false) .unit,
  .p (.lenB 7 (.t 6)) .unit,
  .p (.mv 8 (.c (.int .i64 0))) .unit])
 (.jl 0 ⟨[(1, false), (6, false), (7, false), (8, false)], [.box (.sl false (.pair .str (.sl false .str))), .cell (.sl false (.pair .str (.sl false .str))), .cell (.int .i64), .cell (.int .i64)]⟩ ⟨[(1, false)], [.box (.sl false (.pair .str (.sl false .str)))]⟩ B_impl_TableOk_1))
 (.seq (.reg none [.p (.fadr 40 (.t 1) 0) .unit,
  .p (.load 41 (.t 40) 1 false) .unit,
  .p (.lenB 42 (.t 41)) .unit,
  .p (.bin 43 false .leq (.t 42) (.c (.int .i64 6))) .unit,
  .p (.mv 2 (.t 43)) .unit])
 .ret))),
 44, 1, [.t 2]⟩
theorem m_impl_TableOk : mH Tryd.prog 35 [] = some (F_impl_TableOk.code.x, F_impl_TableOk.N, F_impl_TableOk.np, F_impl_TableOk.res) := by kernel_rfl
noncomputable def T_impl_TableOk : List (List UInt8 × List (List UInt8)) → Option (Bool) := evF [fn_impl_NameOk, fn_impl_membersOk] F_impl_TableOk [.agg (.sl false (.pair .str (.sl false .str)))] [] [.cell .bool] []
noncomputable def fn_impl_TableOk : TFn := ⟨35, [.agg (.sl false (.pair .str (.sl false .str)))], [], [.cell .bool], [], T_impl_TableOk⟩
theorem ok_impl_TableOk : FnOk Tryd.prog fn_impl_TableOk := evF_ok mixed (allOk_cons ok_impl_NameOk (allOk_cons ok_impl_membersOk allOk_nil)) m_impl_TableOk (by decide)
def F_slices_Clone___string_string_ : TF := ⟨(.seq (.reg none [.p (.mvN 2 1) .unit])
 (.seq (.seq (.nq [.p (.mv 3 (.t 0)) .unit] 4 false (.t 3))
 (.cond (.t 4) (.seq (.reg none [.p (.mvN 2 1) .unit])
 .ret) .skip))
 (.seq (.reg none [.p (.bldS 5 0 [(.lit (.string (ba [])))] []) .str,
  .p (.mv 6 (.t 0)) .unit,
  .p (.app 7 1 16 (.t 5) (.t 6)) .str,
  .p (.mvT 2 7) .unit])
 .ret))),
 8, 1, [.t 2]⟩
theorem m_slices_Clone___string_string_ : mH Tryd.prog 40 [(3, 3, .t)] = some (F_slices_Clone___string_string_.code.x, F_slices_Clone___string_string_.N, F_slices_Clone___string_string_.np, F_slices_Clone___string_string_.res) := by kernel_rfl
noncomputable def T_slices_Clone___string_string_ : List (List UInt8) → Option (List (List UInt8)) := evF [] F_slices_Clone___string_string_ [.cell (.sl false .str)] [] [.cell (.sl true .str)] []
noncomputable def fn_slices_Clone___string_string_ : TFn := ⟨40, [.cell (.sl false .str)], [], [.cell (.sl true .str)], [], T_slices_Clone___string_string_⟩
theorem ok_slices_Clone___string_string_ : FnOk Tryd.prog fn_slices_Clone___string_string_ := evF_ok mixed allOk_nil m_slices_Clone___string_string_ (by decide)
def B_impl_copyTable_1 : TC := (.seq (.reg none [.p (.bin 10 false .lss (.t 9) (.t 8)) .unit])
 (.seq (.cond (.t 10) .skip (.exit 0))
 (.seq (.block 1 (.seq (.reg none [.p (.iadr 11 2 (.t 7) (.t 9)) .unit,
  .p (.load 12 (.t 11) 2 true) .unit,
  .p (.alloc 5 [(.lit (.string (ba []))), (.sl true 1 [])]) .unit,
  .p (.store (.t 5) (.t 12) 2) .unit])
 (.seq (.reg none [.p (.fadr 13 (.t 5) 1) .unit,
  .p (.load 14 (.t 13) 1 false) .unit,
  .p (.callB 15 n_slices_Clone___string_string_ [((.t 14), 0)]) .unit,
  .p (.fadr 16 (.t 5) 1) .unit,
  .p (.storeT (.t 16) 15 1) .unit])
 (.reg none [.p (.fadr 17 (.t 3) 0) .unit,
  .p (.load 18 (.t 17) 1 false) .unit,
  .p (.loadT 19 (.t 5) 2 true) .unit,
  .p (.bldS 20 1 [(.lit (.string (ba []))), (.sl true 1 [])] [⟨0, 2, (.t 19)⟩]) (.pair .str (.sl true .str)),
  .p (.appC 21 2 40 18 (.t 20) true) (.pair .str (.sl true .str)),
  .p (.fadr 22 (.t 3) 0) .unit,
  .p (.storeT (.t 22) 21 1) .unit]))))
 (.reg none [.p (.bin 23 false .add (.t 9) (.c (.int .i64 1))) .unit,
  .p (.mv 9 (.t 23)) .unit]))))
noncomputable def L_impl_copyTable_1 : Nat → (List (List UInt8 × List (List UInt8))) × (List (List UInt8 × List (List UInt8))) × (List (List UInt8 × List (List UInt8))) × (Int) × Int → Option (((List (List UInt8 × List (List UInt8))) × List (List UInt8 × List (List UInt8))) ⊕ (List (List UInt8 × List (List UInt8)))) := evL [fn_slices_Clone___string_string_] (finT [.c 2 1 true] [] [.agg (.sl true (.pair .str (.sl true .str)))]) 0 ⟨[(2, false), (3, false), (7, false), (8, false), (9, false)], [.box (.sl true (.pair .str (.sl true .str))), .box (.sl true (.pair .str (.sl true .str))), .cell (.sl false (.pair .str (.sl false .str))), .cell (.int .i64), .cell (.int .i64)]⟩ ⟨[(2, false), (3, false)], [.box (.sl true (.pair .str (.sl true .str))), .box (.sl true (.pair .str (.sl true .str)))]⟩ B_impl_copyTable_1
def F_impl_copyTable : TF := ⟨(.seq (.reg none [.p (.box 1 (.t 0)) .unit,
  .p (.alloc 2 [(.sl true 2 [])]) .unit])
 (.seq (.reg none [.p (.alloc 3 [(.sl true 2 [])]) .unit])
 (.seq (.seq (.reg none [.p (.fadr 6 (.t 1) 0) .unit,
  .p (.load 7 (.t 6) 1 false) .unit,
  .p (.lenB 8 (.t 7)) .unit,
  .p (.mv 9 (.c (.int .i64 0))) .unit])
 (.jl 0 ⟨[(2, false), (3, false), (7, false), (8, false), (9, false)], [.box (.sl true (.pair .str (.sl true .str))), .box (.sl true (.pair .str (.sl true .str))), .cell (.sl false (.pair .str (.sl false .str))), .cell (.int .i64), .cell (.int .i64)]⟩ ⟨[(2, false), (3, false)], [.box (.sl true (.pair .str (.sl true .str))), .box (.sl true (.pair .str (.sl true .str)))]⟩ B_impl_copyTable_1))
 (.seq (.reg none [.p (.loadT 24 (.t 3) 1 true) .unit,
  .p (.storeT (.t 2) 24 1) .unit])
 .ret)))),
 25, 1, [.c 2 1 true]⟩
theorem m_impl_copyTable : mH Tryd.prog 23 [(5, 4, .t), (6, 2, .t), (6, 4, .v), (6, 6, .t), (8, 0, .t), (8, 1, .t)] = some (F_impl_copyTable.code.x, F_impl_copyTable.N, F_impl_copyTable.np, F_impl_copyTable.res) := by kernel_rfl
noncomputable def T_impl_copyTable : List (List UInt8 × List (List UInt8)) → Option (List (List UInt8 × List (List UInt8))) := evF [fn_slices_Clone___string_string_] F_impl_copyTable [.agg (.sl false (.pair .str (.sl false .str)))] [] [.agg (.sl true (.pair .str (.sl true .str)))] []
noncomputable def fn_impl_copyTable : TFn := ⟨23, [.agg (.sl false (.pair .str (.sl false .str)))], [], [.agg (.sl true (.pair .str (.sl true .str)))], [], T_impl_copyTable⟩
theorem ok_impl_copyTable : FnOk Tryd.prog fn_impl_copyTable := evF_ok mixed (allOk_cons ok_slices_Clone___string_string_ allOk_nil) m_impl_copyTable (by decide)
def F_cmp_isNaN_string_ : TF := ⟨(.seq (.reg none [.p (.mv 2 (.c (.bool false))) .unit])
 (.seq (.reg none [.p (.mv 3 (.t 0)) .unit,
  .p (.mv 4 (.t 0)) .unit,
  .p (.bin 5 false .neq (.t 3) (.t 4)) .unit,
  .p (.mv 2 (.t 5)) .unit])
 .ret)),
 6, 1, [.t 2]⟩
theorem m_cmp_isNaN_string_ : mH Tryd.prog 84 [] = some (F_cmp_isNaN_string_.code.x, F_cmp_isNaN_string_.N, F_cmp_isNaN_string_.np, F_cmp_isNaN_string_.res) := by kernel_rfl
noncomputable def T_cmp_isNaN_string_ : List UInt8 → Option (Bool) := evF [] F_cmp_isNaN_string_ [.cell .str] [] [.cell .bool] []
noncomputable def fn_cmp_isNaN_string_ : TFn := ⟨84, [.cell .str], [], [.cell .bool], [], T_cmp_isNaN_string_⟩
theorem ok_cmp_isNaN_string_ : FnOk Tryd.prog fn_cmp_isNaN_string_ := evF_ok mixed allOk_nil m_cmp_isNaN_string_ (by decide)
def F_cmp_Less_string_ : TF := ⟨(.seq (.reg none [.p (.mv 4 (.c (.bool false))) .unit])
 (.seq (.reg none [.p (.mv 5 (.t 0)) .unit,
  .p (.callB 6 n_cmp_isNaN_string_ [((.t 5), 0)]) .unit,
  .p (.mv 7 (.t 6)) .unit,
  .g 7 true (some 8) (.mv 8 (.t 1)) .unit,
  .g 7 true (some 9) (.callB 9 n_cmp_isNaN_string_ [((.t 8), 0)]) .unit,
  .g 7 true (some 10) (.un 10 .not (.t 9)) .unit,
  .p (.pick 11 (.t 7) (.t 10) (.c (.bool false))) .unit,
  .p (.mv 12 (.t 11)) .unit,
  .g 12 false (some 13) (.mv 13 (.t 0)) .unit,
  .g 12 false (some 14) (.mv 14 (.t 1)) .unit,
  .g 12 false (some 15) (.bin 15 false .lss (.t 13) (.t 14)) .unit,
  .p (.pick 16 (.t 12) (.c (.bool true)) (.t 15)) .unit,
  .p (.mv 4 (.t 16)) .unit])
 .ret)),
 17, 2, [.t 4]⟩
theorem m_cmp_Less_string_ : mH Tryd.prog 74 [] = some (F_cmp_Less_string_.code.x, F_cmp_Less_string_.N, F_cmp_Less_string_.np, F_cmp_Less_string_.res) := by kernel_rfl
noncomputable def T_cmp_Less_string_ : (List UInt8) × List UInt8 → Option (Bool) := evF [fn_cmp_isNaN_string_] F_cmp_Less_string_ [.cell .str, .cell .str] [] [.cell .bool] []
noncomputable def fn_cmp_Less_string_ : TFn := ⟨74, [.cell .str, .cell .str], [], [.cell .bool], [], T_cmp_Less_string_⟩
theorem ok_cmp_Less_string_ : FnOk Tryd.prog fn_cmp_Less_string_ := evF_ok mixed (allOk_cons ok_cmp_isNaN_string_ allOk_nil) m_cmp_Less_string_ (by decide)
def F_slices_isNaN_string_ : TF := ⟨(.seq (.reg none [.p (.mv 2 (.c (.bool false))) .unit])
 (.seq (.reg none [.p (.mv 3 (.t 0)) .unit,
  .p (.mv 4 (.t 0)) .unit,
  .p (.bin 5 false .neq (.t 3) (.t 4)) .unit,
  .p (.mv 2 (.t 5)) .unit])
 .ret)),
 6, 1, [.t 2]⟩
theorem m_slices_isNaN_string_ : mH Tryd.prog 75 [] = some (F_slices_isNaN_string_.code.x, F_slices_isNaN_string_.N, F_slices_isNaN_string_.np, F_slices_isNaN_string_.res) := by kernel_rfl
noncomputable def T_slices_isNaN_string_ : List UInt8 → Option (Bool) := evF [] F_slices_isNaN_string_ [.cell .str] [] [.cell .bool] []
noncomputable def fn_slices_isNaN_string_ : TFn := ⟨75, [.cell .str], [], [.cell .bool], [], T_slices_isNaN_string_⟩
theorem ok_slices_isNaN_string_ : FnOk Tryd.prog fn_slices_isNaN_string_ := evF_ok mixed allOk_nil m_slices_isNaN_string_ (by decide)
def B_slices_BinarySearch___string_string__1 : TC := (.seq (.seq (.reg none [.p (.mv 13 (.t 7)) .unit,
  .p (.mv 14 (.t 8)) .unit,
  .p (.bin 15 false .lss (.t 13) (.t 14)) .unit])
 (.cond (.t 15) .skip (.exit 0)))
 (.block 1 (.seq (.reg none [.p (.mv 16 (.t 7)) .unit,
  .p (.mv 17 (.t 8)) .unit,
  .p (.bin 18 false .add (.t 16) (.t 17)) .unit,
  .p (.cvi 19 .u64 .i64 (.t 18)) .unit,
  .p (.bin 20 false .shr (.t 19) (.c (.int .u64 1))) .unit,
  .p (.cvi 21 .i64 .u64 (.t 20)) .unit,
  .p (.mv 9 (.t 21)) .unit])
 (.seq (.reg none [.p (.mv 22 (.t 0)) .unit,
  .p (.mv 23 (.t 9)) .unit,
  .p (.iadr 24 1 (.t 22) (.t 23)) .unit,
  .p (.load 25 (.t 24) 1 false) .unit,
  .p (.mv 26 (.t 1)) .unit,
  .p (.callB 27 n_cmp_Less_string_ [((.t 25), 0), ((.t 26), 0)]) .unit])
 (.cond (.t 27) (.reg none [.p (.mv 28 (.t 9)) .unit,
  .p (.bin 29 false .add (.t 28) (.c (.int .i64 1))) .unit,
  .p (.mv 7 (.t 29)) .unit]) (.reg none [.p (.mv 30 (.t 9)) .unit,
  .p (.mv 8 (.t 30)) .unit]))))))
noncomputable def L_slices_BinarySearch___string_string__1 : Nat → (List (List UInt8)) × (List UInt8) × (Int) × (Int) × Int → Option (((List (List UInt8)) × (List UInt8) × (Int) × Int) ⊕ ((Int) × Bool)) := evL [fn_cmp_Less_string_, fn_slices_isNaN_string_] (finT [.t 4, .t 5] [] [.cell (.int .i64), .cell .bool]) 0 ⟨[(0, true), (1, true), (6, false), (7, false), (8, false)], [.cell (.sl false .str), .cell .str, .cell (.int .i64), .cell (.int .i64), .cell (.int .i64)]⟩ ⟨[(0, true), (1, true), (6, false), (7, false)], [.cell (.sl false .str), .cell .str, .cell (.int .i64), .cell (.int .i64)]⟩ B_slices_BinarySearch___string_string__1
def F_slices_BinarySearch___string_string_ : TF := ⟨(.seq (.reg none [.p (.mv 4 (.c (.int .i64 0))) .unit,
  .p (.mv 5 (.c (.bool false))) .unit])
 (.seq (.reg none [.p (.mv 10 (.t 0)) .unit,
  .p (.lenB 11 (.t 10)) .unit,
  .p (.mv 6 (.t 11)) .unit])
 (.seq (.reg none [.p (.mv 12 (.t 6)) .unit,
  .p (.mv 7 (.c (.int .i64 0))) .unit,
  .p (.mv 8 (.t 12)) .unit])
 (.seq (.jl 0 ⟨[(0, true), (1, true), (6, false), (7, false), (8, false)], [.cell (.sl false .str), .cell .str, .cell (.int .i64), .cell (.int .i64), .cell (.int .i64)]⟩ ⟨[(0, true), (1, true), (6, false), (7, false)], [.cell (.sl false .str), .cell .str, .cell (.int .i64), .cell (.int .i64)]⟩ B_slices_BinarySearch___string_string__1)
 (.seq (.reg none [.p (.mv 31 (.t 7)) .unit,
  .p (.mv 32 (.t 7)) .unit,
  .p (.mv 33 (.t 6)) .unit,
  .p (.bin 34 false .lss (.t 32) (.t 33)) .unit,
  .p (.mv 35 (.t 34)) .unit,
  .g 35 true (some 36) (.mv 36 (.t 0)) .unit,
  .g 35 true (some 37) (.mv 37 (.t 7)) .unit,
  .g 35 true (some 38) (.iadr 38 1 (.t 36) (.t 37)) .unit,
  .g 35 true (some 39) (.load 39 (.t 38) 1 false) .unit,
  .g 35 true (some 40) (.mv 40 (.t 1)) .unit,
  .g 35 true (some 41) (.bin 41 false .eql (.t 39) (.t 40)) .unit,
  .g 35 true (some 42) (.mv 42 (.t 41)) .unit,
  .g 42 false (some 43) (.mv 43 (.t 0)) .unit,
  .g 42 false (some 44) (.mv 44 (.t 7)) .unit,
  .g 42 false (some 45) (.iadr 45 1 (.t 43) (.t 44)) .unit,
  .g 42 false (some 46) (.load 46 (.t 45) 1 false) .unit,
  .g 42 false (some 47) (.callB 47 n_slices_isNaN_string_ [((.t 46), 0)]) .unit,
  .g 42 false (some 48) (.mv 48 (.t 47)) .unit,
  .g 48 true (some 49) (.mv 49 (.t 1)) .unit,
  .g 48 true (some 50) (.callB 50 n_slices_isNaN_string_ [((.t 49), 0)]) .unit,
  .g 42 false (some 51) (.pick 51 (.t 48) (.t 50) (.c (.bool false))) .unit,
  .g 35 true (some 52) (.pick 52 (.t 42) (.c (.bool true)) (.t 51)) .unit,
  .p (.pick 53 (.t 35) (.t 52) (.c (.bool false))) .unit,
  .p (.mv 4 (.t 31)) .unit,
  .p (.mv 5 (.t 53)) .unit])
 .ret))))),
 54, 2, [.t 4, .t 5]⟩
theorem m_slices_BinarySearch___string_string_ : mH Tryd.prog 67 [] = some (F_slices_BinarySearch___string_string_.code.x, F_slices_BinarySearch___string_string_.N, F_slices_BinarySearch___string_string_.np, F_slices_BinarySearch___string_string_.res) := by kernel_rfl
noncomputable def T_slices_BinarySearch___string_string_ : (List (List UInt8)) × List UInt8 → Option ((Int) × Bool) := evF [fn_cmp_Less_string_, fn_slices_isNaN_string_] F_slices_BinarySearch___string_string_ [.cell (.sl false .str), .cell .str] [] [.cell (.int .i64), .cell .bool] []
noncomputable def fn_slices_BinarySearch___string_string_ : TFn := ⟨67, [.cell (.sl false .str), .cell .str], [], [.cell (.int .i64), .cell .bool], [], T_slices_BinarySearch___string_string_⟩
theorem ok_slices_BinarySearch___string_string_ : FnOk Tryd.prog fn_slices_BinarySearch___string_string_ := evF_ok mixed (allOk_cons ok_cmp_Less_string_ (allOk_cons ok_slices_isNaN_string_ allOk_nil)) m_slices_BinarySearch___string_string_ (by decide)
def F_impl_addTo : TF := ⟨(.seq (.reg none [.p (.mvN 4 1) .unit])
 (.seq (.reg none [.p (.mvA 8 0) .unit,
  .p (.mv 9 (.t 1)) .unit,
  .p (.callB 10 n_slices_BinarySearch___string_string_ [((.t 8), 0), ((.t 9), 0)]) .unit,
  .p (.mv 7 (.t 10)) .unit,
  .p (.ext 11 (.t 7) 0) .unit,
  .p (.ext 12 (.t 7) 1) .unit,
  .p (.mv 5 (.t 11)) .unit,
  .p (.mv 6 (.t 12)) .unit])
 (.seq (.seq (.reg none [.p (.mv 13 (.t 6)) .unit])
 (.cond (.t 13) (.seq (.reg none [.p (.mvT 14 0) .unit,
  .p (.mvT 4 14) .unit])
 .ret) .skip))
 (.seq (.reg none [.p (.mvT 15 0) .unit,
  .p (.mv 16 (.t 5)) .unit,
  .p (.mv 17 (.t 1)) .unit,
  .p (.bldS 18 1 [(.lit (.string (ba [])))] [⟨0, 1, (.t 17)⟩]) .str,
  .p (.callM 19 n_slices_Insert___string_string_ [] (.tmp2 15 18) [((.t 16), 0)]) .unit,
  .p (.mvT 4 19) .unit])
 .ret)))),
 20, 2, [.t 4]⟩
theorem m_impl_addTo : mH Tryd.prog 56 [(1, 0, .v), (3, 0, .t), (3, 1, .t), (4, 0, .t), (4, 4, (.m2 0)), (4, 5, .t)] = some (F_impl_addTo.code.x, F_impl_addTo.N, F_impl_addTo.np, F_impl_addTo.res) := by kernel_rfl
noncomputable def T_impl_addTo : (List (List UInt8)) × List UInt8 → Option (List (List UInt8)) := evF [fn_slices_BinarySearch___string_string_, fn_slices_Insert___string_string_] F_impl_addTo [.cell (.sl true .str), .cell .str] [] [.cell (.sl true .str)] []
noncomputable def fn_impl_addTo : TFn := ⟨56, [.cell (.sl true .str), .cell .str], [], [.cell (.sl true .str)], [], T_impl_addTo⟩
theorem ok_impl_addTo : FnOk Tryd.prog fn_impl_addTo := evF_ok mixed (allOk_cons ok_slices_BinarySearch___string_string_ (allOk_cons ok_slices_Insert___string_string_ allOk_nil)) m_impl_addTo (by decide)
def B___impl_Table__join_1 : TC := (.seq (.seq (.join ⟨[(0, true), (1, true), (2, true), (6, false), (25, false)], [.box (.sl true (.pair .str (.sl true .str))), .cell .str, .cell .str, .cell (.int .i64), .cell .bool]⟩ (.reg none [.p (.mv 7 (.t 6)) .unit,
  .p (.mvP 8 0) .unit,
  .p (.nilck 9 (.t 8)) .unit,
  .p (.fadr 10 (.t 9) 0) .unit,
  .p (.load 11 (.t 10) 1 false) .unit,
  .p (.lenB 12 (.t 11)) .unit,
  .p (.bin 13 false .lss (.t 7) (.t 12)) .unit,
  .p (.mv 14 (.t 13)) .unit,
  .g 14 true (some 15) (.mvP 15 0) .unit,
  .g 14 true (some 16) (.nilck 16 (.t 15)) .unit,
  .g 14 true (some 17) (.fadr 17 (.t 16) 0) .unit,
  .g 14 true (some 18) (.load 18 (.t 17) 1 false) .unit,
  .g 14 true (some 19) (.mv 19 (.t 6)) .unit,
  .g 14 true (some 20) (.iadr 20 2 (.t 18) (.t 19)) .unit,
  .g 14 true (some 21) (.fadr 21 (.t 20) 0) .unit,
  .g 14 true (some 22) (.load 22 (.t 21) 1 false) .unit,
  .g 14 true (some 23) (.mv 23 (.t 1)) .unit,
  .g 14 true (some 24) (.bin 24 false .lss (.t 22) (.t 23)) .unit,
  .p (.pick 25 (.t 14) (.t 24) (.c (.bool false))) .unit]))
 (.cond (.t 25) .skip (.exit 0)))
 (.block 1 (.reg none [.p (.mv 26 (.t 6)) .unit,
  .p (.bin 27 false .add (.t 26) (.c (.int .i64 1))) .unit,
  .p (.mv 6 (.t 27)) .unit])))
noncomputable def L___impl_Table__join_1 : Nat → (List (List UInt8 × List (List UInt8))) × (List UInt8) × (List UInt8) × Int → Option (((List (List UInt8 × List (List UInt8))) × (List UInt8) × (List UInt8) × Int) ⊕ (List (List UInt8 × List (List UInt8)))) := evL [fn_slices_Insert___impl_Group_impl_Group_, fn_impl_addTo] (finT [] [0] [.box (.sl true (.pair .str (.sl true .str)))]) 0 ⟨[(0, true), (1, true), (2, true), (6, false)], [.box (.sl true (.pair .str (.sl true .str))), .cell .str, .cell .str, .cell (.int .i64)]⟩ ⟨[(0, true), (1, true), (2, true), (6, false)], [.box (.sl true (.pair .str (.sl true .str))), .cell .str, .cell .str, .cell (.int .i64)]⟩ B___impl_Table__join_1
def F___impl_Table__join : TF := ⟨(.seq (.reg none [.p (.mv 6 (.c (.int .i64 0))) .unit])
 (.seq (.jl 0 ⟨[(0, true), (1, true), (2, true), (6, false)], [.box (.sl true (.pair .str (.sl true .str))), .cell .str, .cell .str, .cell (.int .i64)]⟩ ⟨[(0, true), (1, true), (2, true), (6, false)], [.box (.sl true (.pair .str (.sl true .str))), .cell .str, .cell .str, .cell (.int .i64)]⟩ B___impl_Table__join_1)
 (.seq (.join ⟨[(0, true), (2, true), (6, false)], [.box (.sl true (.pair .str (.sl true .str))), .cell .str, .cell (.int .i64)]⟩ (.seq (.join ⟨[(0, true), (1, true), (2, true), (6, false), (46, false)], [.box (.sl true (.pair .str (.sl true .str))), .cell .str, .cell .str, .cell (.int .i64), .cell .bool]⟩ (.reg none [.p (.mv 28 (.t 6)) .unit,
  .p (.mvP 29 0) .unit,
  .p (.nilck 30 (.t 29)) .unit,
  .p (.fadr 31 (.t 30) 0) .unit,
  .p (.load 32 (.t 31) 1 false) .unit,
  .p (.lenB 33 (.t 32)) .unit,
  .p (.bin 34 false .eql (.t 28) (.t 33)) .unit,
  .p (.mv 35 (.t 34)) .unit,
  .g 35 false (some 36) (.mvP 36 0) .unit,
  .g 35 false (some 37) (.nilck 37 (.t 36)) .unit,
  .g 35 false (some 38) (.fadr 38 (.t 37) 0) .unit,
  .g 35 false (some 39) (.load 39 (.t 38) 1 false) .unit,
  .g 35 false (some 40) (.mv 40 (.t 6)) .unit,
  .g 35 false (some 41) (.iadr 41 2 (.t 39) (.t 40)) .unit,
  .g 35 false (some 42) (.fadr 42 (.t 41) 0) .unit,
  .g 35 false (some 43) (.load 43 (.t 42) 1 false) .unit,
  .g 35 false (some 44) (.mv 44 (.t 1)) .unit,
  .g 35 false (some 45) (.bin 45 false .neq (.t 43) (.t 44)) .unit,
  .p (.pick 46 (.t 35) (.c (.bool true)) (.t 45)) .unit]))
 (.cond (.t 46) (.reg none [.p (.mvP 47 0) .unit,
  .p (.mvP 48 0) .unit,
  .p (.nilck 49 (.t 48)) .unit,
  .p (.fadr 50 (.t 49) 0) .unit,
  .p (.loadT 51 (.t 50) 1 false) .unit,
  .p (.mv 52 (.t 6)) .unit,
  .p (.mv 53 (.t 1)) .unit,
  .p (.bld 54 [(.lit (.string (ba []))), (.sl true 1 [])] [⟨0, 1, (.t 53)⟩]) .unit,
  .p (.bldS 55 1 [(.lit (.string (ba []))), (.sl true 1 [])] [⟨0, 2, (.t 54)⟩]) (.pair .str (.sl true .str)),
  .p (.callM 56 n_slices_Insert___impl_Group_impl_Group_ [] (.tmp2 51 55) [((.t 52), 0)]) .unit,
  .p (.nilck 57 (.t 47)) .unit,
  .p (.fadr 58 (.t 57) 0) .unit,
  .p (.storeT (.t 58) 56 1) .unit]) .skip)))
 (.reg (some [[], [0], [1], [2], [], [], [5], [6], [7], [], [8, 9], [10], [11], [], [12, 13], [3, 4, 0, 1, 2, 3, 4, 5, 6, 7, 8, 9, 10, 11, 12, 13, 14], [15, 0, 1, 2, 3, 4, 5, 6, 7, 8, 9, 10, 11, 12, 13, 14], [16, 14, 14, 0, 1, 2, 3, 4, 5, 6, 7, 8, 9, 10, 11, 12, 13, 14]]) [.p (.mvP 59 0) .unit,
  .p (.nilck 60 (.t 59)) .unit,
  .p (.fadr 61 (.t 60) 0) .unit,
  .p (.load 62 (.t 61) 1 false) .unit,
  .p (.mv 63 (.t 6)) .unit,
  .p (.mvP 64 0) .unit,
  .p (.nilck 65 (.t 64)) .unit,
  .p (.fadr 66 (.t 65) 0) .unit,
  .p (.load 67 (.t 66) 1 false) .unit,
  .p (.mv 68 (.t 6)) .unit,
  .p (.iadr 69 2 (.t 67) (.t 68)) .unit,
  .p (.fadr 70 (.t 69) 1) .unit,
  .p (.loadT 71 (.t 70) 1 false) .unit,
  .p (.mv 72 (.t 2)) .unit,
  .p (.callM 73 n_impl_addTo [] (.tmp 71) [((.t 72), 0)]) .unit,
  .p (.iadr 74 2 (.t 62) (.t 63)) .unit,
  .p (.fadr 75 (.t 74) 1) .unit,
  .p (.storeT (.t 75) 73 1) .unit])))),
 76, 3, []⟩
theorem m___impl_Table__join : mH Tryd.prog 36 [(1, 1, (.ms 0)), (1, 8, (.ms 0)), (3, 1, (.ms 0)), (3, 8, (.ms 0)), (4, 0, (.ms 0)), (4, 1, (.ms 0)), (4, 4, .t), (4, 9, (.m2 0)), (4, 12, .t), (5, 0, (.ms 0)), (5, 5, (.ms 0)), (5, 12, .t), (5, 14, (.m 0)), (5, 17, .t)] = some (F___impl_Table__join.code.x, F___impl_Table__join.N, F___impl_Table__join.np, F___impl_Table__join.res) := by kernel_rfl
noncomputable def T___impl_Table__join : (List (List UInt8 × List (List UInt8))) × (List UInt8) × List UInt8 → Option (List (List UInt8 × List (List UInt8))) := evF [fn_slices_Insert___impl_Group_impl_Group_, fn_impl_addTo] F___impl_Table__join [.box (.sl true (.pair .str (.sl true .str))), .cell .str, .cell .str] [0] [] [.box (.sl true (.pair .str (.sl true .str)))]
noncomputable def fn___impl_Table__join : TFn := ⟨36, [.box (.sl true (.pair .str (.sl true .str))), .cell .str, .cell .str], [0], [], [.box (.sl true (.pair .str (.sl true .str)))], T___impl_Table__join⟩
theorem ok___impl_Table__join : FnOk Tryd.prog fn___impl_Table__join := evF_ok mixed (allOk_cons ok_slices_Insert___impl_Group_impl_Group_ (allOk_cons ok_impl_addTo allOk_nil)) m___impl_Table__join (by decide)
def B_impl_Merge_1 : TC := (.seq (.reg none [.p (.bin 33 false .lss (.t 32) (.t 31)) .unit])
 (.seq (.cond (.t 33) .skip (.exit 2))
 (.seq (.block 3 (.seq (.reg none [.p (.iadr 34 1 (.t 30) (.t 32)) .unit,
  .p (.load 35 (.t 34) 1 false) .unit,
  .p (.mv 9 (.t 35)) .unit])
 (.reg none [.p (.fadr 36 (.t 7) 0) .unit,
  .p (.load 37 (.t 36) 1 false) .unit,
  .p (.mv 38 (.t 9)) .unit,
  .p (.callM 39 n___impl_Table__join [] (.tmp 5) [((.t 37), 0), ((.t 38), 0)]) .unit])))
 (.reg none [.p (.bin 40 false .add (.t 32) (.c (.int .i64 1))) .unit,
  .p (.mv 32 (.t 40)) .unit]))))
noncomputable def L_impl_Merge_1 : Nat → (List (List UInt8 × List (List UInt8))) × (List (List UInt8 × List (List UInt8))) × (List (List UInt8 × List (List UInt8))) × (List UInt8 × List (List UInt8)) × (List (List UInt8 × List (List UInt8))) × (Int) × (Int) × (List (List UInt8)) × (Int) × Int → Option (((List (List UInt8 × List (List UInt8))) × (List (List UInt8 × List (List UInt8))) × (List (List UInt8 × List (List UInt8))) × (List (List UInt8 × List (List UInt8))) × (Int) × Int) ⊕ (List (List UInt8 × List (List UInt8)))) := evL [fn_impl_TableOk, fn_impl_copyTable, fn___impl_Table__join] (finT [.c 4 1 true] [] [.agg (.sl true (.pair .str (.sl true .str)))]) 2 ⟨[(2, false), (4, false), (5, false), (7, false), (23, false), (24, false), (25, false), (30, false), (31, false), (32, false)], [.box (.sl false (.pair .str (.sl false .str))), .box (.sl true (.pair .str (.sl true .str))), .box (.sl true (.pair .str (.sl true .str))), .box (.pair .str (.sl false .str)), .cell (.sl false (.pair .str (.sl false .str))), .cell (.int .i64), .cell (.int .i64), .cell (.sl false .str), .cell (.int .i64), .cell (.int .i64)]⟩ ⟨[(2, false), (4, false), (5, false), (23, false), (24, false), (25, false)], [.box (.sl false (.pair .str (.sl false .str))), .box (.sl true (.pair .str (.sl true .str))), .box (.sl true (.pair .str (.sl true .str))), .cell (.sl false (.pair .str (.sl false .str))), .cell (.int .i64), .cell (.int .i64)]⟩ B_impl_Merge_1
def B_impl_Merge_2 : TC := (.seq (.reg none [.p (.bin 26 false .lss (.t 25) (.t 24)) .unit])
 (.seq (.cond (.t 26) .skip (.exit 0))
 (.seq (.block 1 (.seq (.reg none [.p (.iadr 27 2 (.t 23) (.t 25)) .unit,
  .p (.load 28 (.t 27) 2 true) .unit,
  .p (.alloc 7 [(.lit (.string (ba []))), (.sl true 1 [])]) .unit,
  .p (.store (.t 7) (.t 28) 2) .unit])
 (.seq (.reg none [.p (.fadr 29 (.t 7) 1) .unit,
  .p (.load 30 (.t 29) 1 false) .unit,
  .p (.lenB 31 (.t 30)) .unit,
  .p (.mv 32 (.c (.int .i64 0))) .unit])
 (.jl 2 ⟨[(2, false), (4, false), (5, false), (7, false), (23, false), (24, false), (25, false), (30, false), (31, false), (32, false)], [.box (.sl false (.pair .str (.sl false .str))), .box (.sl true (.pair .str (.sl true .str))), .box (.sl true (.pair .str (.sl true .str))), .box (.pair .str (.sl false .str)), .cell (.sl false (.pair .str (.sl false .str))), .cell (.int .i64), .cell (.int .i64), .cell (.sl false .str), .cell (.int .i64), .cell (.int .i64)]⟩ ⟨[(2, false), (4, false), (5, false), (23, false), (24, false), (25, false)], [.box (.sl false (.pair .str (.sl false .str))), .box (.sl true (.pair .str (.sl true .str))), .box (.sl true (.pair .str (.sl true .str))), .cell (.sl false (.pair .str (.sl false .str))), .cell (.int .i64), .cell (.int .i64)]⟩ B_impl_Merge_1))))
 (.reg none [.p (.bin 41 false .add (.t 25) (.c (.int .i64 1))) .unit,
  .p (.mv 25 (.t 41)) .unit]))))
noncomputable def L_impl_Merge_2 : Nat → (List (List UInt8 × List (List UInt8))) × (List (List UInt8 × List (List UInt8))) × (List (List UInt8 × List (List UInt8))) × (List (List UInt8 × List (List UInt8))) × (Int) × Int → Option (((List (List UInt8 × List (List UInt8))) × (List (List UInt8 × List (List UInt8))) × List (List UInt8 × List (List UInt8))) ⊕ (List (List UInt8 × List (List UInt8)))) := evL [fn_impl_TableOk, fn_impl_copyTable, fn___impl_Table__join] (finT [.c 4 1 true] [] [.agg (.sl true (.pair .str (.sl true .str)))]) 0 ⟨[(2, false), (4, false), (5, false), (23, false), (24, false), (25, false)], [.box (.sl false (.pair .str (.sl false .str))), .box (.sl true (.pair .str (.sl true .str))), .box (.sl true (.pair .str (.sl true .str))), .cell (.sl false (.pair .str (.sl false .str))), .cell (.int .i64), .cell (.int .i64)]⟩ ⟨[(2, false), (4, false), (5, false)], [.box (.sl false (.pair .str (.sl false .str))), .box (.sl true (.pair .str (.sl true .str))), .box (.sl true (.pair .str (.sl true .str)))]⟩ B_impl_Merge_2
def F_impl_Merge : TF := ⟨(.seq (.reg none [.p (.box 2 (.t 0)) .unit,
  .p (.box 3 (.t 1)) .unit,
  .p (.alloc 4 [(.sl true 2 [])]) .unit])
 (.seq (.seq (.join ⟨[(2, false), (3, false), (4, false), (17, false)], [.box (.sl false (.pair .str (.sl false .str))), .box (.sl false (.pair .str (.sl false .str))), .box (.sl true (.pair .str (.sl true .str))), .cell .bool]⟩ (.reg none [.p (.load 10 (.t 2) 1 true) .unit,
  .p (.callB 11 n_impl_TableOk [((.t 10), 0)]) .unit,
  .p (.un 12 .not (.t 11)) .unit,
  .p (.mv 13 (.t 12)) .unit,
  .g 13 false (some 14) (.load 14 (.t 3) 1 true) .unit,
  .g 13 false (some 15) (.callB 15 n_impl_TableOk [((.t 14), 0)]) .unit,
  .g 13 false (some 16) (.un 16 .not (.t 15)) .unit,
  .p (.pick 17 (.t 13) (.c (.bool true)) (.t 16)) .unit]))
 (.cond (.t 17) (.seq (.reg none [.p (.load 18 (.t 2) 1 true) .unit,
  .p (.callB 19 n_impl_copyTable [((.t 18), 0)]) .unit,
  .p (.storeT (.t 4) 19 1) .unit])
 .ret) .skip))
 (.seq (.reg none [.p (.load 20 (.t 2) 1 true) .unit,
  .p (.callB 21 n_impl_copyTable [((.t 20), 0)]) .unit,
  .p (.alloc 5 [(.sl true 2 [])]) .unit,
  .p (.storeT (.t 5) 21 1) .unit])
 (.seq (.seq (.reg none [.p (.fadr 22 (.t 3) 0) .unit,
  .p (.load 23 (.t 22) 1 false) .unit,
  .p (.lenB 24 (.t 23)) .unit,
  .p (.mv 25 (.c (.int .i64 0))) .unit])
 (.jl 0 ⟨[(2, false), (4, false), (5, false), (23, false), (24, false), (25, false)], [.box (.sl false (.pair .str (.sl false .str))), .box (.sl true (.pair .str (.sl true .str))), .box (.sl true (.pair .str (.sl true .str))), .cell (.sl false (.pair .str (.sl false .str))), .cell (.int .i64), .cell (.int .i64)]⟩ ⟨[(2, false), (4, false), (5, false)], [.box (.sl false (.pair .str (.sl false .str))), .box (.sl true (.pair .str (.sl true .str))), .box (.sl true (.pair .str (.sl true .str)))]⟩ B_impl_Merge_2))
 (.seq (.seq (.reg none [.p (.load 42 (.t 5) 1 true) .unit,
  .p (.callB 43 n_impl_TableOk [((.t 42), 0)]) .unit,
  .p (.un 44 .not (.t 43)) .unit])
 (.cond (.t 44) (.seq (.reg none [.p (.load 45 (.t 2) 1 true) .unit,
  .p (.callB 46 n_impl_copyTable [((.t 45), 0)]) .unit,
  .p (.storeT (.t 4) 46 1) .unit])
 .ret) .skip))
 (.seq (.reg none [.p (.loadT 47 (.t 5) 1 true) .unit,
  .p (.storeT (.t 4) 47 1) .unit])
 .ret)))))),
 48, 2, [.c 4 1 true]⟩
theorem m_impl_Merge : mH Tryd.prog 16 [(2, 2, .t), (3, 3, .t), (10, 3, (.m 0)), (14, 2, .t), (15, 0, .t), (15, 1, .t)] = some (F_impl_Merge.code.x, F_impl_Merge.N, F_impl_Merge.np, F_impl_Merge.res) := by kernel_rfl
noncomputable def T_impl_Merge : (List (List UInt8 × List (List UInt8))) × List (List UInt8 × List (List UInt8)) → Option (List (List UInt8 × List (List UInt8))) := evF [fn_impl_TableOk, fn_impl_copyTable, fn___impl_Table__join] F_impl_Merge [.agg (.sl false (.pair .str (.sl false .str))), .agg (.sl false (.pair .str (.sl false .str)))] [] [.agg (.sl true (.pair .str (.sl true .str)))] []
noncomputable def fn_impl_Merge : TFn := ⟨16, [.agg (.sl false (.pair .str (.sl false .str))), .agg (.sl false (.pair .str (.sl false .str)))], [], [.agg (.sl true (.pair .str (.sl true .str)))], [], T_impl_Merge⟩
theorem ok_impl_Merge : FnOk Tryd.prog fn_impl_Merge := evF_ok mixed (allOk_cons ok_impl_TableOk (allOk_cons ok_impl_copyTable (allOk_cons ok___impl_Table__join allOk_nil))) m_impl_Merge (by decide)
def B_laws_eqStringS_1 : TC := (.seq (.seq (.reg none [.p (.mv 11 (.t 5)) .unit,
  .p (.mv 12 (.t 0)) .unit,
  .p (.lenB 13 (.t 12)) .unit,
  .p (.bin 14 false .lss (.t 11) (.t 13)) .unit])
 (.cond (.t 14) .skip (.exit 0)))
 (.seq (.block 1 (.seq (.reg (some [[], [], [0, 1], [2], [], [], [4, 5], [6], [3, 7]]) [.p (.mv 17 (.t 0)) .unit,
  .p (.mv 18 (.t 5)) .unit,
  .p (.iadr 19 1 (.t 17) (.t 18)) .unit,
  .p (.load 20 (.t 19) 1 false) .unit,
  .p (.mv 21 (.t 1)) .unit,
  .p (.mv 22 (.t 5)) .unit,
  .p (.iadr 23 1 (.t 21) (.t 22)) .unit,
  .p (.load 24 (.t 23) 1 false) .unit,
  .p (.bin 25 false .neq (.t 20) (.t 24)) .unit])
 (.cond (.t 25) (.seq (.reg none [.p (.mv 4 (.c (.bool false))) .unit])
 .ret) .skip)))
 (.reg none [.p (.mv 15 (.t 5)) .unit,
  .p (.bin 16 false .add (.t 15) (.c (.int .i64 1))) .unit,
  .p (.mv 5 (.t 16)) .unit])))
noncomputable def L_laws_eqStringS_1 : Nat → (List (List UInt8)) × (List (List UInt8)) × Int → Option ((Unit) ⊕ (Bool)) := evL [] (finT [.t 4] [] [.cell .bool]) 0 ⟨[(0, true), (1, true), (5, false)], [.cell (.sl false .str), .cell (.sl false .str), .cell (.int .i64)]⟩ ⟨[], []⟩ B_laws_eqStringS_1
def F_laws_eqStringS : TF := ⟨(.seq (.reg none [.p (.mv 4 (.c (.bool false))) .unit])
 (.seq (.seq (.reg none [.p (.mv 6 (.t 0)) .unit,
  .p (.lenB 7 (.t 6)) .unit,
  .p (.mv 8 (.t 1)) .unit,
  .p (.lenB 9 (.t 8)) .unit,
  .p (.bin 10 false .neq (.t 7) (.t 9)) .unit])
 (.cond (.t 10) (.seq (.reg none [.p (.mv 4 (.c (.bool false))) .unit])
 .ret) .skip))
 (.seq (.seq (.reg none [.p (.mv 5 (.c (.int .i64 0))) .unit])
 (.jl 0 ⟨[(0, true), (1, true), (5, false)], [.cell (.sl false .str), .cell (.sl false .str), .cell (.int .i64)]⟩ ⟨[], []⟩ B_laws_eqStringS_1))
 (.seq (.reg none [.p (.mv 4 (.c (.bool true))) .unit])
 .ret)))),
 26, 2, [.t 4]⟩
theorem m_laws_eqStringS : mH Tryd.prog 65 [] = some (F_laws_eqStringS.code.x, F_laws_eqStringS.N, F_laws_eqStringS.np, F_laws_eqStringS.res) := by kernel_rfl
noncomputable def T_laws_eqStringS : (List (List UInt8)) × List (List UInt8) → Option (Bool) := evF [] F_laws_eqStringS [.cell (.sl false .str), .cell (.sl false .str)] [] [.cell .bool] []
noncomputable def fn_laws_eqStringS : TFn := ⟨65, [.cell (.sl false .str), .cell (.sl false .str)], [], [.cell .bool], [], T_laws_eqStringS⟩
theorem ok_laws_eqStringS : FnOk Tryd.prog fn_laws_eqStringS := evF_ok mixed allOk_nil m_laws_eqStringS (by decide)
def F_laws_eqGroup : TF := ⟨(.seq (.reg none [.p (.box 2 (.t 0)) .unit,
  .p (.box 3 (.t 1)) .unit,
  .p (.mv 4 (.c (.bool false))) .unit])
 (.seq (.seq (.reg none [.p (.fadr 5 (.t 2) 0) .unit,
  .p (.load 6 (.t 5) 1 false) .unit,
  .p (.fadr 7 (.t 3) 0) .unit,
  .p (.load 8 (.t 7) 1 false) .unit,
  .p (.bin 9 false .neq (.t 6) (.t 8)) .unit])
 (.cond (.t 9) (.seq (.reg none [.p (.mv 4 (.c (.bool false))) .unit])
 .ret) .skip))
 (.seq (.seq (.reg none [.p (.fadr 10 (.t 2) 1) .unit,
  .p (.load 11 (.t 10) 1 false) .unit,
  .p (.fadr 12 (.t 3) 1) .unit,
  .p (.load 13 (.t 12) 1 false) .unit,
  .p (.callB 14 n_laws_eqStringS [((.t 11), 0), ((.t 13), 0)]) .unit,
  .p (.un 15 .not (.t 14)) .unit])
 (.cond (.t 15) (.seq (.reg none [.p (.mv 4 (.c (.bool false))) .unit])
 .ret) .skip))
 (.seq (.reg none [.p (.mv 4 (.c (.bool true))) .unit])
 .ret)))),
 16, 2, [.t 4]⟩
theorem m_laws_eqGroup : mH Tryd.prog 48 [] = some (F_laws_eqGroup.code.x, F_laws_eqGroup.N, F_laws_eqGroup.np, F_laws_eqGroup.res) := by kernel_rfl
noncomputable def T_laws_eqGroup : (List UInt8 × List (List UInt8)) × List UInt8 × List (List UInt8) → Option (Bool) := evF [fn_laws_eqStringS] F_laws_eqGroup [.agg (.pair .str (.sl false .str)), .agg (.pair .str (.sl false .str))] [] [.cell .bool] []
noncomputable def fn_laws_eqGroup : TFn := ⟨48, [.agg (.pair .str (.sl false .str)), .agg (.pair .str (.sl false .str))], [], [.cell .bool], [], T_laws_eqGroup⟩
theorem ok_laws_eqGroup : FnOk Tryd.prog fn_laws_eqGroup := evF_ok mixed (allOk_cons ok_laws_eqStringS allOk_nil) m_laws_eqGroup (by decide)
def B_laws_eqGroupS_1 : TC := (.seq (.seq (.reg none [.p (.mv 11 (.t 5)) .unit,
  .p (.mv 12 (.t 0)) .unit,
  .p (.lenB 13 (.t 12)) .unit,
  .p (.bin 14 false .lss (.t 11) (.t 13)) .unit])
 (.cond (.t 14) .skip (.exit 0)))
 (.seq (.block 1 (.seq (.reg (some [[], [], [0, 1], [2], [], [], [4, 5], [6], [3, 7], [8]]) [.p (.mv 17 (.t 0)) .unit,
  .p (.mv 18 (.t 5)) .unit,
  .p (.iadr 19 2 (.t 17) (.t 18)) .unit,
  .p (.load 20 (.t 19) 2 true) .unit,
  .p (.mv 21 (.t 1)) .unit,
  .p (.mv 22 (.t 5)) .unit,
  .p (.iadr 23 2 (.t 21) (.t 22)) .unit,
  .p (.load 24 (.t 23) 2 true) .unit,
  .p (.callB 25 n_laws_eqGroup [((.t 20), 0), ((.t 24), 0)]) .unit,
  .p (.un 26 .not (.t 25)) .unit])
 (.cond (.t 26) (.seq (.reg none [.p (.mv 4 (.c (.bool false))) .unit])
 .ret) .skip)))
 (.reg none [.p (.mv 15 (.t 5)) .unit,
  .p (.bin 16 false .add (.t 15) (.c (.int .i64 1))) .unit,
  .p (.mv 5 (.t 16)) .unit])))
noncomputable def L_laws_eqGroupS_1 : Nat → (List (List UInt8 × List (List UInt8))) × (List (List UInt8 × List (List UInt8))) × Int → Option ((Unit) ⊕ (Bool)) := evL [fn_laws_eqGroup] (finT [.t 4] [] [.cell .bool]) 0 ⟨[(0, true), (1, true), (5, false)], [.cell (.sl false (.pair .str (.sl false .str))), .cell (.sl false (.pair .str (.sl false .str))), .cell (.int .i64)]⟩ ⟨[], []⟩ B_laws_eqGroupS_1
def F_laws_eqGroupS : TF := ⟨(.seq (.reg none [.p (.mv 4 (.c (.bool false))) .unit])
 (.seq (.seq (.reg none [.p (.mv 6 (.t 0)) .unit,
  .p (.lenB 7 (.t 6)) .unit,
  .p (.mv 8 (.t 1)) .unit,
  .p (.lenB 9 (.t 8)) .unit,
  .p (.bin 10 false .neq (.t 7) (.t 9)) .unit])
 (.cond (.t 10) (.seq (.reg none [.p (.mv 4 (.c (.bool false))) .unit])
 .ret) .skip))
 (.seq (.seq (.reg none [.p (.mv 5 (.c (.int .i64 0))) .unit])
 (.jl 0 ⟨[(0, true), (1, true), (5, false)], [.cell (.sl false (.pair .str (.sl false .str))), .cell (.sl false (.pair .str (.sl false .str))), .cell (.int .i64)]⟩ ⟨[], []⟩ B_laws_eqGroupS_1))
 (.seq (.reg none [.p (.mv 4 (.c (.bool true))) .unit])
 .ret)))),
 27, 2, [.t 4]⟩
theorem m_laws_eqGroupS : mH Tryd.prog 29 [] = some (F_laws_eqGroupS.code.x, F_laws_eqGroupS.N, F_laws_eqGroupS.np, F_laws_eqGroupS.res) := by kernel_rfl
noncomputable def T_laws_eqGroupS : (List (List UInt8 × List (List UInt8))) × List (List UInt8 × List (List UInt8)) → Option (Bool) := evF [fn_laws_eqGroup] F_laws_eqGroupS [.cell (.sl false (.pair .str (.sl false .str))), .cell (.sl false (.pair .str (.sl false .str)))] [] [.cell .bool] []
noncomputable def fn_laws_eqGroupS : TFn := ⟨29, [.cell (.sl false (.pair .str (.sl false .str))), .cell (.sl false (.pair .str (.sl false .str)))], [], [.cell .bool], [], T_laws_eqGroupS⟩
theorem ok_laws_eqGroupS : FnOk Tryd.prog fn_laws_eqGroupS := evF_ok mixed (allOk_cons ok_laws_eqGroup allOk_nil) m_laws_eqGroupS (by decide)
def F_laws_eqTable : TF := ⟨(.seq (.reg none [.p (.box 2 (.t 0)) .unit,
  .p (.box 3 (.t 1)) .unit,
  .p (.mv 4 (.c (.bool false))) .unit])
 (.seq (.seq (.reg none [.p (.fadr 5 (.t 2) 0) .unit,
  .p (.load 6 (.t 5) 1 false) .unit,
  .p (.fadr 7 (.t 3) 0) .unit,
  .p (.load 8 (.t 7) 1 false) .unit,
  .p (.callB 9 n_laws_eqGroupS [((.t 6), 0), ((.t 8), 0)]) .unit,
  .p (.un 10 .not (.t 9)) .unit])
 (.cond (.t 10) (.seq (.reg none [.p (.mv 4 (.c (.bool false))) .unit])
 .ret) .skip))
 (.seq (.reg none [.p (.mv 4 (.c (.bool true))) .unit])
 .ret))),
 11, 2, [.t 4]⟩
theorem m_laws_eqTable : mH Tryd.prog 10 [] = some (F_laws_eqTable.code.x, F_laws_eqTable.N, F_laws_eqTable.np, F_laws_eqTable.res) := by kernel_rfl
noncomputable def T_laws_eqTable : (List (List UInt8 × List (List UInt8))) × List (List UInt8 × List (List UInt8)) → Option (Bool) := evF [fn_laws_eqGroupS] F_laws_eqTable [.agg (.sl false (.pair .str (.sl false .str))), .agg (.sl false (.pair .str (.sl false .str)))] [] [.cell .bool] []
noncomputable def fn_laws_eqTable : TFn := ⟨10, [.agg (.sl false (.pair .str (.sl false .str))), .agg (.sl false (.pair .str (.sl false .str)))], [], [.cell .bool], [], T_laws_eqTable⟩
theorem ok_laws_eqTable : FnOk Tryd.prog fn_laws_eqTable := evF_ok mixed (allOk_cons ok_laws_eqGroupS allOk_nil) m_laws_eqTable (by decide)
def B_laws_markText_1 : TC := (.seq (.seq (.reg none [.p (.mv 6 (.t 0)) .unit,
  .p (.bin 7 false .gtr (.t 6) (.c (.int .i64 0))) .unit])
 (.cond (.t 7) .skip (.exit 0)))
 (.block 1 (.seq (.reg none [.p (.mv 8 (.t 0)) .unit,
  .p (.bin 9 false .rem (.t 8) (.c (.int .i64 10))) .unit,
  .p (.bin 10 false .add (.c (.int .i64 48)) (.t 9)) .unit,
  .p (.cvi 11 .u8 .i64 (.t 10)) .unit,
  .p (.bldS 12 1 [(.lit (.int .u8 0))] [⟨0, 1, (.t 11)⟩]) (.int .u8),
  .p (.b2s 13 (.t 12)) .unit,
  .p (.mv 14 (.t 3)) .unit,
  .p (.bin 15 false .add (.t 13) (.t 14)) .unit,
  .p (.mv 3 (.t 15)) .unit])
 (.reg none [.p (.mv 16 (.t 0)) .unit,
  .p (.bin 17 false .quo (.t 16) (.c (.int .i64 10))) .unit,
  .p (.mv 0 (.t 17)) .unit]))))
noncomputable def L_laws_markText_1 : Nat → (Int) × List UInt8 → Option ((List UInt8) ⊕ (List UInt8)) := evL [] (finT [.t 2] [] [.cell .str]) 0 ⟨[(0, false), (3, false)], [.cell (.int .i64), .cell .str]⟩ ⟨[(3, false)], [.cell .str]⟩ B_laws_markText_1
def F_laws_markText : TF := ⟨(.seq (.reg none [.p (.mv 2 (.c (.string (ba [])))) .unit])
 (.seq (.seq (.reg none [.p (.mv 4 (.t 0)) .unit,
  .p (.bin 5 false .leq (.t 4) (.c (.int .i64 0))) .unit])
 (.cond (.t 5) (.seq (.reg none [.p (.mv 2 (.c (.string (ba [109, 48])))) .unit])
 .ret) .skip))
 (.seq (.reg none [.p (.mv 3 (.c (.string (ba [])))) .unit])
 (.seq (.jl 0 ⟨[(0, false), (3, false)], [.cell (.int .i64), .cell .str]⟩ ⟨[(3, false)], [.cell .str]⟩ B_laws_markText_1)
 (.seq (.reg none [.p (.mv 18 (.t 3)) .unit,
  .p (.bin 19 false .add (.c (.string (ba [109]))) (.t 18)) .unit,
  .p (.mv 2 (.t 19)) .unit])
 .ret))))),
 20, 1, [.t 2]⟩
theorem m_laws_markText : mH Tryd.prog 49 [] = some (F_laws_markText.code.x, F_laws_markText.N, F_laws_markText.np, F_laws_markText.res) := by kernel_rfl
noncomputable def T_laws_markText : Int → Option (List UInt8) := evF [] F_laws_markText [.cell (.int .i64)] [] [.cell .str] []
noncomputable def fn_laws_markText : TFn := ⟨49, [.cell (.int .i64)], [], [.cell .str], [], T_laws_markText⟩
theorem ok_laws_markText : FnOk Tryd.prog fn_laws_markText := evF_ok mixed allOk_nil m_laws_markText (by decide)
def B_laws_markStringS_1 : TC := (.seq (.seq (.reg none [.p (.mv 6 (.t 5)) .unit,
  .p (.mvA 7 0) .unit,
  .p (.lenB 8 (.t 7)) .unit,
  .p (.bin 9 false .lss (.t 6) (.t 8)) .unit])
 (.cond (.t 9) .skip (.exit 0)))
 (.seq (.block 1 (.seq (.reg none [.p (.mvA 12 0) .unit,
  .p (.mv 13 (.t 5)) .unit,
  .p (.mv 14 (.t 1)) .unit,
  .p (.callB 15 n_laws_markText [((.t 14), 0)]) .unit,
  .p (.iadr 16 1 (.t 12) (.t 13)) .unit,
  .p (.store (.t 16) (.t 15) 1) .unit])
 (.reg none [.p (.mv 17 (.t 1)) .unit,
  .p (.bin 18 false .add (.t 17) (.c (.int .i64 1))) .unit,
  .p (.mv 1 (.t 18)) .unit])))
 (.reg none [.p (.mv 10 (.t 5)) .unit,
  .p (.bin 11 false .add (.t 10) (.c (.int .i64 1))) .unit,
  .p (.mv 5 (.t 11)) .unit])))
noncomputable def L_laws_markStringS_1 : Nat → (List (List UInt8)) × (Int) × Int → Option (((List (List UInt8)) × Int) ⊕ ((Int) × List (List UInt8))) := evL [fn_laws_markText] (finT [.t 4] [0] [.cell (.int .i64), .cell (.sl true .str)]) 0 ⟨[(0, true), (1, false), (5, false)], [.cell (.sl true .str), .cell (.int .i64), .cell (.int .i64)]⟩ ⟨[(0, true), (1, false)], [.cell (.sl true .str), .cell (.int .i64)]⟩ B_laws_markStringS_1
def F_laws_markStringS : TF := ⟨(.seq (.reg none [.p (.mv 4 (.c (.int .i64 0))) .unit])
 (.seq (.seq (.reg none [.p (.mv 5 (.c (.int .i64 0))) .unit])
 (.jl 0 ⟨[(0, true), (1, false), (5, false)], [.cell (.sl true .str), .cell (.int .i64), .cell (.int .i64)]⟩ ⟨[(0, true), (1, false)], [.cell (.sl true .str), .cell (.int .i64)]⟩ B_laws_markStringS_1))
 (.seq (.reg none [.p (.mv 19 (.t 1)) .unit,
  .p (.mv 4 (.t 19)) .unit])
 .ret))),
 20, 2, [.t 4]⟩
theorem m_laws_markStringS : mH Tryd.prog 50 [(2, 1, .v), (4, 0, .v)] = some (F_laws_markStringS.code.x, F_laws_markStringS.N, F_laws_markStringS.np, F_laws_markStringS.res) := by kernel_rfl
noncomputable def T_laws_markStringS : (List (List UInt8)) × Int → Option ((Int) × List (List UInt8)) := evF [fn_laws_markText] F_laws_markStringS [.cell (.sl true .str), .cell (.int .i64)] [0] [.cell (.int .i64)] [.cell (.sl true .str)]
noncomputable def fn_laws_markStringS : TFn := ⟨50, [.cell (.sl true .str), .cell (.int .i64)], [0], [.cell (.int .i64)], [.cell (.sl true .str)], T_laws_markStringS⟩
theorem ok_laws_markStringS : FnOk Tryd.prog fn_laws_markStringS := evF_ok mixed (allOk_cons ok_laws_markText allOk_nil) m_laws_markStringS (by decide)
def B_laws_markGroupS_1 : TC := (.seq (.seq (.reg none [.p (.mv 6 (.t 5)) .unit,
  .p (.mvA 7 0) .unit,
  .p (.lenB 8 (.t 7)) .unit,
  .p (.bin 9 false .lss (.t 6) (.t 8)) .unit])
 (.cond (.t 9) .skip (.exit 0)))
 (.seq (.block 1 (.seq (.join ⟨[(0, true), (1, false), (5, false)], [.cell (.sl true (.pair .str (.sl true .str))), .cell (.int .i64), .cell (.int .i64)]⟩ (.reg none [.p (.mvA 12 0) .unit,
  .p (.mv 13 (.t 5)) .unit,
  .p (.mv 14 (.t 1)) .unit,
  .p (.callB 15 n_laws_markText [((.t 14), 0)]) .unit,
  .p (.iadr 16 2 (.t 12) (.t 13)) .unit,
  .p (.fadr 17 (.t 16) 0) .unit,
  .p (.store (.t 17) (.t 15) 1) .unit]))
 (.seq (.reg none [.p (.mv 18 (.t 1)) .unit,
  .p (.bin 19 false .add (.t 18) (.c (.int .i64 1))) .unit,
  .p (.mv 1 (.t 19)) .unit])
 (.reg none [.p (.mvA 20 0) .unit,
  .p (.mv 21 (.t 5)) .unit,
  .p (.iadr 22 2 (.t 20) (.t 21)) .unit,
  .p (.fadr 23 (.t 22) 1) .unit,
  .p (.load 24 (.t 23) 1 false) .unit,
  .p (.mv 25 (.t 1)) .unit,
  .p (.callM 26 n_laws_markStringS [] (.agg (.t 24) 0) [((.t 25), 0)]) .unit,
  .p (.mv 1 (.t 26)) .unit]))))
 (.reg none [.p (.mv 10 (.t 5)) .unit,
  .p (.bin 11 false .add (.t 10) (.c (.int .i64 1))) .unit,
  .p (.mv 5 (.t 11)) .unit])))
noncomputable def L_laws_markGroupS_1 : Nat → (List (List UInt8 × List (List UInt8))) × (Int) × Int → Option (((List (List UInt8 × List (List UInt8))) × Int) ⊕ ((Int) × List (List UInt8 × List (List UInt8)))) := evL [fn_laws_markText, fn_laws_markStringS] (finT [.t 4] [0] [.cell (.int .i64), .cell (.sl true (.pair .str (.sl true .str)))]) 0 ⟨[(0, true), (1, false), (5, false)], [.cell (.sl true (.pair .str (.sl true .str))), .cell (.int .i64), .cell (.int .i64)]⟩ ⟨[(0, true), (1, false)], [.cell (.sl true (.pair .str (.sl true .str))), .cell (.int .i64)]⟩ B_laws_markGroupS_1
def F_laws_markGroupS : TF := ⟨(.seq (.reg none [.p (.mv 4 (.c (.int .i64 0))) .unit])
 (.seq (.seq (.reg none [.p (.mv 5 (.c (.int .i64 0))) .unit])
 (.jl 0 ⟨[(0, true), (1, false), (5, false)], [.cell (.sl true (.pair .str (.sl true .str))), .cell (.int .i64), .cell (.int .i64)]⟩ ⟨[(0, true), (1, false)], [.cell (.sl true (.pair .str (.sl true .str))), .cell (.int .i64)]⟩ B_laws_markGroupS_1))
 (.seq (.reg none [.p (.mv 27 (.t 1)) .unit,
  .p (.mv 4 (.t 27)) .unit])
 .ret))),
 28, 2, [.t 4]⟩
theorem m_laws_markGroupS : mH Tryd.prog 30 [(2, 1, .v), (4, 0, .v), (6, 0, .v), (6, 6, (.g 0 0))] = some (F_laws_markGroupS.code.x, F_laws_markGroupS.N, F_laws_markGroupS.np, F_laws_markGroupS.res) := by kernel_rfl
noncomputable def T_laws_markGroupS : (List (List UInt8 × List (List UInt8))) × Int → Option ((Int) × List (List UInt8 × List (List UInt8))) := evF [fn_laws_markText, fn_laws_markStringS] F_laws_markGroupS [.cell (.sl true (.pair .str (.sl true .str))), .cell (.int .i64)] [0] [.cell (.int .i64)] [.cell (.sl true (.pair .str (.sl true .str)))]
noncomputable def fn_laws_markGroupS : TFn := ⟨30, [.cell (.sl true (.pair .str (.sl true .str))), .cell (.int .i64)], [0], [.cell (.int .i64)], [.cell (.sl true (.pair .str (.sl true .str)))], T_laws_markGroupS⟩
theorem ok_laws_markGroupS : FnOk Tryd.prog fn_laws_markGroupS := evF_ok mixed (allOk_cons ok_laws_markText (allOk_cons ok_laws_markStringS allOk_nil)) m_laws_markGroupS (by decide)
def F_laws_markTable : TF := ⟨(.seq (.reg none [.p (.boxL 2 0) .unit,
  .p (.mv 4 (.c (.int .i64 0))) .unit])
 (.seq (.reg none [.p (.fadr 5 (.t 2) 0) .unit,
  .p (.load 6 (.t 5) 1 false) .unit,
  .p (.mv 7 (.t 1)) .unit,
  .p (.callM 8 n_laws_markGroupS [] (.aggS (.t 6) 2 0) [((.t 7), 0)]) .unit,
  .p (.mv 1 (.t 8)) .unit])
 (.seq (.reg none [.p (.mv 9 (.t 1)) .unit,
  .p (.mv 4 (.t 9)) .unit])
 .ret))),
 10, 2, [.t 4]⟩
theorem m_laws_markTable : mH Tryd.prog 12 [(0, 0, .v), (1, 3, (.gs 0 2 0))] = some (F_laws_markTable.code.x, F_laws_markTable.N, F_laws_markTable.np, F_laws_markTable.res) := by kernel_rfl
noncomputable def T_laws_markTable : (List (List UInt8 × List (List UInt8))) × Int → Option ((Int) × List (List UInt8 × List (List UInt8))) := evF [fn_laws_markGroupS] F_laws_markTable [.agg (.sl true (.pair .str (.sl true .str))), .cell (.int .i64)] [0] [.cell (.int .i64)] [.agg (.sl true (.pair .str (.sl true .str)))]
noncomputable def fn_laws_markTable : TFn := ⟨12, [.agg (.sl true (.pair .str (.sl true .str))), .cell (.int .i64)], [0], [.cell (.int .i64)], [.agg (.sl true (.pair .str (.sl true .str)))], T_laws_markTable⟩
theorem ok_laws_markTable : FnOk Tryd.prog fn_laws_markTable := evF_ok mixed (allOk_cons ok_laws_markGroupS allOk_nil) m_laws_markTable (by decide)
def B_laws_heldStringS_1 : TC := (.seq (.seq (.reg none [.p (.mv 6 (.t 5)) .unit,
  .p (.mv 7 (.t 0)) .unit,
  .p (.lenB 8 (.t 7)) .unit,
  .p (.bin 9 false .lss (.t 6) (.t 8)) .unit])
 (.cond (.t 9) .skip (.exit 0)))
 (.seq (.block 1 (.seq (.seq (.reg (some [[], [], [0, 1], [2], [], [4], [3, 5]]) [.p (.mv 12 (.t 0)) .unit,
  .p (.mv 13 (.t 5)) .unit,
  .p (.iadr 14 1 (.t 12) (.t 13)) .unit,
  .p (.load 15 (.t 14) 1 false) .unit,
  .p (.mv 16 (.t 1)) .unit,
  .p (.callB 17 n_laws_markText [((.t 16), 0)]) .unit,
  .p (.bin 18 false .neq (.t 15) (.t 17)) .unit])
 (.cond (.t 18) (.seq (.reg none [.p (.mv 4 (.c (.int .i64 (-1)))) .unit])
 .ret) .skip))
 (.reg none [.p (.mv 19 (.t 1)) .unit,
  .p (.bin 20 false .add (.t 19) (.c (.int .i64 1))) .unit,
  .p (.mv 1 (.t 20)) .unit])))
 (.reg none [.p (.mv 10 (.t 5)) .unit,
  .p (.bin 11 false .add (.t 10) (.c (.int .i64 1))) .unit,
  .p (.mv 5 (.t 11)) .unit])))
noncomputable def L_laws_heldStringS_1 : Nat → (List (List UInt8)) × (Int) × Int → Option ((Int) ⊕ (Int)) := evL [fn_laws_markText] (finT [.t 4] [] [.cell (.int .i64)]) 0 ⟨[(0, true), (1, false), (5, false)], [.cell (.sl false .str), .cell (.int .i64), .cell (.int .i64)]⟩ ⟨[(1, false)], [.cell (.int .i64)]⟩ B_laws_heldStringS_1
def F_laws_heldStringS : TF := ⟨(.seq (.reg none [.p (.mv 4 (.c (.int .i64 0))) .unit])
 (.seq (.seq (.reg none [.p (.mv 5 (.c (.int .i64 0))) .unit])
 (.jl 0 ⟨[(0, true), (1, false), (5, false)], [.cell (.sl false .str), .cell (.int .i64), .cell (.int .i64)]⟩ ⟨[(1, false)], [.cell (.int .i64)]⟩ B_laws_heldStringS_1))
 (.seq (.reg none [.p (.mv 21 (.t 1)) .unit,
  .p (.mv 4 (.t 21)) .unit])
 .ret))),
 22, 2, [.t 4]⟩
theorem m_laws_heldStringS : mH Tryd.prog 51 [] = some (F_laws_heldStringS.code.x, F_laws_heldStringS.N, F_laws_heldStringS.np, F_laws_heldStringS.res) := by kernel_rfl
noncomputable def T_laws_heldStringS : (List (List UInt8)) × Int → Option (Int) := evF [fn_laws_markText] F_laws_heldStringS [.cell (.sl false .str), .cell (.int .i64)] [] [.cell (.int .i64)] []
noncomputable def fn_laws_heldStringS : TFn := ⟨51, [.cell (.sl false .str), .cell (.int .i64)], [], [.cell (.int .i64)], [], T_laws_heldStringS⟩
theorem ok_laws_heldStringS : FnOk Tryd.prog fn_laws_heldStringS := evF_ok mixed (allOk_cons ok_laws_markText allOk_nil) m_laws_heldStringS (by decide)
def B_laws_heldGroupS_1 : TC := (.seq (.seq (.reg none [.p (.mv 6 (.t 5)) .unit,
  .p (.mv 7 (.t 0)) .unit,
  .p (.lenB 8 (.t 7)) .unit,
  .p (.bin 9 false .lss (.t 6) (.t 8)) .unit])
 (.cond (.t 9) .skip (.exit 0)))
 (.seq (.block 1 (.seq (.seq (.reg (some [[], [], [0, 1], [2], [3], [], [5], [4, 6]]) [.p (.mv 12 (.t 0)) .unit,
  .p (.mv 13 (.t 5)) .unit,
  .p (.iadr 14 2 (.t 12) (.t 13)) .unit,
  .p (.fadr 15 (.t 14) 0) .unit,
  .p (.load 16 (.t 15) 1 false) .unit,
  .p (.mv 17 (.t 1)) .unit,
  .p (.callB 18 n_laws_markText [((.t 17), 0)]) .unit,
  .p (.bin 19 false .neq (.t 16) (.t 18)) .unit])
 (.cond (.t 19) (.seq (.reg none [.p (.mv 4 (.c (.int .i64 (-1)))) .unit])
 .ret) .skip))
 (.seq (.reg none [.p (.mv 20 (.t 1)) .unit,
  .p (.bin 21 false .add (.t 20) (.c (.int .i64 1))) .unit,
  .p (.mv 1 (.t 21)) .unit])
 (.seq (.reg none [.p (.mv 22 (.t 0)) .unit,
  .p (.mv 23 (.t 5)) .unit,
  .p (.iadr 24 2 (.t 22) (.t 23)) .unit,
  .p (.fadr 25 (.t 24) 1) .unit,
  .p (.load 26 (.t 25) 1 false) .unit,
  .p (.mv 27 (.t 1)) .unit,
  .p (.callB 28 n_laws_heldStringS [((.t 26), 0), ((.t 27), 0)]) .unit,
  .p (.mv 1 (.t 28)) .unit])
 (.seq (.reg none [.p (.mv 29 (.t 1)) .unit,
  .p (.bin 30 false .lss (.t 29) (.c (.int .i64 0))) .unit])
 (.cond (.t 30) (.seq (.reg none [.p (.mv 4 (.c (.int .i64 (-1)))) .unit])
 .ret) .skip))))))
 (.reg none [.p (.mv 10 (.t 5)) .unit,
  .p (.bin 11 false .add (.t 10) (.c (.int .i64 1))) .unit,
  .p (.mv 5 (.t 11)) .unit])))
noncomputable def L_laws_heldGroupS_1 : Nat → (List (List UInt8 × List (List UInt8))) × (Int) × Int → Option ((Int) ⊕ (Int)) := evL [fn_laws_markText, fn_laws_heldStringS] (finT [.t 4] [] [.cell (.int .i64)]) 0 ⟨[(0, true), (1, false), (5, false)], [.cell (.sl false (.pair .str (.sl false .str))), .cell (.int .i64), .cell (.int .i64)]⟩ ⟨[(1, false)], [.cell (.int .i64)]⟩ B_laws_heldGroupS_1
def F_laws_heldGroupS : TF := ⟨(.seq (.reg none [.p (.mv 4 (.c (.int .i64 0))) .unit])
 (.seq (.seq (.reg none [.p (.mv 5 (.c (.int .i64 0))) .unit])
 (.jl 0 ⟨[(0, true), (1, false), (5, false)], [.cell (.sl false (.pair .str (.sl false .str))), .cell (.int .i64), .cell (.int .i64)]⟩ ⟨[(1, false)], [.cell (.int .i64)]⟩ B_laws_heldGroupS_1))
 (.seq (.reg none [.p (.mv 31 (.t 1)) .unit,
  .p (.mv 4 (.t 31)) .unit])
 .ret))),
 32, 2, [.t 4]⟩
theorem m_laws_heldGroupS : mH Tryd.prog 31 [] = some (F_laws_heldGroupS.code.x, F_laws_heldGroupS.N, F_laws_heldGroupS.np, F_laws_heldGroupS.res) := by kernel_rfl
noncomputable def T_laws_heldGroupS : (List (List UInt8 × List (List UInt8))) × Int → Option (Int) := evF [fn_laws_markText, fn_laws_heldStringS] F_laws_heldGroupS [.cell (.sl false (.pair .str (.sl false .str))), .cell (.int .i64)] [] [.cell (.int .i64)] []
noncomputable def fn_laws_heldGroupS : TFn := ⟨31, [.cell (.sl false (.pair .str (.sl false .str))), .cell (.int .i64)], [], [.cell (.int .i64)], [], T_laws_heldGroupS⟩
theorem ok_laws_heldGroupS : FnOk Tryd.prog fn_laws_heldGroupS := evF_ok mixed (allOk_cons ok_laws_markText (allOk_cons ok_laws_heldStringS allOk_nil)) m_laws_heldGroupS (by decide)
def F_laws_heldTable : TF := ⟨(.seq (.reg none [.p (.box 2 (.t 0)) .unit,
  .p (.mv 4 (.c (.int .i64 0))) .unit])
 (.seq (.reg none [.p (.fadr 5 (.t 2) 0) .unit,
  .p (.load 6 (.t 5) 1 false) .unit,
  .p (.mv 7 (.t 1)) .unit,
  .p (.callB 8 n_laws_heldGroupS [((.t 6), 0), ((.t 7), 0)]) .unit,
  .p (.mv 1 (.t 8)) .unit])
 (.seq (.seq (.reg none [.p (.mv 9 (.t 1)) .unit,
  .p (.bin 10 false .lss (.t 9) (.c (.int .i64 0))) .unit])
 (.cond (.t 10) (.seq (.reg none [.p (.mv 4 (.c (.int .i64 (-1)))) .unit])
 .ret) .skip))
 (.seq (.reg none [.p (.mv 11 (.t 1)) .unit,
  .p (.mv 4 (.t 11)) .unit])
 .ret)))),
 12, 2, [.t 4]⟩
theorem m_laws_heldTable : mH Tryd.prog 14 [] = some (F_laws_heldTable.code.x, F_laws_heldTable.N, F_laws_heldTable.np, F_laws_heldTable.res) := by kernel_rfl
noncomputable def T_laws_heldTable : (List (List UInt8 × List (List UInt8))) × Int → Option (Int) := evF [fn_laws_heldGroupS] F_laws_heldTable [.agg (.sl false (.pair .str (.sl false .str))), .cell (.int .i64)] [] [.cell (.int .i64)] []
noncomputable def fn_laws_heldTable : TFn := ⟨14, [.agg (.sl false (.pair .str (.sl false .str))), .cell (.int .i64)], [], [.cell (.int .i64)], [], T_laws_heldTable⟩
theorem ok_laws_heldTable : FnOk Tryd.prog fn_laws_heldTable := evF_ok mixed (allOk_cons ok_laws_heldGroupS allOk_nil) m_laws_heldTable (by decide)
def F_laws_FnExactMerge : TF := ⟨(.seq (.reg none [.p (.box 2 (.t 0)) .unit,
  .p (.box 3 (.t 1)) .unit,
  .p (.mv 4 (.c (.bool false))) .unit])
 (.seq (.reg none [.p (.mv 5 (.c (.int .i64 1048576))) .unit])
 (.seq (.reg none [.p (.load 14 (.t 2) 1 true) .unit,
  .p (.mv 15 (.t 5)) .unit,
  .p (.callB 16 n_laws_szTable [((.t 14), 0), ((.t 15), 0)]) .unit,
  .p (.mv 5 (.t 16)) .unit])
 (.seq (.seq (.reg none [.p (.mv 17 (.t 5)) .unit,
  .p (.bin 18 false .lss (.t 17) (.c (.int .i64 0))) .unit])
 (.cond (.t 18) (.seq (.reg none [.p (.mv 4 (.c (.bool true))) .unit])
 .ret) .skip))
 (.seq (.reg none [.p (.load 19 (.t 3) 1 true) .unit,
  .p (.mv 20 (.t 5)) .unit,
  .p (.callB 21 n_laws_szTable [((.t 19), 0), ((.t 20), 0)]) .unit,
  .p (.mv 5 (.t 21)) .unit])
 (.seq (.seq (.reg none [.p (.mv 22 (.t 5)) .unit,
  .p (.bin 23 false .lss (.t 22) (.c (.int .i64 0))) .unit])
 (.cond (.t 23) (.seq (.reg none [.p (.mv 4 (.c (.bool true))) .unit])
 .ret) .skip))
 (.seq (.reg (some [[], [0], [], [2, 1], [1, 3, 3], [], [5, 4, 4, 0, 1, 2, 3, 4, 5]]) [.p (.load 24 (.t 2) 1 true) .unit,
  .p (.callB 25 n_laws_toTable [((.t 24), 0)]) .unit,
  .p (.load 26 (.t 3) 1 true) .unit,
  .p (.callB 27 n_laws_toTable [((.t 26), 0)]) .unit,
  .p (.callB 28 n_spec_Merge [((.t 25), 0), ((.t 27), 0)]) .unit,
  .p (.alloc 6 [(.sl true 2 [])]) .unit,
  .p (.storeT (.t 6) 28 1) .unit])
 (.seq (.reg none [.p (.load 29 (.t 2) 1 true) .unit,
  .p (.callB 30 n_laws_toTable [((.t 29), 0)]) .unit,
  .p (.alloc 7 [(.sl true 2 [])]) .unit,
  .p (.storeT (.t 7) 30 1) .unit])
 (.seq (.reg none [.p (.load 31 (.t 3) 1 true) .unit,
  .p (.callB 32 n_laws_toTable [((.t 31), 0)]) .unit,
  .p (.alloc 8 [(.sl true 2 [])]) .unit,
  .p (.storeT (.t 8) 32 1) .unit])
 (.seq (.reg none [.p (.load 33 (.t 7) 1 true) .unit,
  .p (.load 34 (.t 8) 1 true) .unit,
  .p (.callB 35 n_impl_Merge [((.t 33), 0), ((.t 34), 0)]) .unit,
  .p (.alloc 9 [(.sl true 2 [])]) .unit,
  .p (.storeT (.t 9) 35 1) .unit])
 (.seq (.seq (.reg none [.p (.load 36 (.t 9) 1 true) .unit,
  .p (.load 37 (.t 6) 1 true) .unit,
  .p (.callB 38 n_laws_eqTable [((.t 36), 0), ((.t 37), 0)]) .unit,
  .p (.un 39 .not (.t 38)) .unit])
 (.cond (.t 39) (.seq (.reg none [.p (.mv 4 (.c (.bool false))) .unit])
 .ret) .skip))
 (.seq (.seq (.reg (some [[], [], [1], [0, 2, 2], [3]]) [.p (.load 40 (.t 7) 1 true) .unit,
  .p (.load 41 (.t 2) 1 true) .unit,
  .p (.callB 42 n_laws_toTable [((.t 41), 0)]) .unit,
  .p (.callB 43 n_laws_eqTable [((.t 40), 0), ((.t 42), 0)]) .unit,
  .p (.un 44 .not (.t 43)) .unit])
 (.cond (.t 44) (.seq (.reg none [.p (.mv 4 (.c (.bool false))) .unit])
 .ret) .skip))
 (.seq (.seq (.reg (some [[], [], [1], [0, 2, 2], [3]]) [.p (.load 45 (.t 8) 1 true) .unit,
  .p (.load 46 (.t 3) 1 true) .unit,
  .p (.callB 47 n_laws_toTable [((.t 46), 0)]) .unit,
  .p (.callB 48 n_laws_eqTable [((.t 45), 0), ((.t 47), 0)]) .unit,
  .p (.un 49 .not (.t 48)) .unit])
 (.cond (.t 49) (.seq (.reg none [.p (.mv 4 (.c (.bool false))) .unit])
 .ret) .skip))
 (.seq (.reg none [.p (.mv 10 (.c (.int .i64 1))) .unit])
 (.seq (.reg none [.p (.load 50 (.t 7) 1 true) .unit,
  .p (.mv 51 (.t 10)) .unit,
  .p (.callM 52 n_laws_markTable [] (.agg (.t 50) 7) [((.t 51), 0)]) .unit,
  .p (.mv 10 (.t 52)) .unit])
 (.seq (.reg none [.p (.load 53 (.t 8) 1 true) .unit,
  .p (.mv 54 (.t 10)) .unit,
  .p (.callM 55 n_laws_markTable [] (.agg (.t 53) 8) [((.t 54), 0)]) .unit,
  .p (.mv 10 (.t 55)) .unit])
 (.seq (.seq (.join ⟨[(2, false), (3, false), (6, false), (9, false), (63, false)], [.box (.sl false (.pair .str (.sl false .str))), .box (.sl false (.pair .str (.sl false .str))), .box (.sl true (.pair .str (.sl true .str))), .box (.sl true (.pair .str (.sl true .str))), .cell .bool]⟩ (.reg none [.p (.mv 56 (.t 10)) .unit,
  .p (.bin 57 false .lss (.t 56) (.c (.int .i64 0))) .unit,
  .p (.mv 58 (.t 57)) .unit,
  .g 58 false (some 59) (.load 59 (.t 9) 1 true) .unit,
  .g 58 false (some 60) (.load 60 (.t 6) 1 true) .unit,
  .g 58 false (some 61) (.callB 61 n_laws_eqTable [((.t 59), 0), ((.t 60), 0)]) .unit,
  .g 58 false (some 62) (.un 62 .not (.t 61)) .unit,
  .p (.pick 63 (.t 58) (.c (.bool true)) (.t 62)) .unit]))
 (.cond (.t 63) (.seq (.reg none [.p (.mv 4 (.c (.bool false))) .unit])
 .ret) .skip))
 (.seq (.reg none [.p (.mv 11 (.c (.int .i64 1))) .unit])
 (.seq (.reg none [.p (.load 64 (.t 9) 1 true) .unit,
  .p (.mv 65 (.t 11)) .unit,
  .p (.callM 66 n_laws_markTable [] (.agg (.t 64) 9) [((.t 65), 0)]) .unit,
  .p (.mv 11 (.t 66)) .unit])
 (.seq (.reg none [.p (.mv 12 (.c (.int .i64 1))) .unit])
 (.seq (.reg none [.p (.load 67 (.t 9) 1 true) .unit,
  .p (.mv 68 (.t 12)) .unit,
  .p (.callB 69 n_laws_heldTable [((.t 67), 0), ((.t 68), 0)]) .unit,
  .p (.mv 12 (.t 69)) .unit])
 (.seq (.seq (.reg none [.p (.mv 70 (.t 12)) .unit,
  .p (.bin 71 false .lss (.t 70) (.c (.int .i64 0))) .unit])
 (.cond (.t 71) (.seq (.reg none [.p (.mv 4 (.c (.bool false))) .unit])
 .ret) .skip))
 (.seq (.seq (.reg none [.p (.mv 72 (.t 12)) .unit,
  .p (.mv 73 (.t 11)) .unit,
  .p (.bin 74 false .neq (.t 72) (.t 73)) .unit])
 (.cond (.t 74) (.seq (.reg none [.p (.mv 4 (.c (.bool false))) .unit])
 .ret) .skip))
 (.seq (.reg (some [[], [0], [], [2, 1], [1, 3, 3], [], [5, 4, 4, 0, 1, 2, 3, 4, 5]]) [.p (.load 75 (.t 2) 1 true) .unit,
  .p (.callB 76 n_laws_toTable [((.t 75), 0)]) .unit,
  .p (.load 77 (.t 3) 1 true) .unit,
  .p (.callB 78 n_laws_toTable [((.t 77), 0)]) .unit,
  .p (.callB 79 n_impl_Merge [((.t 76), 0), ((.t 78), 0)]) .unit,
  .p (.alloc 13 [(.sl true 2 [])]) .unit,
  .p (.storeT (.t 13) 79 1) .unit])
 (.seq (.seq (.reg none [.p (.load 80 (.t 13) 1 true) .unit,
  .p (.load 81 (.t 6) 1 true) .unit,
  .p (.callB 82 n_laws_eqTable [((.t 80), 0), ((.t 81), 0)]) .unit,
  .p (.un 83 .not (.t 82)) .unit])
 (.cond (.t 83) (.seq (.reg none [.p (.mv 4 (.c (.bool false))) .unit])
 .ret) .skip))
 (.seq (.reg none [.p (.mv 12 (.c (.int .i64 1))) .unit])
 (.seq (.reg none [.p (.load 84 (.t 9) 1 true) .unit,
  .p (.mv 85 (.t 12)) .unit,
  .p (.callB 86 n_laws_heldTable [((.t 84), 0), ((.t 85), 0)]) .unit,
  .p (.mv 12 (.t 86)) .unit])
 (.seq (.seq (.reg none [.p (.mv 87 (.t 12)) .unit,
  .p (.bin 88 false .lss (.t 87) (.c (.int .i64 0))) .unit])
 (.cond (.t 88) (.seq (.reg none [.p (.mv 4 (.c (.bool false))) .unit])
 .ret) .skip))
 (.seq (.seq (.reg none [.p (.mv 89 (.t 12)) .unit,
  .p (.mv 90 (.t 11)) .unit,
  .p (.bin 91 false .neq (.t 89) (.t 90)) .unit])
 (.cond (.t 91) (.seq (.reg none [.p (.mv 4 (.c (.bool false))) .unit])
 .ret) .skip))
 (.seq (.reg none [.p (.mv 4 (.c (.bool true))) .unit])
 .ret)))))))))))))))))))))))))))))),
 92, 2, [.t 4]⟩
theorem m_laws_FnExactMerge : mH Tryd.prog 4 [(8, 6, .t), (9, 3, .t), (10, 3, .t), (11, 4, .t), (19, 2, (.g 0 7)), (20, 2, (.g 0 8)), (24, 2, (.g 0 9)), (31, 6, .t)] = some (F_laws_FnExactMerge.code.x, F_laws_FnExactMerge.N, F_laws_FnExactMerge.np, F_laws_FnExactMerge.res) := by kernel_rfl
noncomputable def T_laws_FnExactMerge : (List (List UInt8 × List (List UInt8))) × List (List UInt8 × List (List UInt8)) → Option (Bool) := evF [fn_laws_szTable, fn_laws_toTable, fn_spec_Merge, fn_impl_Merge, fn_laws_eqTable, fn_laws_markTable, fn_laws_heldTable] F_laws_FnExactMerge [.agg (.sl false (.pair .str (.sl false .str))), .agg (.sl false (.pair .str (.sl false .str)))] [] [.cell .bool] []
noncomputable def fn_laws_FnExactMerge : TFn := ⟨4, [.agg (.sl false (.pair .str (.sl false .str))), .agg (.sl false (.pair .str (.sl false .str)))], [], [.cell .bool], [], T_laws_FnExactMerge⟩
theorem ok_laws_FnExactMerge : FnOk Tryd.prog fn_laws_FnExactMerge := evF_ok mixed (allOk_cons ok_laws_szTable (allOk_cons ok_laws_toTable (allOk_cons ok_spec_Merge (allOk_cons ok_impl_Merge (allOk_cons ok_laws_eqTable (allOk_cons ok_laws_markTable (allOk_cons ok_laws_heldTable allOk_nil))))))) m_laws_FnExactMerge (by decide)

end Xs
end Go.Proofs.YtainknkfjekngaaDoor
