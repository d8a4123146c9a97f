/- The typed code of the functions, printed by program. -/
import Derived.Test.YtainknkfjekngaaDoorT7
import Derived.Test.YtainknkfjekngaaDoorProg
import Derived.KernelRfl


import Derived.Test.YtainknkfjekngaaDoorItoa

import Derived.Test.YtainknkfjekngaaDoorIns
import Derived.Test.YtainknkfjekngaaDoorSplit
namespace Go.Proofs.YtainknkfjekngaaDoor
open Go Vm
namespace Xs
theorem mixed : Tryd.prog.follows .mixedOrders = true := by kernel_rfl
abbrev n_laws_FnExactKeep : Nat := 3
abbrev n_laws_szTable : Nat := 5
abbrev n_spec_Keep : Nat := 6
abbrev n_laws_toTable : Nat := 7
abbrev n_laws_toIntS : Nat := 8
abbrev n_impl_Keep : Nat := 9
abbrev n_laws_eqTable : Nat := 10
abbrev n_laws_eqIntS : Nat := 11
abbrev n_laws_markTable : Nat := 12
abbrev n_laws_markIntS : Nat := 13
abbrev n_laws_heldTable : Nat := 14
abbrev n_laws_szGroupS : Nat := 17
abbrev n_spec_l17Copy : Nat := 18
abbrev n_spec_SplitPrivate : Nat := 19
abbrev n_spec_l05In : Nat := 20
abbrev n_spec_l17Set : Nat := 21
abbrev n_laws_toGroupS : Nat := 22
abbrev n_impl_copyTable : Nat := 23
abbrev n___impl_Table__put : Nat := 24
abbrev n___impl_Table__keep : Nat := 25
abbrev n_impl_Keep_1 : Nat := 26
abbrev n_impl_SplitPrivate : Nat := 27
abbrev n_slices_Contains___int_int_ : Nat := 28
abbrev n_laws_eqGroupS : Nat := 29
abbrev n_laws_markGroupS : Nat := 30
abbrev n_laws_heldGroupS : Nat := 31
abbrev n_laws_szGroup : Nat := 37
abbrev n_spec_NameOk : Nat := 38
abbrev n_laws_toGroup : Nat := 39
abbrev n_slices_Clone___string_string_ : Nat := 40
abbrev n_slices_Insert___impl_Group_impl_Group_ : Nat := 41
abbrev n_slices_DeleteFunc___string_string_ : Nat := 42
abbrev n_strings_Split : Nat := 44
abbrev n_impl_ReadDecimal : Nat := 45
abbrev n_impl_PrivateName : Nat := 46
abbrev n_slices_Index___int_int_ : Nat := 47
abbrev n_laws_eqGroup : Nat := 48
abbrev n_laws_markText : Nat := 49
abbrev n_laws_markStringS : Nat := 50
abbrev n_laws_heldStringS : Nat := 51
abbrev n_spec_l01In : Nat := 52
abbrev n_impl_NameOk : Nat := 54
abbrev n_laws_szStringS : Nat := 57
abbrev n_laws_toStringS : Nat := 58
abbrev n_slices_IndexFunc___string_string_ : Nat := 61
abbrev n_impl_Decimal : Nat := 63
abbrev n_impl_inRange : Nat := 64
abbrev n_laws_eqStringS : Nat := 65
abbrev n_strconv_Itoa : Nat := 73
def B_laws_szStringS_1 : TC := (.seq (.seq (.reg none [.p (.mv 12 (.t 5)) .unit,
  .p (.mv 13 (.t 0)) .unit,
  .p (.lenB 14 (.t 13)) .unit,
  .p (.bin 15 false .lss (.t 12) (.t 14)) .unit])
 (.cond (.t 15) .skip (.exit 0)))
 (.seq (.block 1 (.seq (.reg none [.p (.mv 18 (.t 1)) .unit,
  .p (.mv 19 (.t 0)) .unit,
  .p (.mv 20 (.t 5)) .unit,
  .p (.iadr 21 1 (.t 19) (.t 20)) .unit,
  .p (.load 22 (.t 21) 1 false) .unit,
  .p (.lenS 23 (.t 22)) .unit,
  .p (.bin 24 false .sub (.t 18) (.t 23)) .unit,
  .p (.mv 1 (.t 24)) .unit])
 (.seq (.reg none [.p (.mv 25 (.t 1)) .unit,
  .p (.bin 26 false .lss (.t 25) (.c (.int .i64 0))) .unit])
 (.cond (.t 26) (.seq (.reg none [.p (.mv 4 (.c (.int .i64 (-1)))) .unit])
 .ret) .skip))))
 (.reg none [.p (.mv 16 (.t 5)) .unit,
  .p (.bin 17 false .add (.t 16) (.c (.int .i64 1))) .unit,
  .p (.mv 5 (.t 17)) .unit])))
noncomputable def L_laws_szStringS_1 : Nat → (List (List UInt8)) × (Int) × Int → Option ((Int) ⊕ (Int)) := evL [] (finT [.t 4] [] [.cell (.int .i64)]) 0 ⟨[(0, true), (1, false), (5, false)], [.cell (.sl false .str), .cell (.int .i64), .cell (.int .i64)]⟩ ⟨[(1, false)], [.cell (.int .i64)]⟩ B_laws_szStringS_1
def F_laws_szStringS : TF := ⟨(.seq (.reg none [.p (.mv 4 (.c (.int .i64 0))) .unit])
 (.seq (.reg none [.p (.mv 6 (.t 1)) .unit,
  .p (.mv 7 (.t 0)) .unit,
  .p (.lenB 8 (.t 7)) .unit,
  .p (.bin 9 false .sub (.t 6) (.t 8)) .unit,
  .p (.mv 1 (.t 9)) .unit])
 (.seq (.seq (.reg none [.p (.mv 10 (.t 1)) .unit,
  .p (.bin 11 false .lss (.t 10) (.c (.int .i64 0))) .unit])
 (.cond (.t 11) (.seq (.reg none [.p (.mv 4 (.c (.int .i64 (-1)))) .unit])
 .ret) .skip))
 (.seq (.seq (.reg none [.p (.mv 5 (.c (.int .i64 0))) .unit])
 (.jl 0 ⟨[(0, true), (1, false), (5, false)], [.cell (.sl false .str), .cell (.int .i64), .cell (.int .i64)]⟩ ⟨[(1, false)], [.cell (.int .i64)]⟩ B_laws_szStringS_1))
 (.seq (.reg none [.p (.mv 27 (.t 1)) .unit,
  .p (.mv 4 (.t 27)) .unit])
 .ret))))),
 28, 2, [.t 4]⟩
theorem m_laws_szStringS : mH Tryd.prog 57 [] = some (F_laws_szStringS.code.x, F_laws_szStringS.N, F_laws_szStringS.np, F_laws_szStringS.res) := by kernel_rfl
noncomputable def T_laws_szStringS : (List (List UInt8)) × Int → Option (Int) := evF [] F_laws_szStringS [.cell (.sl false .str), .cell (.int .i64)] [] [.cell (.int .i64)] []
noncomputable def fn_laws_szStringS : TFn := ⟨57, [.cell (.sl false .str), .cell (.int .i64)], [], [.cell (.int .i64)], [], T_laws_szStringS⟩
theorem ok_laws_szStringS : FnOk Tryd.prog fn_laws_szStringS := evF_ok mixed allOk_nil m_laws_szStringS (by decide)
def F_laws_szGroup : TF := ⟨(.seq (.reg none [.p (.box 2 (.t 0)) .unit,
  .p (.mv 4 (.c (.int .i64 0))) .unit])
 (.seq (.reg none [.p (.mv 5 (.t 1)) .unit,
  .p (.fadr 6 (.t 2) 0) .unit,
  .p (.load 7 (.t 6) 1 false) .unit,
  .p (.lenS 8 (.t 7)) .unit,
  .p (.bin 9 false .sub (.t 5) (.t 8)) .unit,
  .p (.mv 1 (.t 9)) .unit])
 (.seq (.seq (.reg none [.p (.mv 10 (.t 1)) .unit,
  .p (.bin 11 false .lss (.t 10) (.c (.int .i64 0))) .unit])
 (.cond (.t 11) (.seq (.reg none [.p (.mv 4 (.c (.int .i64 (-1)))) .unit])
 .ret) .skip))
 (.seq (.reg none [.p (.fadr 12 (.t 2) 1) .unit,
  .p (.load 13 (.t 12) 1 false) .unit,
  .p (.mv 14 (.t 1)) .unit,
  .p (.callB 15 n_laws_szStringS [((.t 13), 0), ((.t 14), 0)]) .unit,
  .p (.mv 1 (.t 15)) .unit])
 (.seq (.seq (.reg none [.p (.mv 16 (.t 1)) .unit,
  .p (.bin 17 false .lss (.t 16) (.c (.int .i64 0))) .unit])
 (.cond (.t 17) (.seq (.reg none [.p (.mv 4 (.c (.int .i64 (-1)))) .unit])
 .ret) .skip))
 (.seq (.reg none [.p (.mv 18 (.t 1)) .unit,
  .p (.mv 4 (.t 18)) .unit])
 .ret)))))),
 19, 2, [.t 4]⟩
theorem m_laws_szGroup : mH Tryd.prog 37 [] = some (F_laws_szGroup.code.x, F_laws_szGroup.N, F_laws_szGroup.np, F_laws_szGroup.res) := by kernel_rfl
noncomputable def T_laws_szGroup : (List UInt8 × List (List UInt8)) × Int → Option (Int) := evF [fn_laws_szStringS] F_laws_szGroup [.agg (.pair .str (.sl false .str)), .cell (.int .i64)] [] [.cell (.int .i64)] []
noncomputable def fn_laws_szGroup : TFn := ⟨37, [.agg (.pair .str (.sl false .str)), .cell (.int .i64)], [], [.cell (.int .i64)], [], T_laws_szGroup⟩
theorem ok_laws_szGroup : FnOk Tryd.prog fn_laws_szGroup := evF_ok mixed (allOk_cons ok_laws_szStringS allOk_nil) m_laws_szGroup (by decide)
def B_laws_szGroupS_1 : TC := (.seq (.seq (.reg none [.p (.mv 12 (.t 5)) .unit,
  .p (.mv 13 (.t 0)) .unit,
  .p (.lenB 14 (.t 13)) .unit,
  .p (.bin 15 false .lss (.t 12) (.t 14)) .unit])
 (.cond (.t 15) .skip (.exit 0)))
 (.seq (.block 1 (.seq (.reg none [.p (.mv 18 (.t 0)) .unit,
  .p (.mv 19 (.t 5)) .unit,
  .p (.iadr 20 2 (.t 18) (.t 19)) .unit,
  .p (.load 21 (.t 20) 2 true) .unit,
  .p (.mv 22 (.t 1)) .unit,
  .p (.callB 23 n_laws_szGroup [((.t 21), 0), ((.t 22), 0)]) .unit,
  .p (.mv 1 (.t 23)) .unit])
 (.seq (.reg none [.p (.mv 24 (.t 1)) .unit,
  .p (.bin 25 false .lss (.t 24) (.c (.int .i64 0))) .unit])
 (.cond (.t 25) (.seq (.reg none [.p (.mv 4 (.c (.int .i64 (-1)))) .unit])
 .ret) .skip))))
 (.reg none [.p (.mv 16 (.t 5)) .unit,
  .p (.bin 17 false .add (.t 16) (.c (.int .i64 1))) .unit,
  .p (.mv 5 (.t 17)) .unit])))
noncomputable def L_laws_szGroupS_1 : Nat → (List (List UInt8 × List (List UInt8))) × (Int) × Int → Option ((Int) ⊕ (Int)) := evL [fn_laws_szGroup] (finT [.t 4] [] [.cell (.int .i64)]) 0 ⟨[(0, true), (1, false), (5, false)], [.cell (.sl false (.pair .str (.sl false .str))), .cell (.int .i64), .cell (.int .i64)]⟩ ⟨[(1, false)], [.cell (.int .i64)]⟩ B_laws_szGroupS_1
def F_laws_szGroupS : TF := ⟨(.seq (.reg none [.p (.mv 4 (.c (.int .i64 0))) .unit])
 (.seq (.reg none [.p (.mv 6 (.t 1)) .unit,
  .p (.mv 7 (.t 0)) .unit,
  .p (.lenB 8 (.t 7)) .unit,
  .p (.bin 9 false .sub (.t 6) (.t 8)) .unit,
  .p (.mv 1 (.t 9)) .unit])
 (.seq (.seq (.reg none [.p (.mv 10 (.t 1)) .unit,
  .p (.bin 11 false .lss (.t 10) (.c (.int .i64 0))) .unit])
 (.cond (.t 11) (.seq (.reg none [.p (.mv 4 (.c (.int .i64 (-1)))) .unit])
 .ret) .skip))
 (.seq (.seq (.reg none [.p (.mv 5 (.c (.int .i64 0))) .unit])
 (.jl 0 ⟨[(0, true), (1, false), (5, false)], [.cell (.sl false (.pair .str (.sl false .str))), .cell (.int .i64), .cell (.int .i64)]⟩ ⟨[(1, false)], [.cell (.int .i64)]⟩ B_laws_szGroupS_1))
 (.seq (.reg none [.p (.mv 26 (.t 1)) .unit,
  .p (.mv 4 (.t 26)) .unit])
 .ret))))),
 27, 2, [.t 4]⟩
theorem m_laws_szGroupS : mH Tryd.prog 17 [] = some (F_laws_szGroupS.code.x, F_laws_szGroupS.N, F_laws_szGroupS.np, F_laws_szGroupS.res) := by kernel_rfl
noncomputable def T_laws_szGroupS : (List (List UInt8 × List (List UInt8))) × Int → Option (Int) := evF [fn_laws_szGroup] F_laws_szGroupS [.cell (.sl false (.pair .str (.sl false .str))), .cell (.int .i64)] [] [.cell (.int .i64)] []
noncomputable def fn_laws_szGroupS : TFn := ⟨17, [.cell (.sl false (.pair .str (.sl false .str))), .cell (.int .i64)], [], [.cell (.int .i64)], [], T_laws_szGroupS⟩
theorem ok_laws_szGroupS : FnOk Tryd.prog fn_laws_szGroupS := evF_ok mixed (allOk_cons ok_laws_szGroup allOk_nil) m_laws_szGroupS (by decide)
def F_laws_szTable : TF := ⟨(.seq (.reg none [.p (.box 2 (.t 0)) .unit,
  .p (.mv 4 (.c (.int .i64 0))) .unit])
 (.seq (.reg none [.p (.fadr 5 (.t 2) 0) .unit,
  .p (.load 6 (.t 5) 1 false) .unit,
  .p (.mv 7 (.t 1)) .unit,
  .p (.callB 8 n_laws_szGroupS [((.t 6), 0), ((.t 7), 0)]) .unit,
  .p (.mv 1 (.t 8)) .unit])
 (.seq (.seq (.reg none [.p (.mv 9 (.t 1)) .unit,
  .p (.bin 10 false .lss (.t 9) (.c (.int .i64 0))) .unit])
 (.cond (.t 10) (.seq (.reg none [.p (.mv 4 (.c (.int .i64 (-1)))) .unit])
 .ret) .skip))
 (.seq (.reg none [.p (.mv 11 (.t 1)) .unit,
  .p (.mv 4 (.t 11)) .unit])
 .ret)))),
 12, 2, [.t 4]⟩
theorem m_laws_szTable : mH Tryd.prog 5 [] = some (F_laws_szTable.code.x, F_laws_szTable.N, F_laws_szTable.np, F_laws_szTable.res) := by kernel_rfl
noncomputable def T_laws_szTable : (List (List UInt8 × List (List UInt8))) × Int → Option (Int) := evF [fn_laws_szGroupS] F_laws_szTable [.agg (.sl false (.pair .str (.sl false .str))), .cell (.int .i64)] [] [.cell (.int .i64)] []
noncomputable def fn_laws_szTable : TFn := ⟨5, [.agg (.sl false (.pair .str (.sl false .str))), .cell (.int .i64)], [], [.cell (.int .i64)], [], T_laws_szTable⟩
theorem ok_laws_szTable : FnOk Tryd.prog fn_laws_szTable := evF_ok mixed (allOk_cons ok_laws_szGroupS allOk_nil) m_laws_szTable (by decide)
def B_laws_toStringS_1 : TC := (.seq (.seq (.reg none [.p (.mv 8 (.t 4)) .unit,
  .p (.mv 9 (.t 0)) .unit,
  .p (.lenB 10 (.t 9)) .unit,
  .p (.bin 11 false .lss (.t 8) (.t 10)) .unit])
 (.cond (.t 11) .skip (.exit 0)))
 (.seq (.block 1 (.reg none [.p (.mvA 14 3) .unit,
  .p (.mv 15 (.t 4)) .unit,
  .p (.mv 16 (.t 0)) .unit,
  .p (.mv 17 (.t 4)) .unit,
  .p (.iadr 18 1 (.t 16) (.t 17)) .unit,
  .p (.load 19 (.t 18) 1 false) .unit,
  .p (.iadr 20 1 (.t 14) (.t 15)) .unit,
  .p (.store (.t 20) (.t 19) 1) .unit]))
 (.reg none [.p (.mv 12 (.t 4)) .unit,
  .p (.bin 13 false .add (.t 12) (.c (.int .i64 1))) .unit,
  .p (.mv 4 (.t 13)) .unit])))
noncomputable def L_laws_toStringS_1 : Nat → (List (List UInt8)) × (List (List UInt8)) × Int → Option ((List (List UInt8)) ⊕ (List (List UInt8))) := evL [] (finT [.t 2] [] [.cell (.sl true .str)]) 0 ⟨[(0, true), (3, false), (4, false)], [.cell (.sl false .str), .cell (.sl true .str), .cell (.int .i64)]⟩ ⟨[(3, false)], [.cell (.sl true .str)]⟩ B_laws_toStringS_1
def F_laws_toStringS : TF := ⟨(.seq (.reg none [.p (.mvN 2 1) .unit])
 (.seq (.reg none [.p (.mv 5 (.t 0)) .unit,
  .p (.lenB 6 (.t 5)) .unit,
  .p (.mkS 7 16 [(.lit (.string (ba [])))] (.t 6) (.t 6)) .str,
  .p (.mvT 3 7) .unit])
 (.seq (.seq (.reg none [.p (.mv 4 (.c (.int .i64 0))) .unit])
 (.jl 0 ⟨[(0, true), (3, false), (4, false)], [.cell (.sl false .str), .cell (.sl true .str), .cell (.int .i64)]⟩ ⟨[(3, false)], [.cell (.sl true .str)]⟩ B_laws_toStringS_1))
 (.seq (.reg none [.p (.mvT 21 3) .unit,
  .p (.mvT 2 21) .unit])
 .ret)))),
 22, 1, [.t 2]⟩
theorem m_laws_toStringS : mH Tryd.prog 58 [(1, 3, .t), (5, 0, .v), (6, 0, .t), (6, 1, .t)] = some (F_laws_toStringS.code.x, F_laws_toStringS.N, F_laws_toStringS.np, F_laws_toStringS.res) := by kernel_rfl
noncomputable def T_laws_toStringS : List (List UInt8) → Option (List (List UInt8)) := evF [] F_laws_toStringS [.cell (.sl false .str)] [] [.cell (.sl true .str)] []
noncomputable def fn_laws_toStringS : TFn := ⟨58, [.cell (.sl false .str)], [], [.cell (.sl true .str)], [], T_laws_toStringS⟩
theorem ok_laws_toStringS : FnOk Tryd.prog fn_laws_toStringS := evF_ok mixed allOk_nil m_laws_toStringS (by decide)
def F_laws_toGroup : TF := ⟨(.seq (.reg none [.p (.box 1 (.t 0)) .unit,
  .p (.alloc 2 [(.lit (.string (ba []))), (.sl true 1 [])]) .unit])
 (.seq (.reg none [.p (.alloc 3 [(.lit (.string (ba []))), (.sl true 1 [])]) .unit])
 (.seq (.reg none [.p (.fadr 4 (.t 1) 0) .unit,
  .p (.load 5 (.t 4) 1 false) .unit,
  .p (.fadr 6 (.t 3) 0) .unit,
  .p (.store (.t 6) (.t 5) 1) .unit])
 (.seq (.reg none [.p (.fadr 7 (.t 1) 1) .unit,
  .p (.load 8 (.t 7) 1 false) .unit,
  .p (.callB 9 n_laws_toStringS [((.t 8), 0)]) .unit,
  .p (.fadr 10 (.t 3) 1) .unit,
  .p (.storeT (.t 10) 9 1) .unit])
 (.seq (.reg none [.p (.loadT 11 (.t 3) 2 true) .unit,
  .p (.storeT (.t 2) 11 2) .unit])
 .ret))))),
 12, 1, [.c 2 2 true]⟩
theorem m_laws_toGroup : mH Tryd.prog 39 [(3, 4, .t), (4, 0, .t), (4, 1, .t)] = some (F_laws_toGroup.code.x, F_laws_toGroup.N, F_laws_toGroup.np, F_laws_toGroup.res) := by kernel_rfl
noncomputable def T_laws_toGroup : List UInt8 × List (List UInt8) → Option (List UInt8 × List (List UInt8)) := evF [fn_laws_toStringS] F_laws_toGroup [.agg (.pair .str (.sl false .str))] [] [.agg (.pair .str (.sl true .str))] []
noncomputable def fn_laws_toGroup : TFn := ⟨39, [.agg (.pair .str (.sl false .str))], [], [.agg (.pair .str (.sl true .str))], [], T_laws_toGroup⟩
theorem ok_laws_toGroup : FnOk Tryd.prog fn_laws_toGroup := evF_ok mixed (allOk_cons ok_laws_toStringS allOk_nil) m_laws_toGroup (by decide)
def B_laws_toGroupS_1 : TC := (.seq (.seq (.reg none [.p (.mv 8 (.t 4)) .unit,
  .p (.mv 9 (.t 0)) .unit,
  .p (.lenB 10 (.t 9)) .unit,
  .p (.bin 11 false .lss (.t 8) (.t 10)) .unit])
 (.cond (.t 11) .skip (.exit 0)))
 (.seq (.block 1 (.reg none [.p (.mvA 14 3) .unit,
  .p (.mv 15 (.t 4)) .unit,
  .p (.mv 16 (.t 0)) .unit,
  .p (.mv 17 (.t 4)) .unit,
  .p (.iadr 18 2 (.t 16) (.t 17)) .unit,
  .p (.load 19 (.t 18) 2 true) .unit,
  .p (.callB 20 n_laws_toGroup [((.t 19), 0)]) .unit,
  .p (.iadr 21 2 (.t 14) (.t 15)) .unit,
  .p (.storeT (.t 21) 20 2) .unit]))
 (.reg none [.p (.mv 12 (.t 4)) .unit,
  .p (.bin 13 false .add (.t 12) (.c (.int .i64 1))) .unit,
  .p (.mv 4 (.t 13)) .unit])))
noncomputable def L_laws_toGroupS_1 : Nat → (List (List UInt8 × List (List UInt8))) × (List (List UInt8 × List (List UInt8))) × Int → Option ((List (List UInt8 × List (List UInt8))) ⊕ (List (List UInt8 × List (List UInt8)))) := evL [fn_laws_toGroup] (finT [.t 2] [] [.cell (.sl true (.pair .str (.sl true .str)))]) 0 ⟨[(0, true), (3, false), (4, false)], [.cell (.sl false (.pair .str (.sl false .str))), .cell (.sl true (.pair .str (.sl true .str))), .cell (.int .i64)]⟩ ⟨[(3, false)], [.cell (.sl true (.pair .str (.sl true .str)))]⟩ B_laws_toGroupS_1
def F_laws_toGroupS : TF := ⟨(.seq (.reg none [.p (.mvN 2 2) .unit])
 (.seq (.reg none [.p (.mv 5 (.t 0)) .unit,
  .p (.lenB 6 (.t 5)) .unit,
  .p (.mkS 7 40 [(.lit (.string (ba []))), (.sl true 1 [])] (.t 6) (.t 6)) (.pair .str (.sl true .str)),
  .p (.mvT 3 7) .unit])
 (.seq (.seq (.reg none [.p (.mv 4 (.c (.int .i64 0))) .unit])
 (.jl 0 ⟨[(0, true), (3, false), (4, false)], [.cell (.sl false (.pair .str (.sl false .str))), .cell (.sl true (.pair .str (.sl true .str))), .cell (.int .i64)]⟩ ⟨[(3, false)], [.cell (.sl true (.pair .str (.sl true .str)))]⟩ B_laws_toGroupS_1))
 (.seq (.reg none [.p (.mvT 22 3) .unit,
  .p (.mvT 2 22) .unit])
 .ret)))),
 23, 1, [.t 2]⟩
theorem m_laws_toGroupS : mH Tryd.prog 22 [(1, 3, .t), (5, 0, .v), (5, 8, .t), (6, 0, .t), (6, 1, .t)] = some (F_laws_toGroupS.code.x, F_laws_toGroupS.N, F_laws_toGroupS.np, F_laws_toGroupS.res) := by kernel_rfl
noncomputable def T_laws_toGroupS : List (List UInt8 × List (List UInt8)) → Option (List (List UInt8 × List (List UInt8))) := evF [fn_laws_toGroup] F_laws_toGroupS [.cell (.sl false (.pair .str (.sl false .str)))] [] [.cell (.sl true (.pair .str (.sl true .str)))] []
noncomputable def fn_laws_toGroupS : TFn := ⟨22, [.cell (.sl false (.pair .str (.sl false .str)))], [], [.cell (.sl true (.pair .str (.sl true .str)))], [], T_laws_toGroupS⟩
theorem ok_laws_toGroupS : FnOk Tryd.prog fn_laws_toGroupS := evF_ok mixed (allOk_cons ok_laws_toGroup allOk_nil) m_laws_toGroupS (by decide)
def F_laws_toTable : TF := ⟨(.seq (.reg none [.p (.box 1 (.t 0)) .unit,
  .p (.alloc 2 [(.sl true 2 [])]) .unit])
 (.seq (.reg none [.p (.alloc 3 [(.sl true 2 [])]) .unit])
 (.seq (.reg none [.p (.fadr 4 (.t 1) 0) .unit,
  .p (.load 5 (.t 4) 1 false) .unit,
  .p (.callB 6 n_laws_toGroupS [((.t 5), 0)]) .unit,
  .p (.fadr 7 (.t 3) 0) .unit,
  .p (.storeT (.t 7) 6 1) .unit])
 (.seq (.reg none [.p (.loadT 8 (.t 3) 1 true) .unit,
  .p (.storeT (.t 2) 8 1) .unit])
 .ret)))),
 9, 1, [.c 2 1 true]⟩
theorem m_laws_toTable : mH Tryd.prog 7 [(2, 4, .t), (3, 0, .t), (3, 1, .t)] = some (F_laws_toTable.code.x, F_laws_toTable.N, F_laws_toTable.np, F_laws_toTable.res) := by kernel_rfl
noncomputable def T_laws_toTable : List (List UInt8 × List (List UInt8)) → Option (List (List UInt8 × List (List UInt8))) := evF [fn_laws_toGroupS] F_laws_toTable [.agg (.sl false (.pair .str (.sl false .str)))] [] [.agg (.sl true (.pair .str (.sl true .str)))] []
noncomputable def fn_laws_toTable : TFn := ⟨7, [.agg (.sl false (.pair .str (.sl false .str)))], [], [.agg (.sl true (.pair .str (.sl true .str)))], [], T_laws_toTable⟩
theorem ok_laws_toTable : FnOk Tryd.prog fn_laws_toTable := evF_ok mixed (allOk_cons ok_laws_toGroupS allOk_nil) m_laws_toTable (by decide)
def B_laws_toIntS_1 : TC := (.seq (.seq (.reg none [.p (.mv 8 (.t 4)) .unit,
  .p (.mv 9 (.t 0)) .unit,
  .p (.lenB 10 (.t 9)) .unit,
  .p (.bin 11 false .lss (.t 8) (.t 10)) .unit])
 (.cond (.t 11) .skip (.exit 0)))
 (.seq (.block 1 (.reg none [.p (.mvA 14 3) .unit,
  .p (.mv 15 (.t 4)) .unit,
  .p (.mv 16 (.t 0)) .unit,
  .p (.mv 17 (.t 4)) .unit,
  .p (.iadr 18 1 (.t 16) (.t 17)) .unit,
  .p (.load 19 (.t 18) 1 false) .unit,
  .p (.iadr 20 1 (.t 14) (.t 15)) .unit,
  .p (.store (.t 20) (.t 19) 1) .unit]))
 (.reg none [.p (.mv 12 (.t 4)) .unit,
  .p (.bin 13 false .add (.t 12) (.c (.int .i64 1))) .unit,
  .p (.mv 4 (.t 13)) .unit])))
noncomputable def L_laws_toIntS_1 : Nat → (List (Int)) × (List (Int)) × Int → Option ((List (Int)) ⊕ (List (Int))) := evL [] (finT [.t 2] [] [.cell (.sl true (.int .i64))]) 0 ⟨[(0, true), (3, false), (4, false)], [.cell (.sl false (.int .i64)), .cell (.sl true (.int .i64)), .cell (.int .i64)]⟩ ⟨[(3, false)], [.cell (.sl true (.int .i64))]⟩ B_laws_toIntS_1
def F_laws_toIntS : TF := ⟨(.seq (.reg none [.p (.mvN 2 1) .unit])
 (.seq (.reg none [.p (.mv 5 (.t 0)) .unit,
  .p (.lenB 6 (.t 5)) .unit,
  .p (.mkS 7 8 [(.lit (.int .i64 0))] (.t 6) (.t 6)) (.int .i64),
  .p (.mvT 3 7) .unit])
 (.seq (.seq (.reg none [.p (.mv 4 (.c (.int .i64 0))) .unit])
 (.jl 0 ⟨[(0, true), (3, false), (4, false)], [.cell (.sl false (.int .i64)), .cell (.sl true (.int .i64)), .cell (.int .i64)]⟩ ⟨[(3, false)], [.cell (.sl true (.int .i64))]⟩ B_laws_toIntS_1))
 (.seq (.reg none [.p (.mvT 21 3) .unit,
  .p (.mvT 2 21) .unit])
 .ret)))),
 22, 1, [.t 2]⟩
theorem m_laws_toIntS : mH Tryd.prog 8 [(1, 3, .t), (5, 0, .v), (6, 0, .t), (6, 1, .t)] = some (F_laws_toIntS.code.x, F_laws_toIntS.N, F_laws_toIntS.np, F_laws_toIntS.res) := by kernel_rfl
noncomputable def T_laws_toIntS : List (Int) → Option (List (Int)) := evF [] F_laws_toIntS [.cell (.sl false (.int .i64))] [] [.cell (.sl true (.int .i64))] []
noncomputable def fn_laws_toIntS : TFn := ⟨8, [.cell (.sl false (.int .i64))], [], [.cell (.sl true (.int .i64))], [], T_laws_toIntS⟩
theorem ok_laws_toIntS : FnOk Tryd.prog fn_laws_toIntS := evF_ok mixed allOk_nil m_laws_toIntS (by decide)
def B_spec_l17Copy_1 : TC := (.seq (.seq (.reg none [.p (.mv 6 (.t 4)) .unit,
  .p (.fadr 7 (.t 1) 0) .unit,
  .p (.load 8 (.t 7) 1 false) .unit,
  .p (.lenB 9 (.t 8)) .unit,
  .p (.bin 10 false .lss (.t 6) (.t 9)) .unit])
 (.cond (.t 10) .skip (.exit 0)))
 (.seq (.block 1 (.reg (some [[], [0], [], [2], [], [3, 4], [5], [6], [], [], [9], [], [10, 11], [12], [13], [8, 14], [7, 15], [16], [1, 17, 15], [0, 1, 2, 3, 4, 5, 6, 7, 8, 9, 10, 11, 12, 13, 14, 15, 16, 17, 18], [19, 18, 18, 0, 1, 2, 3, 4, 5, 6, 7, 8, 9, 10, 11, 12, 13, 14, 15, 16, 17, 18]]) [.p (.fadr 13 (.t 3) 0) .unit,
  .p (.load 14 (.t 13) 1 false) .unit,
  .p (.fadr 15 (.t 1) 0) .unit,
  .p (.load 16 (.t 15) 1 false) .unit,
  .p (.mv 17 (.t 4)) .unit,
  .p (.iadr 18 2 (.t 16) (.t 17)) .unit,
  .p (.fadr 19 (.t 18) 0) .unit,
  .p (.load 20 (.t 19) 1 false) .unit,
  .p (.bldS 21 0 [(.lit (.string (ba [])))] []) .str,
  .p (.fadr 22 (.t 1) 0) .unit,
  .p (.load 23 (.t 22) 1 false) .unit,
  .p (.mv 24 (.t 4)) .unit,
  .p (.iadr 25 2 (.t 23) (.t 24)) .unit,
  .p (.fadr 26 (.t 25) 1) .unit,
  .p (.load 27 (.t 26) 1 false) .unit,
  .p (.app 28 1 16 (.t 21) (.t 27)) .str,
  .p (.bld 29 [(.lit (.string (ba []))), (.sl true 1 [])] [⟨0, 1, (.t 20)⟩, ⟨1, 1, (.t 28)⟩]) .unit,
  .p (.bldS 30 1 [(.lit (.string (ba []))), (.sl true 1 [])] [⟨0, 2, (.t 29)⟩]) (.pair .str (.sl true .str)),
  .p (.appC 31 2 40 14 (.t 30) true) (.pair .str (.sl true .str)),
  .p (.fadr 32 (.t 3) 0) .unit,
  .p (.storeT (.t 32) 31 1) .unit]))
 (.reg none [.p (.mv 11 (.t 4)) .unit,
  .p (.bin 12 false .add (.t 11) (.c (.int .i64 1))) .unit,
  .p (.mv 4 (.t 12)) .unit])))
noncomputable def L_spec_l17Copy_1 : Nat → (List (List UInt8 × List (List UInt8))) × (List (List UInt8 × List (List UInt8))) × (List (List UInt8 × List (List UInt8))) × Int → Option (((List (List UInt8 × List (List UInt8))) × List (List UInt8 × List (List UInt8))) ⊕ (List (List UInt8 × List (List UInt8)))) := evL [] (finT [.c 2 1 true] [] [.agg (.sl true (.pair .str (.sl true .str)))]) 0 ⟨[(1, false), (2, false), (3, false), (4, false)], [.box (.sl false (.pair .str (.sl false .str))), .box (.sl true (.pair .str (.sl true .str))), .box (.sl true (.pair .str (.sl true .str))), .cell (.int .i64)]⟩ ⟨[(2, false), (3, false)], [.box (.sl true (.pair .str (.sl true .str))), .box (.sl true (.pair .str (.sl true .str)))]⟩ B_spec_l17Copy_1
def F_spec_l17Copy : TF := ⟨(.seq (.reg none [.p (.box 1 (.t 0)) .unit,
  .p (.alloc 2 [(.sl true 2 [])]) .unit])
 (.seq (.reg none [.p (.bld 5 [(.sl true 2 [])] []) .unit,
  .p (.alloc 3 [(.sl true 2 [])]) .unit,
  .p (.storeT (.t 3) 5 1) .unit])
 (.seq (.seq (.reg none [.p (.mv 4 (.c (.int .i64 0))) .unit])
 (.jl 0 ⟨[(1, false), (2, false), (3, false), (4, false)], [.box (.sl false (.pair .str (.sl false .str))), .box (.sl true (.pair .str (.sl true .str))), .box (.sl true (.pair .str (.sl true .str))), .cell (.int .i64)]⟩ ⟨[(2, false), (3, false)], [.box (.sl true (.pair .str (.sl true .str))), .box (.sl true (.pair .str (.sl true .str)))]⟩ B_spec_l17Copy_1))
 (.seq (.reg none [.p (.loadT 33 (.t 3) 1 true) .unit,
  .p (.storeT (.t 2) 33 1) .unit])
 .ret)))),
 34, 1, [.c 2 1 true]⟩
theorem m_spec_l17Copy : mH Tryd.prog 18 [(1, 2, .t), (5, 18, .v), (5, 20, .t), (6, 0, .t), (6, 1, .t)] = some (F_spec_l17Copy.code.x, F_spec_l17Copy.N, F_spec_l17Copy.np, F_spec_l17Copy.res) := by kernel_rfl
noncomputable def T_spec_l17Copy : List (List UInt8 × List (List UInt8)) → Option (List (List UInt8 × List (List UInt8))) := evF [] F_spec_l17Copy [.agg (.sl false (.pair .str (.sl false .str)))] [] [.agg (.sl true (.pair .str (.sl true .str)))] []
noncomputable def fn_spec_l17Copy : TFn := ⟨18, [.agg (.sl false (.pair .str (.sl false .str)))], [], [.agg (.sl true (.pair .str (.sl true .str)))], [], T_spec_l17Copy⟩
theorem ok_spec_l17Copy : FnOk Tryd.prog fn_spec_l17Copy := evF_ok mixed allOk_nil m_spec_l17Copy (by decide)
def F_spec_l01In : TF := ⟨(.seq (.reg none [.p (.mv 6 (.c (.bool false))) .unit])
 (.seq (.reg none [.p (.mv 7 (.t 0)) .unit,
  .p (.mv 8 (.t 1)) .unit,
  .p (.bin 9 false .geq (.t 7) (.t 8)) .unit,
  .p (.mv 10 (.t 9)) .unit,
  .g 10 true (some 11) (.mv 11 (.t 0)) .unit,
  .g 10 true (some 12) (.mv 12 (.t 2)) .unit,
  .g 10 true (some 13) (.bin 13 false .leq (.t 11) (.t 12)) .unit,
  .p (.pick 14 (.t 10) (.t 13) (.c (.bool false))) .unit,
  .p (.mv 6 (.t 14)) .unit])
 .ret)),
 15, 3, [.t 6]⟩
theorem m_spec_l01In : mH Tryd.prog 52 [] = some (F_spec_l01In.code.x, F_spec_l01In.N, F_spec_l01In.np, F_spec_l01In.res) := by kernel_rfl
noncomputable def T_spec_l01In : (Int) × (Int) × Int → Option (Bool) := evF [] F_spec_l01In [.cell (.int .i64), .cell (.int .i64), .cell (.int .i64)] [] [.cell .bool] []
noncomputable def fn_spec_l01In : TFn := ⟨52, [.cell (.int .i64), .cell (.int .i64), .cell (.int .i64)], [], [.cell .bool], [], T_spec_l01In⟩
theorem ok_spec_l01In : FnOk Tryd.prog fn_spec_l01In := evF_ok mixed allOk_nil m_spec_l01In (by decide)
def B_spec_NameOk_1 : TC := (.seq (.seq (.reg none [.p (.mv 18 (.t 3)) .unit,
  .p (.mv 19 (.t 0)) .unit,
  .p (.lenS 20 (.t 19)) .unit,
  .p (.bin 21 false .lss (.t 18) (.t 20)) .unit])
 (.cond (.t 21) .skip (.exit 0)))
 (.seq (.block 1 (.seq (.join ⟨[(0, true), (3, false), (45, false)], [.cell .str, .cell (.int .i64), .cell .bool]⟩ (.reg none [.p (.mv 24 (.t 0)) .unit,
  .p (.mv 25 (.t 3)) .unit,
  .p (.idx 26 (.t 24) (.t 25)) .unit,
  .p (.bin 27 false .lss (.t 26) (.c (.int .u8 97))) .unit,
  .p (.mv 28 (.t 27)) .unit,
  .g 28 false (some 29) (.mv 29 (.t 0)) .unit,
  .g 28 false (some 30) (.mv 30 (.t 3)) .unit,
  .g 28 false (some 31) (.idx 31 (.t 29) (.t 30)) .unit,
  .g 28 false (some 32) (.bin 32 false .gtr (.t 31) (.c (.int .u8 122))) .unit,
  .p (.pick 33 (.t 28) (.c (.bool true)) (.t 32)) .unit,
  .p (.mv 34 (.t 33)) .unit,
  .g 34 true (some 35) (.mv 35 (.t 0)) .unit,
  .g 34 true (some 36) (.mv 36 (.t 3)) .unit,
  .g 34 true (some 37) (.idx 37 (.t 35) (.t 36)) .unit,
  .g 34 true (some 38) (.bin 38 false .lss (.t 37) (.c (.int .u8 48))) .unit,
  .g 34 true (some 39) (.mv 39 (.t 38)) .unit,
  .g 39 false (some 40) (.mv 40 (.t 0)) .unit,
  .g 39 false (some 41) (.mv 41 (.t 3)) .unit,
  .g 39 false (some 42) (.idx 42 (.t 40) (.t 41)) .unit,
  .g 39 false (some 43) (.bin 43 false .gtr (.t 42) (.c (.int .u8 57))) .unit,
  .g 34 true (some 44) (.pick 44 (.t 39) (.c (.bool true)) (.t 43)) .unit,
  .p (.pick 45 (.t 34) (.t 44) (.c (.bool false))) .unit]))
 (.cond (.t 45) (.seq (.reg none [.p (.mv 2 (.c (.bool false))) .unit])
 .ret) .skip)))
 (.reg none [.p (.mv 22 (.t 3)) .unit,
  .p (.bin 23 false .add (.t 22) (.c (.int .i64 1))) .unit,
  .p (.mv 3 (.t 23)) .unit])))
noncomputable def L_spec_NameOk_1 : Nat → (List UInt8) × Int → Option ((Unit) ⊕ (Bool)) := evL [fn_spec_l01In] (finT [.t 2] [] [.cell .bool]) 0 ⟨[(0, true), (3, false)], [.cell .str, .cell (.int .i64)]⟩ ⟨[], []⟩ B_spec_NameOk_1
def F_spec_NameOk : TF := ⟨(.seq (.reg none [.p (.mv 2 (.c (.bool false))) .unit])
 (.seq (.seq (.join ⟨[(0, true), (17, false)], [.cell .str, .cell .bool]⟩ (.reg none [.p (.mv 4 (.t 0)) .unit,
  .p (.lenS 5 (.t 4)) .unit,
  .p (.callB 6 n_spec_l01In [((.t 5), 0), ((.c (.int .i64 1)), 0), ((.c (.int .i64 12)), 0)]) .unit,
  .p (.un 7 .not (.t 6)) .unit,
  .p (.mv 8 (.t 7)) .unit,
  .g 8 false (some 9) (.mv 9 (.t 0)) .unit,
  .g 8 false (some 10) (.idx 10 (.t 9) (.c (.int .i64 0))) .unit,
  .g 8 false (some 11) (.bin 11 false .lss (.t 10) (.c (.int .u8 97))) .unit,
  .p (.pick 12 (.t 8) (.c (.bool true)) (.t 11)) .unit,
  .p (.mv 13 (.t 12)) .unit,
  .g 13 false (some 14) (.mv 14 (.t 0)) .unit,
  .g 13 false (some 15) (.idx 15 (.t 14) (.c (.int .i64 0))) .unit,
  .g 13 false (some 16) (.bin 16 false .gtr (.t 15) (.c (.int .u8 122))) .unit,
  .p (.pick 17 (.t 13) (.c (.bool true)) (.t 16)) .unit]))
 (.cond (.t 17) (.seq (.reg none [.p (.mv 2 (.c (.bool false))) .unit])
 .ret) .skip))
 (.seq (.seq (.reg none [.p (.mv 3 (.c (.int .i64 0))) .unit])
 (.jl 0 ⟨[(0, true), (3, false)], [.cell .str, .cell (.int .i64)]⟩ ⟨[], []⟩ B_spec_NameOk_1))
 (.seq (.reg none [.p (.mv 2 (.c (.bool true))) .unit])
 .ret)))),
 46, 1, [.t 2]⟩
theorem m_spec_NameOk : mH Tryd.prog 38 [] = some (F_spec_NameOk.code.x, F_spec_NameOk.N, F_spec_NameOk.np, F_spec_NameOk.res) := by kernel_rfl
noncomputable def T_spec_NameOk : List UInt8 → Option (Bool) := evF [fn_spec_l01In] F_spec_NameOk [.cell .str] [] [.cell .bool] []
noncomputable def fn_spec_NameOk : TFn := ⟨38, [.cell .str], [], [.cell .bool], [], T_spec_NameOk⟩
theorem ok_spec_NameOk : FnOk Tryd.prog fn_spec_NameOk := evF_ok mixed (allOk_cons ok_spec_l01In allOk_nil) m_spec_NameOk (by decide)
def F_spec_SplitPrivate : TF := ⟨(.seq (.reg none [.p (.mv 2 (.c (.int .i64 0))) .unit,
  .p (.mv 3 (.c (.string (ba [])))) .unit,
  .p (.mv 4 (.c (.bool false))) .unit])
 (.seq (.seq (.join ⟨[(0, true), (33, false)], [.cell .str, .cell .bool]⟩ (.reg none [.p (.mv 5 (.t 0)) .unit,
  .p (.lenS 6 (.t 5)) .unit,
  .p (.bin 7 false .lss (.t 6) (.c (.int .i64 4))) .unit,
  .p (.mv 8 (.t 7)) .unit,
  .g 8 false (some 9) (.mv 9 (.t 0)) .unit,
  .g 8 false (some 10) (.idx 10 (.t 9) (.c (.int .i64 0))) .unit,
  .g 8 false (some 11) (.bin 11 false .neq (.t 10) (.c (.int .u8 35))) .unit,
  .p (.pick 12 (.t 8) (.c (.bool true)) (.t 11)) .unit,
  .p (.mv 13 (.t 12)) .unit,
  .g 13 false (some 14) (.mv 14 (.t 0)) .unit,
  .g 13 false (some 15) (.idx 15 (.t 14) (.c (.int .i64 2))) .unit,
  .g 13 false (some 16) (.bin 16 false .neq (.t 15) (.c (.int .u8 35))) .unit,
  .p (.pick 17 (.t 13) (.c (.bool true)) (.t 16)) .unit,
  .p (.mv 18 (.t 17)) .unit,
  .g 18 false (some 19) (.mv 19 (.t 0)) .unit,
  .g 18 false (some 20) (.idx 20 (.t 19) (.c (.int .i64 1))) .unit,
  .g 18 false (some 21) (.bin 21 false .lss (.t 20) (.c (.int .u8 49))) .unit,
  .p (.pick 22 (.t 18) (.c (.bool true)) (.t 21)) .unit,
  .p (.mv 23 (.t 22)) .unit,
  .g 23 false (some 24) (.mv 24 (.t 0)) .unit,
  .g 23 false (some 25) (.idx 25 (.t 24) (.c (.int .i64 1))) .unit,
  .g 23 false (some 26) (.bin 26 false .gtr (.t 25) (.c (.int .u8 57))) .unit,
  .p (.pick 27 (.t 23) (.c (.bool true)) (.t 26)) .unit,
  .p (.mv 28 (.t 27)) .unit,
  .g 28 false (some 29) (.mv 29 (.t 0)) .unit,
  .g 28 false (some 30) (.slcS 30 (.t 29) (some (.c (.int .i64 3))) none) .unit,
  .g 28 false (some 31) (.callB 31 n_spec_NameOk [((.t 30), 0)]) .unit,
  .g 28 false (some 32) (.un 32 .not (.t 31)) .unit,
  .p (.pick 33 (.t 28) (.c (.bool true)) (.t 32)) .unit]))
 (.cond (.t 33) (.seq (.reg none [.p (.mv 2 (.c (.int .i64 0))) .unit,
  .p (.mv 3 (.c (.string (ba [])))) .unit,
  .p (.mv 4 (.c (.bool false))) .unit])
 .ret) .skip))
 (.seq (.reg (some [[], [0], [1], [2], [], [4], [3, 0, 1, 2, 3], [5, 6, 0, 1, 2, 3, 4, 5, 6], [7, 0, 1, 2, 3, 4, 5, 6, 7]]) [.p (.mv 34 (.t 0)) .unit,
  .p (.idx 35 (.t 34) (.c (.int .i64 1))) .unit,
  .p (.cvi 36 .i64 .u8 (.t 35)) .unit,
  .p (.bin 37 false .sub (.t 36) (.c (.int .i64 48))) .unit,
  .p (.mv 38 (.t 0)) .unit,
  .p (.slcS 39 (.t 38) (some (.c (.int .i64 3))) none) .unit,
  .p (.mv 2 (.t 37)) .unit,
  .p (.mv 3 (.t 39)) .unit,
  .p (.mv 4 (.c (.bool true))) .unit])
 .ret))),
 40, 1, [.t 2, .t 3, .t 4]⟩
theorem m_spec_SplitPrivate : mH Tryd.prog 19 [] = some (F_spec_SplitPrivate.code.x, F_spec_SplitPrivate.N, F_spec_SplitPrivate.np, F_spec_SplitPrivate.res) := by kernel_rfl
noncomputable def T_spec_SplitPrivate : List UInt8 → Option ((Int) × (List UInt8) × Bool) := evF [fn_spec_NameOk] F_spec_SplitPrivate [.cell .str] [] [.cell (.int .i64), .cell .str, .cell .bool] []
noncomputable def fn_spec_SplitPrivate : TFn := ⟨19, [.cell .str], [], [.cell (.int .i64), .cell .str, .cell .bool], [], T_spec_SplitPrivate⟩
theorem ok_spec_SplitPrivate : FnOk Tryd.prog fn_spec_SplitPrivate := evF_ok mixed (allOk_cons ok_spec_NameOk allOk_nil) m_spec_SplitPrivate (by decide)
def B_spec_l05In_1 : TC := (.seq (.seq (.reg none [.p (.mv 6 (.t 5)) .unit,
  .p (.mv 7 (.t 0)) .unit,
  .p (.lenB 8 (.t 7)) .unit,
  .p (.bin 9 false .lss (.t 6) (.t 8)) .unit])
 (.cond (.t 9) .skip (.exit 0)))
 (.seq (.block 1 (.seq (.reg none [.p (.mv 12 (.t 0)) .unit,
  .p (.mv 13 (.t 5)) .unit,
  .p (.iadr 14 1 (.t 12) (.t 13)) .unit,
  .p (.load 15 (.t 14) 1 false) .unit,
  .p (.mv 16 (.t 1)) .unit,
  .p (.bin 17 false .eql (.t 15) (.t 16)) .unit])
 (.cond (.t 17) (.seq (.reg none [.p (.mv 4 (.c (.bool true))) .unit])
 .ret) .skip)))
 (.reg none [.p (.mv 10 (.t 5)) .unit,
  .p (.bin 11 false .add (.t 10) (.c (.int .i64 1))) .unit,
  .p (.mv 5 (.t 11)) .unit])))
noncomputable def L_spec_l05In_1 : Nat → (List (Int)) × (Int) × Int → Option ((Unit) ⊕ (Bool)) := evL [] (finT [.t 4] [] [.cell .bool]) 0 ⟨[(0, true), (1, true), (5, false)], [.cell (.sl false (.int .i64)), .cell (.int .i64), .cell (.int .i64)]⟩ ⟨[], []⟩ B_spec_l05In_1
def F_spec_l05In : TF := ⟨(.seq (.reg none [.p (.mv 4 (.c (.bool false))) .unit])
 (.seq (.seq (.reg none [.p (.mv 5 (.c (.int .i64 0))) .unit])
 (.jl 0 ⟨[(0, true), (1, true), (5, false)], [.cell (.sl false (.int .i64)), .cell (.int .i64), .cell (.int .i64)]⟩ ⟨[], []⟩ B_spec_l05In_1))
 (.seq (.reg none [.p (.mv 4 (.c (.bool false))) .unit])
 .ret))),
 18, 2, [.t 4]⟩
theorem m_spec_l05In : mH Tryd.prog 20 [] = some (F_spec_l05In.code.x, F_spec_l05In.N, F_spec_l05In.np, F_spec_l05In.res) := by kernel_rfl
noncomputable def T_spec_l05In : (List (Int)) × Int → Option (Bool) := evF [] F_spec_l05In [.cell (.sl false (.int .i64)), .cell (.int .i64)] [] [.cell .bool] []
noncomputable def fn_spec_l05In : TFn := ⟨20, [.cell (.sl false (.int .i64)), .cell (.int .i64)], [], [.cell .bool], [], T_spec_l05In⟩
theorem ok_spec_l05In : FnOk Tryd.prog fn_spec_l05In := evF_ok mixed allOk_nil m_spec_l05In (by decide)
def B_spec_l17Set_1 : TC := (.seq (.seq (.reg none [.p (.mv 11 (.t 8)) .unit,
  .p (.fadr 12 (.t 3) 0) .unit,
  .p (.load 13 (.t 12) 1 false) .unit,
  .p (.lenB 14 (.t 13)) .unit,
  .p (.bin 15 false .lss (.t 11) (.t 14)) .unit])
 (.cond (.t 15) .skip (.exit 0)))
 (.seq (.join ⟨[(1, true), (2, true), (3, false), (6, false), (7, false), (8, false)], [.cell .str, .cell (.sl false .str), .box (.sl false (.pair .str (.sl false .str))), .box (.sl true (.pair .str (.sl false .str))), .box (.sl true (.pair .str (.sl false .str))), .cell (.int .i64)]⟩ (.block 1 (.seq (.reg none [.p (.fadr 18 (.t 3) 0) .unit,
  .p (.load 19 (.t 18) 1 false) .unit,
  .p (.mv 20 (.t 8)) .unit,
  .p (.iadr 21 2 (.t 19) (.t 20)) .unit,
  .p (.fadr 22 (.t 21) 0) .unit,
  .p (.load 23 (.t 22) 1 false) .unit,
  .p (.mv 24 (.t 1)) .unit,
  .p (.bin 25 false .lss (.t 23) (.t 24)) .unit])
 (.cond (.t 25) (.reg (some [[], [0], [], [2], [], [3, 4], [5], [6], [1, 7], [0, 1, 2, 3, 4, 5, 6, 7, 8], [9, 8, 8, 0, 1, 2, 3, 4, 5, 6, 7, 8]]) [.p (.fadr 26 (.t 7) 0) .unit,
  .p (.load 27 (.t 26) 1 false) .unit,
  .p (.fadr 28 (.t 3) 0) .unit,
  .p (.load 29 (.t 28) 1 false) .unit,
  .p (.mv 30 (.t 8)) .unit,
  .p (.iadr 31 2 (.t 29) (.t 30)) .unit,
  .p (.load 32 (.t 31) 2 true) .unit,
  .p (.bldS 33 1 [(.lit (.string (ba []))), (.sl true 1 [])] [⟨0, 2, (.t 32)⟩]) (.pair .str (.sl false .str)),
  .p (.appC 34 2 40 27 (.t 33) false) (.pair .str (.sl false .str)),
  .p (.fadr 35 (.t 7) 0) .unit,
  .p (.storeT (.t 35) 34 1) .unit]) .skip))))
 (.reg none [.p (.mv 16 (.t 8)) .unit,
  .p (.bin 17 false .add (.t 16) (.c (.int .i64 1))) .unit,
  .p (.mv 8 (.t 17)) .unit])))
noncomputable def L_spec_l17Set_1 : Nat → (List UInt8) × (List (List UInt8)) × (List (List UInt8 × List (List UInt8))) × (List (List UInt8 × List (List UInt8))) × (List (List UInt8 × List (List UInt8))) × Int → Option (((List UInt8) × (List (List UInt8)) × (List (List UInt8 × List (List UInt8))) × (List (List UInt8 × List (List UInt8))) × List (List UInt8 × List (List UInt8))) ⊕ (List (List UInt8 × List (List UInt8)))) := evL [] (finT [.c 6 1 true] [] [.agg (.sl true (.pair .str (.sl false .str)))]) 0 ⟨[(1, true), (2, true), (3, false), (6, false), (7, false), (8, false)], [.cell .str, .cell (.sl false .str), .box (.sl false (.pair .str (.sl false .str))), .box (.sl true (.pair .str (.sl false .str))), .box (.sl true (.pair .str (.sl false .str))), .cell (.int .i64)]⟩ ⟨[(1, true), (2, true), (3, false), (6, false), (7, false)], [.cell .str, .cell (.sl false .str), .box (.sl false (.pair .str (.sl false .str))), .box (.sl true (.pair .str (.sl false .str))), .box (.sl true (.pair .str (.sl false .str)))]⟩ B_spec_l17Set_1
def B_spec_l17Set_2 : TC := (.seq (.seq (.reg none [.p (.mv 47 (.t 9)) .unit,
  .p (.fadr 48 (.t 3) 0) .unit,
  .p (.load 49 (.t 48) 1 false) .unit,
  .p (.lenB 50 (.t 49)) .unit,
  .p (.bin 51 false .lss (.t 47) (.t 50)) .unit])
 (.cond (.t 51) .skip (.exit 2)))
 (.seq (.join ⟨[(1, true), (3, false), (6, false), (7, false), (9, false)], [.cell .str, .box (.sl false (.pair .str (.sl false .str))), .box (.sl true (.pair .str (.sl false .str))), .box (.sl true (.pair .str (.sl false .str))), .cell (.int .i64)]⟩ (.block 3 (.seq (.reg none [.p (.fadr 54 (.t 3) 0) .unit,
  .p (.load 55 (.t 54) 1 false) .unit,
  .p (.mv 56 (.t 9)) .unit,
  .p (.iadr 57 2 (.t 55) (.t 56)) .unit,
  .p (.fadr 58 (.t 57) 0) .unit,
  .p (.load 59 (.t 58) 1 false) .unit,
  .p (.mv 60 (.t 1)) .unit,
  .p (.bin 61 false .gtr (.t 59) (.t 60)) .unit])
 (.cond (.t 61) (.reg (some [[], [0], [], [2], [], [3, 4], [5], [6], [1, 7], [0, 1, 2, 3, 4, 5, 6, 7, 8], [9, 8, 8, 0, 1, 2, 3, 4, 5, 6, 7, 8]]) [.p (.fadr 62 (.t 7) 0) .unit,
  .p (.load 63 (.t 62) 1 false) .unit,
  .p (.fadr 64 (.t 3) 0) .unit,
  .p (.load 65 (.t 64) 1 false) .unit,
  .p (.mv 66 (.t 9)) .unit,
  .p (.iadr 67 2 (.t 65) (.t 66)) .unit,
  .p (.load 68 (.t 67) 2 true) .unit,
  .p (.bldS 69 1 [(.lit (.string (ba []))), (.sl true 1 [])] [⟨0, 2, (.t 68)⟩]) (.pair .str (.sl false .str)),
  .p (.appC 70 2 40 63 (.t 69) false) (.pair .str (.sl false .str)),
  .p (.fadr 71 (.t 7) 0) .unit,
  .p (.storeT (.t 71) 70 1) .unit]) .skip))))
 (.reg none [.p (.mv 52 (.t 9)) .unit,
  .p (.bin 53 false .add (.t 52) (.c (.int .i64 1))) .unit,
  .p (.mv 9 (.t 53)) .unit])))
noncomputable def L_spec_l17Set_2 : Nat → (List UInt8) × (List (List UInt8 × List (List UInt8))) × (List (List UInt8 × List (List UInt8))) × (List (List UInt8 × List (List UInt8))) × Int → Option (((List (List UInt8 × List (List UInt8))) × List (List UInt8 × List (List UInt8))) ⊕ (List (List UInt8 × List (List UInt8)))) := evL [] (finT [.c 6 1 true] [] [.agg (.sl true (.pair .str (.sl false .str)))]) 2 ⟨[(1, true), (3, false), (6, false), (7, false), (9, false)], [.cell .str, .box (.sl false (.pair .str (.sl false .str))), .box (.sl true (.pair .str (.sl false .str))), .box (.sl true (.pair .str (.sl false .str))), .cell (.int .i64)]⟩ ⟨[(6, false), (7, false)], [.box (.sl true (.pair .str (.sl false .str))), .box (.sl true (.pair .str (.sl false .str)))]⟩ B_spec_l17Set_2
def F_spec_l17Set : TF := ⟨(.seq (.reg none [.p (.box 3 (.t 0)) .unit,
  .p (.alloc 6 [(.sl true 2 [])]) .unit])
 (.seq (.reg none [.p (.bld 10 [(.sl true 2 [])] []) .unit,
  .p (.alloc 7 [(.sl true 2 [])]) .unit,
  .p (.storeT (.t 7) 10 1) .unit])
 (.seq (.seq (.reg none [.p (.mv 8 (.c (.int .i64 0))) .unit])
 (.jl 0 ⟨[(1, true), (2, true), (3, false), (6, false), (7, false), (8, false)], [.cell .str, .cell (.sl false .str), .box (.sl false (.pair .str (.sl false .str))), .box (.sl true (.pair .str (.sl false .str))), .box (.sl true (.pair .str (.sl false .str))), .cell (.int .i64)]⟩ ⟨[(1, true), (2, true), (3, false), (6, false), (7, false)], [.cell .str, .cell (.sl false .str), .box (.sl false (.pair .str (.sl false .str))), .box (.sl true (.pair .str (.sl false .str))), .box (.sl true (.pair .str (.sl false .str)))]⟩ B_spec_l17Set_1))
 (.seq (.join ⟨[(1, true), (3, false), (6, false), (7, false)], [.cell .str, .box (.sl false (.pair .str (.sl false .str))), .box (.sl true (.pair .str (.sl false .str))), .box (.sl true (.pair .str (.sl false .str)))]⟩ (.seq (.reg none [.p (.mv 36 (.t 2)) .unit,
  .p (.lenB 37 (.t 36)) .unit,
  .p (.bin 38 false .gtr (.t 37) (.c (.int .i64 0))) .unit])
 (.cond (.t 38) (.reg none [.p (.fadr 39 (.t 7) 0) .unit,
  .p (.load 40 (.t 39) 1 false) .unit,
  .p (.mv 41 (.t 1)) .unit,
  .p (.mv 42 (.t 2)) .unit,
  .p (.bld 43 [(.lit (.string (ba []))), (.sl true 1 [])] [⟨0, 1, (.t 41)⟩, ⟨1, 1, (.t 42)⟩]) .unit,
  .p (.bldS 44 1 [(.lit (.string (ba []))), (.sl true 1 [])] [⟨0, 2, (.t 43)⟩]) (.pair .str (.sl false .str)),
  .p (.appC 45 2 40 40 (.t 44) false) (.pair .str (.sl false .str)),
  .p (.fadr 46 (.t 7) 0) .unit,
  .p (.storeT (.t 46) 45 1) .unit]) .skip)))
 (.seq (.seq (.reg none [.p (.mv 9 (.c (.int .i64 0))) .unit])
 (.jl 2 ⟨[(1, true), (3, false), (6, false), (7, false), (9, false)], [.cell .str, .box (.sl false (.pair .str (.sl false .str))), .box (.sl true (.pair .str (.sl false .str))), .box (.sl true (.pair .str (.sl false .str))), .cell (.int .i64)]⟩ ⟨[(6, false), (7, false)], [.box (.sl true (.pair .str (.sl false .str))), .box (.sl true (.pair .str (.sl false .str)))]⟩ B_spec_l17Set_2))
 (.seq (.reg none [.p (.loadT 72 (.t 7) 1 true) .unit,
  .p (.storeT (.t 6) 72 1) .unit])
 .ret)))))),
 73, 3, [.c 6 1 true]⟩
theorem m_spec_l17Set : mH Tryd.prog 21 [(1, 2, .t), (6, 8, .z), (6, 10, .t), (8, 6, .z), (8, 8, .t), (13, 8, .z), (13, 10, .t), (14, 0, .t), (14, 1, .t)] = some (F_spec_l17Set.code.x, F_spec_l17Set.N, F_spec_l17Set.np, F_spec_l17Set.res) := by kernel_rfl
noncomputable def T_spec_l17Set : (List (List UInt8 × List (List UInt8))) × (List UInt8) × List (List UInt8) → Option (List (List UInt8 × List (List UInt8))) := evF [] F_spec_l17Set [.agg (.sl false (.pair .str (.sl false .str))), .cell .str, .cell (.sl false .str)] [] [.agg (.sl true (.pair .str (.sl false .str)))] []
noncomputable def fn_spec_l17Set : TFn := ⟨21, [.agg (.sl false (.pair .str (.sl false .str))), .cell .str, .cell (.sl false .str)], [], [.agg (.sl true (.pair .str (.sl false .str)))], [], T_spec_l17Set⟩
theorem ok_spec_l17Set : FnOk Tryd.prog fn_spec_l17Set := evF_ok mixed allOk_nil m_spec_l17Set (by decide)
def B_spec_Keep_1 : TC := (.seq (.seq (.reg none [.p (.mv 22 (.t 8)) .unit,
  .p (.fadr 23 (.t 2) 0) .unit,
  .p (.load 24 (.t 23) 1 false) .unit,
  .p (.mv 25 (.t 6)) .unit,
  .p (.iadr 26 2 (.t 24) (.t 25)) .unit,
  .p (.fadr 27 (.t 26) 1) .unit,
  .p (.load 28 (.t 27) 1 false) .unit,
  .p (.lenB 29 (.t 28)) .unit,
  .p (.bin 30 false .lss (.t 22) (.t 29)) .unit])
 (.cond (.t 30) .skip (.exit 2)))
 (.seq (.join ⟨[(1, true), (2, false), (4, false), (5, false), (6, false), (7, false), (8, false)], [.cell (.sl false (.int .i64)), .box (.sl false (.pair .str (.sl false .str))), .box (.sl true (.pair .str (.sl false .str))), .box (.sl false (.pair .str (.sl false .str))), .cell (.int .i64), .cell (.sl true .str), .cell (.int .i64)]⟩ (.block 3 (.seq (.reg none [.p (.fadr 34 (.t 2) 0) .unit,
  .p (.load 35 (.t 34) 1 false) .unit,
  .p (.mv 36 (.t 6)) .unit,
  .p (.iadr 37 2 (.t 35) (.t 36)) .unit,
  .p (.fadr 38 (.t 37) 1) .unit,
  .p (.load 39 (.t 38) 1 false) .unit,
  .p (.mv 40 (.t 8)) .unit,
  .p (.iadr 41 1 (.t 39) (.t 40)) .unit,
  .p (.load 42 (.t 41) 1 false) .unit,
  .p (.callB 43 n_spec_SplitPrivate [((.t 42), 0)]) .unit,
  .p (.mv 33 (.t 43)) .unit,
  .p (.ext 44 (.t 33) 0) .unit,
  .p (.ext 45 (.t 33) 1) .unit,
  .p (.ext 46 (.t 33) 2) .unit,
  .p (.mv 9 (.t 44)) .unit,
  .p (.mv 10 (.t 45)) .unit,
  .p (.mv 11 (.t 46)) .unit])
 (.seq (.join ⟨[(1, true), (2, false), (4, false), (5, false), (6, false), (7, false), (8, false), (52, false)], [.cell (.sl false (.int .i64)), .box (.sl false (.pair .str (.sl false .str))), .box (.sl true (.pair .str (.sl false .str))), .box (.sl false (.pair .str (.sl false .str))), .cell (.int .i64), .cell (.sl true .str), .cell (.int .i64), .cell .bool]⟩ (.reg none [.p (.mv 47 (.t 11)) .unit,
  .p (.mv 48 (.t 47)) .unit,
  .g 48 true (some 49) (.mv 49 (.t 1)) .unit,
  .g 48 true (some 50) (.mv 50 (.t 9)) .unit,
  .g 48 true (some 51) (.callB 51 n_spec_l05In [((.t 49), 0), ((.t 50), 0)]) .unit,
  .p (.pick 52 (.t 48) (.t 51) (.c (.bool false))) .unit]))
 (.cond (.t 52) (.reg none [.p (.mvT 53 7) .unit,
  .p (.fadr 54 (.t 2) 0) .unit,
  .p (.load 55 (.t 54) 1 false) .unit,
  .p (.mv 56 (.t 6)) .unit,
  .p (.iadr 57 2 (.t 55) (.t 56)) .unit,
  .p (.fadr 58 (.t 57) 1) .unit,
  .p (.load 59 (.t 58) 1 false) .unit,
  .p (.mv 60 (.t 8)) .unit,
  .p (.iadr 61 1 (.t 59) (.t 60)) .unit,
  .p (.load 62 (.t 61) 1 false) .unit,
  .p (.bldS 63 1 [(.lit (.string (ba [])))] [⟨0, 1, (.t 62)⟩]) .str,
  .p (.app 64 1 16 (.t 53) (.t 63)) .str,
  .p (.mvT 7 64) .unit]) .skip)))))
 (.reg none [.p (.mv 31 (.t 8)) .unit,
  .p (.bin 32 false .add (.t 31) (.c (.int .i64 1))) .unit,
  .p (.mv 8 (.t 32)) .unit])))
noncomputable def L_spec_Keep_1 : Nat → (List (Int)) × (List (List UInt8 × List (List UInt8))) × (List (List UInt8 × List (List UInt8))) × (List (List UInt8 × List (List UInt8))) × (Int) × (List (List UInt8)) × Int → Option (((List (Int)) × (List (List UInt8 × List (List UInt8))) × (List (List UInt8 × List (List UInt8))) × (List (List UInt8 × List (List UInt8))) × (Int) × List (List UInt8)) ⊕ (List (List UInt8 × List (List UInt8)))) := evL [fn_spec_l17Copy, fn_spec_SplitPrivate, fn_spec_l05In, fn_spec_l17Set] (finT [.c 4 1 true] [] [.agg (.sl true (.pair .str (.sl true .str)))]) 2 ⟨[(1, true), (2, false), (4, false), (5, false), (6, false), (7, false), (8, false)], [.cell (.sl false (.int .i64)), .box (.sl false (.pair .str (.sl false .str))), .box (.sl true (.pair .str (.sl false .str))), .box (.sl false (.pair .str (.sl false .str))), .cell (.int .i64), .cell (.sl true .str), .cell (.int .i64)]⟩ ⟨[(1, true), (2, false), (4, false), (5, false), (6, false), (7, false)], [.cell (.sl false (.int .i64)), .box (.sl false (.pair .str (.sl false .str))), .box (.sl true (.pair .str (.sl false .str))), .box (.sl false (.pair .str (.sl false .str))), .cell (.int .i64), .cell (.sl true .str)]⟩ B_spec_Keep_1
def B_spec_Keep_2 : TC := (.seq (.seq (.reg none [.p (.mv 14 (.t 6)) .unit,
  .p (.fadr 15 (.t 2) 0) .unit,
  .p (.load 16 (.t 15) 1 false) .unit,
  .p (.lenB 17 (.t 16)) .unit,
  .p (.bin 18 false .lss (.t 14) (.t 17)) .unit])
 (.cond (.t 18) .skip (.exit 0)))
 (.seq (.block 1 (.seq (.reg none [.p (.bldS 21 0 [(.lit (.string (ba [])))] []) .str,
  .p (.mvT 7 21) .unit])
 (.seq (.seq (.reg none [.p (.mv 8 (.c (.int .i64 0))) .unit])
 (.jl 2 ⟨[(1, true), (2, false), (4, false), (5, false), (6, false), (7, false), (8, false)], [.cell (.sl false (.int .i64)), .box (.sl false (.pair .str (.sl false .str))), .box (.sl true (.pair .str (.sl false .str))), .box (.sl false (.pair .str (.sl false .str))), .cell (.int .i64), .cell (.sl true .str), .cell (.int .i64)]⟩ ⟨[(1, true), (2, false), (4, false), (5, false), (6, false), (7, false)], [.cell (.sl false (.int .i64)), .box (.sl false (.pair .str (.sl false .str))), .box (.sl true (.pair .str (.sl false .str))), .box (.sl false (.pair .str (.sl false .str))), .cell (.int .i64), .cell (.sl true .str)]⟩ B_spec_Keep_1))
 (.reg (some [[], [], [1], [], [2, 3], [4], [5], [], [0, 6, 7], [8, 8, 0, 1, 2, 3, 4, 5, 6, 7, 8]]) [.p (.load 65 (.t 5) 1 true) .unit,
  .p (.fadr 66 (.t 2) 0) .unit,
  .p (.load 67 (.t 66) 1 false) .unit,
  .p (.mv 68 (.t 6)) .unit,
  .p (.iadr 69 2 (.t 67) (.t 68)) .unit,
  .p (.fadr 70 (.t 69) 0) .unit,
  .p (.load 71 (.t 70) 1 false) .unit,
  .p (.mvZ 72 7) .unit,
  .p (.callS 73 n_spec_l17Set [(.t 65), (.t 71), (.t 72)]) .unit,
  .p (.storeZ (.t 5) 73 1) .unit]))))
 (.reg none [.p (.mv 19 (.t 6)) .unit,
  .p (.bin 20 false .add (.t 19) (.c (.int .i64 1))) .unit,
  .p (.mv 6 (.t 20)) .unit])))
noncomputable def L_spec_Keep_2 : Nat → (List (Int)) × (List (List UInt8 × List (List UInt8))) × (List (List UInt8 × List (List UInt8))) × (List (List UInt8 × List (List UInt8))) × Int → Option (((List (List UInt8 × List (List UInt8))) × List (List UInt8 × List (List UInt8))) ⊕ (List (List UInt8 × List (List UInt8)))) := evL [fn_spec_l17Copy, fn_spec_SplitPrivate, fn_spec_l05In, fn_spec_l17Set] (finT [.c 4 1 true] [] [.agg (.sl true (.pair .str (.sl true .str)))]) 0 ⟨[(1, true), (2, false), (4, false), (5, false), (6, false)], [.cell (.sl false (.int .i64)), .box (.sl false (.pair .str (.sl false .str))), .box (.sl true (.pair .str (.sl false .str))), .box (.sl false (.pair .str (.sl false .str))), .cell (.int .i64)]⟩ ⟨[(4, false), (5, false)], [.box (.sl true (.pair .str (.sl false .str))), .box (.sl false (.pair .str (.sl false .str)))]⟩ B_spec_Keep_2
def F_spec_Keep : TF := ⟨(.seq (.reg none [.p (.box 2 (.t 0)) .unit,
  .p (.alloc 4 [(.sl true 2 [])]) .unit])
 (.seq (.reg none [.p (.load 12 (.t 2) 1 true) .unit,
  .p (.callB 13 n_spec_l17Copy [((.t 12), 0)]) .unit,
  .p (.alloc 5 [(.sl true 2 [])]) .unit,
  .p (.storeZ (.t 5) 13 1) .unit])
 (.seq (.seq (.reg none [.p (.mv 6 (.c (.int .i64 0))) .unit])
 (.jl 0 ⟨[(1, true), (2, false), (4, false), (5, false), (6, false)], [.cell (.sl false (.int .i64)), .box (.sl false (.pair .str (.sl false .str))), .box (.sl true (.pair .str (.sl false .str))), .box (.sl false (.pair .str (.sl false .str))), .cell (.int .i64)]⟩ ⟨[(4, false), (5, false)], [.box (.sl true (.pair .str (.sl false .str))), .box (.sl false (.pair .str (.sl false .str)))]⟩ B_spec_Keep_2))
 (.seq (.reg none [.p (.load 74 (.t 5) 1 true) .unit,
  .p (.callB 75 n_spec_l17Copy [((.t 74), 0)]) .unit,
  .p (.storeT (.t 4) 75 1) .unit])
 .ret)))),
 76, 2, [.c 4 1 true]⟩
theorem m_spec_Keep : mH Tryd.prog 6 [(1, 3, .z), (5, 1, .t), (11, 0, .t), (11, 12, .t), (12, 7, .z), (12, 8, .z), (12, 9, .z), (13, 2, .t)] = some (F_spec_Keep.code.x, F_spec_Keep.N, F_spec_Keep.np, F_spec_Keep.res) := by kernel_rfl
noncomputable def T_spec_Keep : (List (List UInt8 × List (List UInt8))) × List (Int) → Option (List (List UInt8 × List (List UInt8))) := evF [fn_spec_l17Copy, fn_spec_SplitPrivate, fn_spec_l05In, fn_spec_l17Set] F_spec_Keep [.agg (.sl false (.pair .str (.sl false .str))), .cell (.sl false (.int .i64))] [] [.agg (.sl true (.pair .str (.sl true .str)))] []
noncomputable def fn_spec_Keep : TFn := ⟨6, [.agg (.sl false (.pair .str (.sl false .str))), .cell (.sl false (.int .i64))], [], [.agg (.sl true (.pair .str (.sl true .str)))], [], T_spec_Keep⟩
theorem ok_spec_Keep : FnOk Tryd.prog fn_spec_Keep := evF_ok mixed (allOk_cons ok_spec_l17Copy (allOk_cons ok_spec_SplitPrivate (allOk_cons ok_spec_l05In (allOk_cons ok_spec_l17Set allOk_nil)))) m_spec_Keep (by decide)
def F_slices_Clone___string_string_ : TF := ⟨(.seq (.reg none [.p (.mvN 2 1) .unit])
 (.seq (.seq (.nq [.p (.mv 3 (.t 0)) .unit] 4 false (.t 3))
 (.cond (.t 4) (.seq (.reg none [.p (.mvN 2 1) .unit])
 .ret) .skip))
 (.seq (.reg none [.p (.bldS 5 0 [(.lit (.string (ba [])))] []) .str,
  .p (.mv 6 (.t 0)) .unit,
  .p (.app 7 1 16 (.t 5) (.t 6)) .str,
  .p (.mvT 2 7) .unit])
 .ret))),
 8, 1, [.t 2]⟩
theorem m_slices_Clone___string_string_ : mH Tryd.prog 40 [(3, 3, .t)] = some (F_slices_Clone___string_string_.code.x, F_slices_Clone___string_string_.N, F_slices_Clone___string_string_.np, F_slices_Clone___string_string_.res) := by kernel_rfl
noncomputable def T_slices_Clone___string_string_ : List (List UInt8) → Option (List (List UInt8)) := evF [] F_slices_Clone___string_string_ [.cell (.sl false .str)] [] [.cell (.sl true .str)] []
noncomputable def fn_slices_Clone___string_string_ : TFn := ⟨40, [.cell (.sl false .str)], [], [.cell (.sl true .str)], [], T_slices_Clone___string_string_⟩
theorem ok_slices_Clone___string_string_ : FnOk Tryd.prog fn_slices_Clone___string_string_ := evF_ok mixed allOk_nil m_slices_Clone___string_string_ (by decide)
def B_impl_copyTable_1 : TC := (.seq (.reg none [.p (.bin 10 false .lss (.t 9) (.t 8)) .unit])
 (.seq (.cond (.t 10) .skip (.exit 0))
 (.seq (.block 1 (.seq (.reg none [.p (.iadr 11 2 (.t 7) (.t 9)) .unit,
  .p (.load 12 (.t 11) 2 true) .unit,
  .p (.alloc 5 [(.lit (.string (ba []))), (.sl true 1 [])]) .unit,
  .p (.store (.t 5) (.t 12) 2) .unit])
 (.seq (.reg none [.p (.fadr 13 (.t 5) 1) .unit,
  .p (.load 14 (.t 13) 1 false) .unit,
  .p (.callB 15 n_slices_Clone___string_string_ [((.t 14), 0)]) .unit,
  .p (.fadr 16 (.t 5) 1) .unit,
  .p (.storeT (.t 16) 15 1) .unit])
 (.reg none [.p (.fadr 17 (.t 3) 0) .unit,
  .p (.load 18 (.t 17) 1 false) .unit,
  .p (.loadT 19 (.t 5) 2 true) .unit,
  .p (.bldS 20 1 [(.lit (.string (ba []))), (.sl true 1 [])] [⟨0, 2, (.t 19)⟩]) (.pair .str (.sl true .str)),
  .p (.appC 21 2 40 18 (.t 20) true) (.pair .str (.sl true .str)),
  .p (.fadr 22 (.t 3) 0) .unit,
  .p (.storeT (.t 22) 21 1) .unit]))))
 (.reg none [.p (.bin 23 false .add (.t 9) (.c (.int .i64 1))) .unit,
  .p (.mv 9 (.t 23)) .unit]))))
noncomputable def L_impl_copyTable_1 : Nat → (List (List UInt8 × List (List UInt8))) × (List (List UInt8 × List (List UInt8))) × (List (List UInt8 × List (List UInt8))) × (Int) × Int → Option (((List (List UInt8 × List (List UInt8))) × List (List UInt8 × List (List UInt8))) ⊕ (List (List UInt8 × List (List UInt8)))) := evL [fn_slices_Clone___string_string_] (finT [.c 2 1 true] [] [.agg (.sl true (.pair .str (.sl true .str)))]) 0 ⟨[(2, false), (3, false), (7, false), (8, false), (9, false)], [.box (.sl true (.pair .str (.sl true .str))), .box (.sl true (.pair .str (.sl true .str))), .cell (.sl false (.pair .str (.sl false .str))), .cell (.int .i64), .cell (.int .i64)]⟩ ⟨[(2, false), (3, false)], [.box (.sl true (.pair .str (.sl true .str))), .box (.sl true (.pair .str (.sl true .str)))]⟩ B_impl_copyTable_1
def F_impl_copyTable : TF := ⟨(.seq (.reg none [.p (.box 1 (.t 0)) .unit,
  .p (.alloc 2 [(.sl true 2 [])]) .unit])
 (.seq (.reg none [.p (.alloc 3 [(.sl true 2 [])]) .unit])
 (.seq (.seq (.reg none [.p (.fadr 6 (.t 1) 0) .unit,
  .p (.load 7 (.t 6) 1 false) .unit,
  .p (.lenB 8 (.t 7)) .unit,
  .p (.mv 9 (.c (.int .i64 0))) .unit])
 (.jl 0 ⟨[(2, false), (3, false), (7, false), (8, false), (9, false)], [.box (.sl true (.pair .str (.sl true .str))), .box (.sl true (.pair .str (.sl true .str))), .cell (.sl false (.pair .str (.sl false .str))), .cell (.int .i64), .cell (.int .i64)]⟩ ⟨[(2, false), (3, false)], [.box (.sl true (.pair .str (.sl true .str))), .box (.sl true (.pair .str (.sl true .str)))]⟩ B_impl_copyTable_1))
 (.seq (.reg none [.p (.loadT 24 (.t 3) 1 true) .unit,
  .p (.storeT (.t 2) 24 1) .unit])
 .ret)))),
 25, 1, [.c 2 1 true]⟩
theorem m_impl_copyTable : mH Tryd.prog 23 [(5, 4, .t), (6, 2, .t), (6, 4, .v), (6, 6, .t), (8, 0, .t), (8, 1, .t)] = some (F_impl_copyTable.code.x, F_impl_copyTable.N, F_impl_copyTable.np, F_impl_copyTable.res) := by kernel_rfl
noncomputable def T_impl_copyTable : List (List UInt8 × List (List UInt8)) → Option (List (List UInt8 × List (List UInt8))) := evF [fn_slices_Clone___string_string_] F_impl_copyTable [.agg (.sl false (.pair .str (.sl false .str)))] [] [.agg (.sl true (.pair .str (.sl true .str)))] []
noncomputable def fn_impl_copyTable : TFn := ⟨23, [.agg (.sl false (.pair .str (.sl false .str)))], [], [.agg (.sl true (.pair .str (.sl true .str)))], [], T_impl_copyTable⟩
theorem ok_impl_copyTable : FnOk Tryd.prog fn_impl_copyTable := evF_ok mixed (allOk_cons ok_slices_Clone___string_string_ allOk_nil) m_impl_copyTable (by decide)
def B___impl_Table__put_1 : TC := (.seq (.seq (.join ⟨[(0, true), (3, false), (4, false), (24, false)], [.box (.sl true (.pair .str (.sl true .str))), .box (.pair .str (.sl true .str)), .cell (.int .i64), .cell .bool]⟩ (.reg (some [[], [], [1], [2], [3], [4], [0, 5], [6], [7], [8, 7], [9, 7], [10, 7], [7], [11, 12, 7], [13, 7], [14, 7], [7], [16, 7], [15, 17, 7], [7, 18]]) [.p (.mv 5 (.t 4)) .unit,
  .p (.mvP 6 0) .unit,
  .p (.nilck 7 (.t 6)) .unit,
  .p (.fadr 8 (.t 7) 0) .unit,
  .p (.load 9 (.t 8) 1 false) .unit,
  .p (.lenB 10 (.t 9)) .unit,
  .p (.bin 11 false .lss (.t 5) (.t 10)) .unit,
  .p (.mv 12 (.t 11)) .unit,
  .g 12 true (some 13) (.mvP 13 0) .unit,
  .g 12 true (some 14) (.nilck 14 (.t 13)) .unit,
  .g 12 true (some 15) (.fadr 15 (.t 14) 0) .unit,
  .g 12 true (some 16) (.load 16 (.t 15) 1 false) .unit,
  .g 12 true (some 17) (.mv 17 (.t 4)) .unit,
  .g 12 true (some 18) (.iadr 18 2 (.t 16) (.t 17)) .unit,
  .g 12 true (some 19) (.fadr 19 (.t 18) 0) .unit,
  .g 12 true (some 20) (.load 20 (.t 19) 1 false) .unit,
  .g 12 true (some 21) (.fadr 21 (.t 3) 0) .unit,
  .g 12 true (some 22) (.load 22 (.t 21) 1 false) .unit,
  .g 12 true (some 23) (.bin 23 false .lss (.t 20) (.t 22)) .unit,
  .p (.pick 24 (.t 12) (.t 23) (.c (.bool false))) .unit]))
 (.cond (.t 24) .skip (.exit 0)))
 (.block 1 (.reg none [.p (.mv 25 (.t 4)) .unit,
  .p (.bin 26 false .add (.t 25) (.c (.int .i64 1))) .unit,
  .p (.mv 4 (.t 26)) .unit])))
noncomputable def L___impl_Table__put_1 : Nat → (List (List UInt8 × List (List UInt8))) × (List UInt8 × List (List UInt8)) × Int → Option (((List (List UInt8 × List (List UInt8))) × (List UInt8 × List (List UInt8)) × Int) ⊕ (List (List UInt8 × List (List UInt8)))) := evL [fn_slices_Insert___impl_Group_impl_Group_] (finT [] [0] [.box (.sl true (.pair .str (.sl true .str)))]) 0 ⟨[(0, true), (3, false), (4, false)], [.box (.sl true (.pair .str (.sl true .str))), .box (.pair .str (.sl true .str)), .cell (.int .i64)]⟩ ⟨[(0, true), (3, false), (4, false)], [.box (.sl true (.pair .str (.sl true .str))), .box (.pair .str (.sl true .str)), .cell (.int .i64)]⟩ B___impl_Table__put_1
def F___impl_Table__put : TF := ⟨(.seq (.reg none [.p (.boxT 3 1) .unit])
 (.seq (.reg none [.p (.mv 4 (.c (.int .i64 0))) .unit])
 (.seq (.jl 0 ⟨[(0, true), (3, false), (4, false)], [.box (.sl true (.pair .str (.sl true .str))), .box (.pair .str (.sl true .str)), .cell (.int .i64)]⟩ ⟨[(0, true), (3, false), (4, false)], [.box (.sl true (.pair .str (.sl true .str))), .box (.pair .str (.sl true .str)), .cell (.int .i64)]⟩ B___impl_Table__put_1)
 (.seq (.join ⟨[(0, true), (3, false), (4, false), (46, false)], [.box (.sl true (.pair .str (.sl true .str))), .box (.pair .str (.sl true .str)), .cell (.int .i64), .cell .bool]⟩ (.reg (some [[], [], [1], [2], [3], [4], [0, 5], [6], [7], [8, 7], [9, 7], [10, 7], [7], [11, 12, 7], [13, 7], [14, 7], [7], [16, 7], [15, 17, 7], [7, 18]]) [.p (.mv 27 (.t 4)) .unit,
  .p (.mvP 28 0) .unit,
  .p (.nilck 29 (.t 28)) .unit,
  .p (.fadr 30 (.t 29) 0) .unit,
  .p (.load 31 (.t 30) 1 false) .unit,
  .p (.lenB 32 (.t 31)) .unit,
  .p (.bin 33 false .lss (.t 27) (.t 32)) .unit,
  .p (.mv 34 (.t 33)) .unit,
  .g 34 true (some 35) (.mvP 35 0) .unit,
  .g 34 true (some 36) (.nilck 36 (.t 35)) .unit,
  .g 34 true (some 37) (.fadr 37 (.t 36) 0) .unit,
  .g 34 true (some 38) (.load 38 (.t 37) 1 false) .unit,
  .g 34 true (some 39) (.mv 39 (.t 4)) .unit,
  .g 34 true (some 40) (.iadr 40 2 (.t 38) (.t 39)) .unit,
  .g 34 true (some 41) (.fadr 41 (.t 40) 0) .unit,
  .g 34 true (some 42) (.load 42 (.t 41) 1 false) .unit,
  .g 34 true (some 43) (.fadr 43 (.t 3) 0) .unit,
  .g 34 true (some 44) (.load 44 (.t 43) 1 false) .unit,
  .g 34 true (some 45) (.bin 45 false .eql (.t 42) (.t 44)) .unit,
  .p (.pick 46 (.t 34) (.t 45) (.c (.bool false))) .unit]))
 (.cond (.t 46) (.reg (some [[], [0], [1], [2], [], [], [3, 4, 0, 1, 2, 3, 4, 5], [6, 5, 0, 1, 2, 3, 4, 5]]) [.p (.mvP 47 0) .unit,
  .p (.nilck 48 (.t 47)) .unit,
  .p (.fadr 49 (.t 48) 0) .unit,
  .p (.load 50 (.t 49) 1 false) .unit,
  .p (.mv 51 (.t 4)) .unit,
  .p (.loadT 52 (.t 3) 2 true) .unit,
  .p (.iadr 53 2 (.t 50) (.t 51)) .unit,
  .p (.storeT (.t 53) 52 2) .unit]) (.reg (some [[], [], [1], [2], [3], [], [], [6], [4, 5, 7], [0, 0, 1, 2, 3, 4, 5, 6, 7, 8], [9, 0, 1, 2, 3, 4, 5, 6, 7, 8], [10, 8, 8, 0, 1, 2, 3, 4, 5, 6, 7, 8]]) [.p (.mvP 54 0) .unit,
  .p (.mvP 55 0) .unit,
  .p (.nilck 56 (.t 55)) .unit,
  .p (.fadr 57 (.t 56) 0) .unit,
  .p (.loadT 58 (.t 57) 1 false) .unit,
  .p (.mv 59 (.t 4)) .unit,
  .p (.loadT 60 (.t 3) 2 true) .unit,
  .p (.bldS 61 1 [(.lit (.string (ba []))), (.sl true 1 [])] [⟨0, 2, (.t 60)⟩]) (.pair .str (.sl true .str)),
  .p (.callM 62 n_slices_Insert___impl_Group_impl_Group_ [] (.tmp2 58 61) [((.t 59), 0)]) .unit,
  .p (.nilck 63 (.t 54)) .unit,
  .p (.fadr 64 (.t 63) 0) .unit,
  .p (.storeT (.t 64) 62 1) .unit])))))),
 65, 2, []⟩
theorem m___impl_Table__put : mH Tryd.prog 24 [(0, 0, .t), (2, 1, (.ms 0)), (2, 8, (.ms 0)), (4, 1, (.ms 0)), (4, 8, (.ms 0)), (5, 0, (.ms 0)), (5, 5, .t), (5, 7, .t), (6, 0, (.ms 0)), (6, 1, (.ms 0)), (6, 4, .t), (6, 6, .t), (6, 8, (.m2 0)), (6, 11, .t)] = some (F___impl_Table__put.code.x, F___impl_Table__put.N, F___impl_Table__put.np, F___impl_Table__put.res) := by kernel_rfl
noncomputable def T___impl_Table__put : (List (List UInt8 × List (List UInt8))) × List UInt8 × List (List UInt8) → Option (List (List UInt8 × List (List UInt8))) := evF [fn_slices_Insert___impl_Group_impl_Group_] F___impl_Table__put [.box (.sl true (.pair .str (.sl true .str))), .agg (.pair .str (.sl true .str))] [0] [] [.box (.sl true (.pair .str (.sl true .str)))]
noncomputable def fn___impl_Table__put : TFn := ⟨24, [.box (.sl true (.pair .str (.sl true .str))), .agg (.pair .str (.sl true .str))], [0], [], [.box (.sl true (.pair .str (.sl true .str)))], T___impl_Table__put⟩
theorem ok___impl_Table__put : FnOk Tryd.prog fn___impl_Table__put := evF_ok mixed (allOk_cons ok_slices_Insert___impl_Group_impl_Group_ allOk_nil) m___impl_Table__put (by decide)
def F_impl_Decimal : TF := ⟨(.seq (.reg none [.p (.mv 2 (.c (.string (ba [])))) .unit])
 (.seq (.reg none [.p (.mv 3 (.t 0)) .unit,
  .p (.callB 4 n_strconv_Itoa [((.t 3), 0)]) .unit,
  .p (.mv 2 (.t 4)) .unit])
 .ret)),
 5, 1, [.t 2]⟩
theorem m_impl_Decimal : mH Tryd.prog 63 [] = some (F_impl_Decimal.code.x, F_impl_Decimal.N, F_impl_Decimal.np, F_impl_Decimal.res) := by kernel_rfl
noncomputable def T_impl_Decimal : Int → Option (List UInt8) := evF [fn_strconv_Itoa] F_impl_Decimal [.cell (.int .i64)] [] [.cell .str] []
noncomputable def fn_impl_Decimal : TFn := ⟨63, [.cell (.int .i64)], [], [.cell .str], [], T_impl_Decimal⟩
theorem ok_impl_Decimal : FnOk Tryd.prog fn_impl_Decimal := evF_ok mixed (allOk_cons ok_strconv_Itoa allOk_nil) m_impl_Decimal (by decide)
def B_impl_ReadDecimal_1 : TC := (.seq (.seq (.reg none [.p (.mv 14 (.t 5)) .unit,
  .p (.mv 15 (.t 0)) .unit,
  .p (.lenS 16 (.t 15)) .unit,
  .p (.bin 17 false .lss (.t 14) (.t 16)) .unit])
 (.cond (.t 17) .skip (.exit 0)))
 (.seq (.block 1 (.seq (.seq (.join ⟨[(0, true), (4, false), (5, false), (29, false)], [.cell .str, .cell (.int .i64), .cell (.int .i64), .cell .bool]⟩ (.reg none [.p (.mv 20 (.t 0)) .unit,
  .p (.mv 21 (.t 5)) .unit,
  .p (.idx 22 (.t 20) (.t 21)) .unit,
  .p (.bin 23 false .lss (.t 22) (.c (.int .u8 48))) .unit,
  .p (.mv 24 (.t 23)) .unit,
  .g 24 false (some 25) (.mv 25 (.t 0)) .unit,
  .g 24 false (some 26) (.mv 26 (.t 5)) .unit,
  .g 24 false (some 27) (.idx 27 (.t 25) (.t 26)) .unit,
  .g 24 false (some 28) (.bin 28 false .gtr (.t 27) (.c (.int .u8 57))) .unit,
  .p (.pick 29 (.t 24) (.c (.bool true)) (.t 28)) .unit]))
 (.cond (.t 29) (.seq (.reg none [.p (.mv 2 (.c (.int .i64 0))) .unit,
  .p (.mv 3 (.c (.bool false))) .unit])
 .ret) .skip))
 (.reg none [.p (.mv 30 (.t 4)) .unit,
  .p (.bin 31 false .mul (.t 30) (.c (.int .i64 10))) .unit,
  .p (.mv 32 (.t 0)) .unit,
  .p (.mv 33 (.t 5)) .unit,
  .p (.idx 34 (.t 32) (.t 33)) .unit,
  .p (.bin 35 false .sub (.t 34) (.c (.int .u8 48))) .unit,
  .p (.cvi 36 .i64 .u8 (.t 35)) .unit,
  .p (.bin 37 false .add (.t 31) (.t 36)) .unit,
  .p (.mv 4 (.t 37)) .unit])))
 (.reg none [.p (.mv 18 (.t 5)) .unit,
  .p (.bin 19 false .add (.t 18) (.c (.int .i64 1))) .unit,
  .p (.mv 5 (.t 19)) .unit])))
noncomputable def L_impl_ReadDecimal_1 : Nat → (List UInt8) × (Int) × Int → Option (((List UInt8) × Int) ⊕ ((Int) × Bool)) := evL [fn_impl_Decimal] (finT [.t 2, .t 3] [] [.cell (.int .i64), .cell .bool]) 0 ⟨[(0, true), (4, false), (5, false)], [.cell .str, .cell (.int .i64), .cell (.int .i64)]⟩ ⟨[(0, true), (4, false)], [.cell .str, .cell (.int .i64)]⟩ B_impl_ReadDecimal_1
def F_impl_ReadDecimal : TF := ⟨(.seq (.reg none [.p (.mv 2 (.c (.int .i64 0))) .unit,
  .p (.mv 3 (.c (.bool false))) .unit])
 (.seq (.seq (.join ⟨[(0, true), (13, false)], [.cell .str, .cell .bool]⟩ (.reg none [.p (.mv 6 (.t 0)) .unit,
  .p (.lenS 7 (.t 6)) .unit,
  .p (.bin 8 false .eql (.t 7) (.c (.int .i64 0))) .unit,
  .p (.mv 9 (.t 8)) .unit,
  .g 9 false (some 10) (.mv 10 (.t 0)) .unit,
  .g 9 false (some 11) (.lenS 11 (.t 10)) .unit,
  .g 9 false (some 12) (.bin 12 false .gtr (.t 11) (.c (.int .i64 10))) .unit,
  .p (.pick 13 (.t 9) (.c (.bool true)) (.t 12)) .unit]))
 (.cond (.t 13) (.seq (.reg none [.p (.mv 2 (.c (.int .i64 0))) .unit,
  .p (.mv 3 (.c (.bool false))) .unit])
 .ret) .skip))
 (.seq (.reg none [.p (.mv 4 (.c (.int .i64 0))) .unit])
 (.seq (.seq (.reg none [.p (.mv 5 (.c (.int .i64 0))) .unit])
 (.jl 0 ⟨[(0, true), (4, false), (5, false)], [.cell .str, .cell (.int .i64), .cell (.int .i64)]⟩ ⟨[(0, true), (4, false)], [.cell .str, .cell (.int .i64)]⟩ B_impl_ReadDecimal_1))
 (.seq (.seq (.join ⟨[(4, false), (45, false)], [.cell (.int .i64), .cell .bool]⟩ (.reg none [.p (.mv 38 (.t 4)) .unit,
  .p (.bin 39 false .gtr (.t 38) (.c (.int .i64 1000000000))) .unit,
  .p (.mv 40 (.t 39)) .unit,
  .g 40 false (some 41) (.mv 41 (.t 4)) .unit,
  .g 40 false (some 42) (.callB 42 n_impl_Decimal [((.t 41), 0)]) .unit,
  .g 40 false (some 43) (.mv 43 (.t 0)) .unit,
  .g 40 false (some 44) (.bin 44 false .neq (.t 42) (.t 43)) .unit,
  .p (.pick 45 (.t 40) (.c (.bool true)) (.t 44)) .unit]))
 (.cond (.t 45) (.seq (.reg none [.p (.mv 2 (.c (.int .i64 0))) .unit,
  .p (.mv 3 (.c (.bool false))) .unit])
 .ret) .skip))
 (.seq (.reg none [.p (.mv 46 (.t 4)) .unit,
  .p (.mv 2 (.t 46)) .unit,
  .p (.mv 3 (.c (.bool true))) .unit])
 .ret)))))),
 47, 1, [.t 2, .t 3]⟩
theorem m_impl_ReadDecimal : mH Tryd.prog 45 [] = some (F_impl_ReadDecimal.code.x, F_impl_ReadDecimal.N, F_impl_ReadDecimal.np, F_impl_ReadDecimal.res) := by kernel_rfl
noncomputable def T_impl_ReadDecimal : List UInt8 → Option ((Int) × Bool) := evF [fn_impl_Decimal] F_impl_ReadDecimal [.cell .str] [] [.cell (.int .i64), .cell .bool] []
noncomputable def fn_impl_ReadDecimal : TFn := ⟨45, [.cell .str], [], [.cell (.int .i64), .cell .bool], [], T_impl_ReadDecimal⟩
theorem ok_impl_ReadDecimal : FnOk Tryd.prog fn_impl_ReadDecimal := evF_ok mixed (allOk_cons ok_impl_Decimal allOk_nil) m_impl_ReadDecimal (by decide)
def F_impl_inRange : TF := ⟨(.seq (.reg none [.p (.mv 6 (.c (.bool false))) .unit])
 (.seq (.reg none [.p (.mv 7 (.t 0)) .unit,
  .p (.mv 8 (.t 1)) .unit,
  .p (.bin 9 false .geq (.t 7) (.t 8)) .unit,
  .p (.mv 10 (.t 9)) .unit,
  .g 10 true (some 11) (.mv 11 (.t 0)) .unit,
  .g 10 true (some 12) (.mv 12 (.t 2)) .unit,
  .g 10 true (some 13) (.bin 13 false .leq (.t 11) (.t 12)) .unit,
  .p (.pick 14 (.t 10) (.t 13) (.c (.bool false))) .unit,
  .p (.mv 6 (.t 14)) .unit])
 .ret)),
 15, 3, [.t 6]⟩
theorem m_impl_inRange : mH Tryd.prog 64 [] = some (F_impl_inRange.code.x, F_impl_inRange.N, F_impl_inRange.np, F_impl_inRange.res) := by kernel_rfl
noncomputable def T_impl_inRange : (Int) × (Int) × Int → Option (Bool) := evF [] F_impl_inRange [.cell (.int .i64), .cell (.int .i64), .cell (.int .i64)] [] [.cell .bool] []
noncomputable def fn_impl_inRange : TFn := ⟨64, [.cell (.int .i64), .cell (.int .i64), .cell (.int .i64)], [], [.cell .bool], [], T_impl_inRange⟩
theorem ok_impl_inRange : FnOk Tryd.prog fn_impl_inRange := evF_ok mixed allOk_nil m_impl_inRange (by decide)
def B_impl_NameOk_1 : TC := (.seq (.seq (.reg none [.p (.mv 5 (.t 3)) .unit,
  .p (.mv 6 (.t 0)) .unit,
  .p (.lenS 7 (.t 6)) .unit,
  .p (.bin 8 false .lss (.t 5) (.t 7)) .unit])
 (.cond (.t 8) .skip (.exit 0)))
 (.seq (.block 1 (.seq (.join ⟨[(0, true), (3, false), (4, false)], [.cell .str, .cell (.int .i64), .cell .bool]⟩ (.reg none [.p (.mv 11 (.t 0)) .unit,
  .p (.mv 12 (.t 3)) .unit,
  .p (.idx 13 (.t 11) (.t 12)) .unit,
  .p (.bin 14 false .geq (.t 13) (.c (.int .u8 97))) .unit,
  .p (.mv 15 (.t 14)) .unit,
  .g 15 true (some 16) (.mv 16 (.t 0)) .unit,
  .g 15 true (some 17) (.mv 17 (.t 3)) .unit,
  .g 15 true (some 18) (.idx 18 (.t 16) (.t 17)) .unit,
  .g 15 true (some 19) (.bin 19 false .leq (.t 18) (.c (.int .u8 122))) .unit,
  .p (.pick 20 (.t 15) (.t 19) (.c (.bool false))) .unit,
  .p (.mv 4 (.t 20)) .unit]))
 (.seq (.join ⟨[(0, true), (3, false), (38, false)], [.cell .str, .cell (.int .i64), .cell .bool]⟩ (.reg none [.p (.mv 21 (.t 4)) .unit,
  .p (.un 22 .not (.t 21)) .unit,
  .p (.mv 23 (.t 22)) .unit,
  .g 23 true (some 24) (.mv 24 (.t 3)) .unit,
  .g 23 true (some 25) (.bin 25 false .eql (.t 24) (.c (.int .i64 0))) .unit,
  .g 23 true (some 26) (.mv 26 (.t 25)) .unit,
  .g 26 false (some 27) (.mv 27 (.t 0)) .unit,
  .g 26 false (some 28) (.mv 28 (.t 3)) .unit,
  .g 26 false (some 29) (.idx 29 (.t 27) (.t 28)) .unit,
  .g 26 false (some 30) (.bin 30 false .lss (.t 29) (.c (.int .u8 48))) .unit,
  .g 23 true (some 31) (.pick 31 (.t 26) (.c (.bool true)) (.t 30)) .unit,
  .g 23 true (some 32) (.mv 32 (.t 31)) .unit,
  .g 32 false (some 33) (.mv 33 (.t 0)) .unit,
  .g 32 false (some 34) (.mv 34 (.t 3)) .unit,
  .g 32 false (some 35) (.idx 35 (.t 33) (.t 34)) .unit,
  .g 32 false (some 36) (.bin 36 false .gtr (.t 35) (.c (.int .u8 57))) .unit,
  .g 23 true (some 37) (.pick 37 (.t 32) (.c (.bool true)) (.t 36)) .unit,
  .p (.pick 38 (.t 23) (.t 37) (.c (.bool false))) .unit]))
 (.cond (.t 38) (.seq (.reg none [.p (.mv 2 (.c (.bool false))) .unit])
 .ret) .skip))))
 (.reg none [.p (.mv 9 (.t 3)) .unit,
  .p (.bin 10 false .add (.t 9) (.c (.int .i64 1))) .unit,
  .p (.mv 3 (.t 10)) .unit])))
noncomputable def L_impl_NameOk_1 : Nat → (List UInt8) × Int → Option ((List UInt8) ⊕ (Bool)) := evL [fn_impl_inRange] (finT [.t 2] [] [.cell .bool]) 0 ⟨[(0, true), (3, false)], [.cell .str, .cell (.int .i64)]⟩ ⟨[(0, true)], [.cell .str]⟩ B_impl_NameOk_1
def F_impl_NameOk : TF := ⟨(.seq (.reg none [.p (.mv 2 (.c (.bool false))) .unit])
 (.seq (.seq (.reg none [.p (.mv 3 (.c (.int .i64 0))) .unit])
 (.jl 0 ⟨[(0, true), (3, false)], [.cell .str, .cell (.int .i64)]⟩ ⟨[(0, true)], [.cell .str]⟩ B_impl_NameOk_1))
 (.seq (.reg none [.p (.mv 39 (.t 0)) .unit,
  .p (.lenS 40 (.t 39)) .unit,
  .p (.callB 41 n_impl_inRange [((.t 40), 0), ((.c (.int .i64 1)), 0), ((.c (.int .i64 12)), 0)]) .unit,
  .p (.mv 2 (.t 41)) .unit])
 .ret))),
 42, 1, [.t 2]⟩
theorem m_impl_NameOk : mH Tryd.prog 54 [] = some (F_impl_NameOk.code.x, F_impl_NameOk.N, F_impl_NameOk.np, F_impl_NameOk.res) := by kernel_rfl
noncomputable def T_impl_NameOk : List UInt8 → Option (Bool) := evF [fn_impl_inRange] F_impl_NameOk [.cell .str] [] [.cell .bool] []
noncomputable def fn_impl_NameOk : TFn := ⟨54, [.cell .str], [], [.cell .bool], [], T_impl_NameOk⟩
theorem ok_impl_NameOk : FnOk Tryd.prog fn_impl_NameOk := evF_ok mixed (allOk_cons ok_impl_inRange allOk_nil) m_impl_NameOk (by decide)
def F_impl_PrivateName : TF := ⟨(.seq (.reg none [.p (.mv 4 (.c (.string (ba [])))) .unit])
 (.seq (.seq (.join ⟨[(0, true), (1, true), (12, false)], [.cell (.int .i64), .cell .str, .cell .bool]⟩ (.reg none [.p (.mv 5 (.t 0)) .unit,
  .p (.callB 6 n_impl_inRange [((.t 5), 0), ((.c (.int .i64 1)), 0), ((.c (.int .i64 9)), 0)]) .unit,
  .p (.un 7 .not (.t 6)) .unit,
  .p (.mv 8 (.t 7)) .unit,
  .g 8 false (some 9) (.mv 9 (.t 1)) .unit,
  .g 8 false (some 10) (.callB 10 n_impl_NameOk [((.t 9), 0)]) .unit,
  .g 8 false (some 11) (.un 11 .not (.t 10)) .unit,
  .p (.pick 12 (.t 8) (.c (.bool true)) (.t 11)) .unit]))
 (.cond (.t 12) (.seq (.reg none [.p (.mv 4 (.c (.string (ba [])))) .unit])
 .ret) .skip))
 (.seq (.reg none [.p (.mv 13 (.t 0)) .unit,
  .p (.callB 14 n_impl_Decimal [((.t 13), 0)]) .unit,
  .p (.bin 15 false .add (.c (.string (ba [35]))) (.t 14)) .unit,
  .p (.bin 16 false .add (.t 15) (.c (.string (ba [35])))) .unit,
  .p (.mv 17 (.t 1)) .unit,
  .p (.bin 18 false .add (.t 16) (.t 17)) .unit,
  .p (.mv 4 (.t 18)) .unit])
 .ret))),
 19, 2, [.t 4]⟩
theorem m_impl_PrivateName : mH Tryd.prog 46 [] = some (F_impl_PrivateName.code.x, F_impl_PrivateName.N, F_impl_PrivateName.np, F_impl_PrivateName.res) := by kernel_rfl
noncomputable def T_impl_PrivateName : (Int) × List UInt8 → Option (List UInt8) := evF [fn_impl_inRange, fn_impl_NameOk, fn_impl_Decimal] F_impl_PrivateName [.cell (.int .i64), .cell .str] [] [.cell .str] []
noncomputable def fn_impl_PrivateName : TFn := ⟨46, [.cell (.int .i64), .cell .str], [], [.cell .str], [], T_impl_PrivateName⟩
theorem ok_impl_PrivateName : FnOk Tryd.prog fn_impl_PrivateName := evF_ok mixed (allOk_cons ok_impl_inRange (allOk_cons ok_impl_NameOk (allOk_cons ok_impl_Decimal allOk_nil))) m_impl_PrivateName (by decide)
def F_impl_SplitPrivate : TF := ⟨(.seq (.reg none [.p (.mv 2 (.c (.int .i64 0))) .unit,
  .p (.mv 3 (.c (.string (ba [])))) .unit,
  .p (.mv 4 (.c (.bool false))) .unit])
 (.seq (.reg none [.p (.mv 8 (.t 0)) .unit,
  .p (.callB 9 n_strings_Split [((.t 8), 0), ((.c (.string (ba [35]))), 0)]) .unit,
  .p (.mvT 5 9) .unit])
 (.seq (.seq (.reg none [.p (.mvA 10 5) .unit,
  .p (.lenB 11 (.t 10)) .unit,
  .p (.bin 12 false .neq (.t 11) (.c (.int .i64 3))) .unit])
 (.cond (.t 12) (.seq (.reg none [.p (.mv 2 (.c (.int .i64 0))) .unit,
  .p (.mv 3 (.c (.string (ba [])))) .unit,
  .p (.mv 4 (.c (.bool false))) .unit])
 .ret) .skip))
 (.seq (.reg none [.p (.mvA 14 5) .unit,
  .p (.iadr 15 1 (.t 14) (.c (.int .i64 1))) .unit,
  .p (.load 16 (.t 15) 1 false) .unit,
  .p (.callB 17 n_impl_ReadDecimal [((.t 16), 0)]) .unit,
  .p (.mv 13 (.t 17)) .unit,
  .p (.ext 18 (.t 13) 0) .unit,
  .p (.ext 19 (.t 13) 1) .unit,
  .p (.mv 6 (.t 18)) .unit,
  .p (.mv 7 (.t 19)) .unit])
 (.seq (.seq (.join ⟨[(5, false), (6, false), (30, false)], [.cell (.sl true .str), .cell (.int .i64), .cell .bool]⟩ (.reg none [.p (.mv 20 (.t 7)) .unit,
  .p (.un 21 .not (.t 20)) .unit,
  .p (.mv 22 (.t 21)) .unit,
  .g 22 false (some 23) (.mv 23 (.t 6)) .unit,
  .g 22 false (some 24) (.mvA 24 5) .unit,
  .g 22 false (some 25) (.iadr 25 1 (.t 24) (.c (.int .i64 2))) .unit,
  .g 22 false (some 26) (.load 26 (.t 25) 1 false) .unit,
  .g 22 false (some 27) (.callB 27 n_impl_PrivateName [((.t 23), 0), ((.t 26), 0)]) .unit,
  .g 22 false (some 28) (.mv 28 (.t 0)) .unit,
  .g 22 false (some 29) (.bin 29 false .neq (.t 27) (.t 28)) .unit,
  .p (.pick 30 (.t 22) (.c (.bool true)) (.t 29)) .unit]))
 (.cond (.t 30) (.seq (.reg none [.p (.mv 2 (.c (.int .i64 0))) .unit,
  .p (.mv 3 (.c (.string (ba [])))) .unit,
  .p (.mv 4 (.c (.bool false))) .unit])
 .ret) .skip))
 (.seq (.reg (some [[], [], [1], [2], [0, 0], [3, 4, 0, 1, 2, 3, 4], [5, 0, 1, 2, 3, 4, 5]]) [.p (.mv 31 (.t 6)) .unit,
  .p (.mvT 32 5) .unit,
  .p (.iadr 33 1 (.t 32) (.c (.int .i64 2))) .unit,
  .p (.load 34 (.t 33) 1 false) .unit,
  .p (.mv 2 (.t 31)) .unit,
  .p (.mv 3 (.t 34)) .unit,
  .p (.mv 4 (.c (.bool true))) .unit])
 .ret)))))),
 35, 1, [.t 2, .t 3, .t 4]⟩
theorem m_impl_SplitPrivate : mH Tryd.prog 27 [(1, 2, .t), (2, 0, .v), (4, 0, .v), (5, 4, .v), (7, 1, .t)] = some (F_impl_SplitPrivate.code.x, F_impl_SplitPrivate.N, F_impl_SplitPrivate.np, F_impl_SplitPrivate.res) := by kernel_rfl
noncomputable def T_impl_SplitPrivate : List UInt8 → Option ((Int) × (List UInt8) × Bool) := evF [fn_strings_Split, fn_impl_ReadDecimal, fn_impl_PrivateName] F_impl_SplitPrivate [.cell .str] [] [.cell (.int .i64), .cell .str, .cell .bool] []
noncomputable def fn_impl_SplitPrivate : TFn := ⟨27, [.cell .str], [], [.cell (.int .i64), .cell .str, .cell .bool], [], T_impl_SplitPrivate⟩
theorem ok_impl_SplitPrivate : FnOk Tryd.prog fn_impl_SplitPrivate := evF_ok mixed (allOk_cons ok_strings_Split (allOk_cons ok_impl_ReadDecimal (allOk_cons ok_impl_PrivateName allOk_nil))) m_impl_SplitPrivate (by decide)
def B_slices_Index___int_int__1 : TC := (.seq (.reg none [.p (.bin 9 false .lss (.t 8) (.t 7)) .unit])
 (.seq (.cond (.t 9) .skip (.exit 0))
 (.seq (.block 1 (.seq (.reg none [.p (.mv 10 (.t 8)) .unit,
  .p (.mv 5 (.t 10)) .unit])
 (.seq (.reg none [.p (.mv 11 (.t 1)) .unit,
  .p (.mv 12 (.t 0)) .unit,
  .p (.mv 13 (.t 5)) .unit,
  .p (.iadr 14 1 (.t 12) (.t 13)) .unit,
  .p (.load 15 (.t 14) 1 false) .unit,
  .p (.bin 16 false .eql (.t 11) (.t 15)) .unit])
 (.cond (.t 16) (.seq (.reg none [.p (.mv 17 (.t 5)) .unit,
  .p (.mv 4 (.t 17)) .unit])
 .ret) .skip))))
 (.reg none [.p (.bin 18 false .add (.t 8) (.c (.int .i64 1))) .unit,
  .p (.mv 8 (.t 18)) .unit]))))
noncomputable def L_slices_Index___int_int__1 : Nat → (List (Int)) × (Int) × (Int) × Int → Option ((Unit) ⊕ (Int)) := evL [] (finT [.t 4] [] [.cell (.int .i64)]) 0 ⟨[(0, true), (1, true), (7, false), (8, false)], [.cell (.sl false (.int .i64)), .cell (.int .i64), .cell (.int .i64), .cell (.int .i64)]⟩ ⟨[], []⟩ B_slices_Index___int_int__1
def F_slices_Index___int_int_ : TF := ⟨(.seq (.reg none [.p (.mv 4 (.c (.int .i64 0))) .unit])
 (.seq (.seq (.reg none [.p (.mv 6 (.t 0)) .unit,
  .p (.lenB 7 (.t 6)) .unit,
  .p (.mv 8 (.c (.int .i64 0))) .unit])
 (.jl 0 ⟨[(0, true), (1, true), (7, false), (8, false)], [.cell (.sl false (.int .i64)), .cell (.int .i64), .cell (.int .i64), .cell (.int .i64)]⟩ ⟨[], []⟩ B_slices_Index___int_int__1))
 (.seq (.reg none [.p (.mv 4 (.c (.int .i64 (-1)))) .unit])
 .ret))),
 19, 2, [.t 4]⟩
theorem m_slices_Index___int_int_ : mH Tryd.prog 47 [] = some (F_slices_Index___int_int_.code.x, F_slices_Index___int_int_.N, F_slices_Index___int_int_.np, F_slices_Index___int_int_.res) := by kernel_rfl
noncomputable def T_slices_Index___int_int_ : (List (Int)) × Int → Option (Int) := evF [] F_slices_Index___int_int_ [.cell (.sl false (.int .i64)), .cell (.int .i64)] [] [.cell (.int .i64)] []
noncomputable def fn_slices_Index___int_int_ : TFn := ⟨47, [.cell (.sl false (.int .i64)), .cell (.int .i64)], [], [.cell (.int .i64)], [], T_slices_Index___int_int_⟩
theorem ok_slices_Index___int_int_ : FnOk Tryd.prog fn_slices_Index___int_int_ := evF_ok mixed allOk_nil m_slices_Index___int_int_ (by decide)
def F_slices_Contains___int_int_ : TF := ⟨(.seq (.reg none [.p (.mv 4 (.c (.bool false))) .unit])
 (.seq (.reg none [.p (.mv 5 (.t 0)) .unit,
  .p (.mv 6 (.t 1)) .unit,
  .p (.callB 7 n_slices_Index___int_int_ [((.t 5), 0), ((.t 6), 0)]) .unit,
  .p (.bin 8 false .geq (.t 7) (.c (.int .i64 0))) .unit,
  .p (.mv 4 (.t 8)) .unit])
 .ret)),
 9, 2, [.t 4]⟩
theorem m_slices_Contains___int_int_ : mH Tryd.prog 28 [] = some (F_slices_Contains___int_int_.code.x, F_slices_Contains___int_int_.N, F_slices_Contains___int_int_.np, F_slices_Contains___int_int_.res) := by kernel_rfl
noncomputable def T_slices_Contains___int_int_ : (List (Int)) × Int → Option (Bool) := evF [fn_slices_Index___int_int_] F_slices_Contains___int_int_ [.cell (.sl false (.int .i64)), .cell (.int .i64)] [] [.cell .bool] []
noncomputable def fn_slices_Contains___int_int_ : TFn := ⟨28, [.cell (.sl false (.int .i64)), .cell (.int .i64)], [], [.cell .bool], [], T_slices_Contains___int_int_⟩
theorem ok_slices_Contains___int_int_ : FnOk Tryd.prog fn_slices_Contains___int_int_ := evF_ok mixed (allOk_cons ok_slices_Index___int_int_ allOk_nil) m_slices_Contains___int_int_ (by decide)
def F_impl_Keep_1 : TF := ⟨(.seq (.reg none [.p (.mv 5 (.c (.bool false))) .unit])
 (.seq (.reg none [.p (.mv 10 (.t 1)) .unit,
  .p (.callB 11 n_impl_SplitPrivate [((.t 10), 0)]) .unit,
  .p (.mv 9 (.t 11)) .unit,
  .p (.ext 12 (.t 9) 0) .unit,
  .p (.ext 13 (.t 9) 1) .unit,
  .p (.ext 14 (.t 9) 2) .unit,
  .p (.mv 6 (.t 12)) .unit,
  .p (.mv 7 (.t 13)) .unit,
  .p (.mv 8 (.t 14)) .unit])
 (.seq (.reg none [.p (.mv 15 (.t 8)) .unit,
  .p (.mv 16 (.t 15)) .unit,
  .g 16 true (some 17) (.load 17 (.t 2) 1 false) .unit,
  .g 16 true (some 18) (.mv 18 (.t 6)) .unit,
  .g 16 true (some 19) (.callB 19 n_slices_Contains___int_int_ [((.t 17), 0), ((.t 18), 0)]) .unit,
  .p (.pick 20 (.t 16) (.t 19) (.c (.bool false))) .unit,
  .p (.mv 5 (.t 20)) .unit])
 .ret))),
 21, 3, [.t 5]⟩
theorem m_impl_Keep_1 : mH Tryd.prog 26 [] = some (F_impl_Keep_1.code.x, F_impl_Keep_1.N, F_impl_Keep_1.np, F_impl_Keep_1.res) := by kernel_rfl
noncomputable def T_impl_Keep_1 : (List UInt8) × (List UInt8) × List (Int) → Option (Bool) := evF [fn_impl_SplitPrivate, fn_slices_Contains___int_int_] F_impl_Keep_1 [.cell .str, .cell .str, .rp (.sl false (.int .i64))] [] [.cell .bool] []
noncomputable def fn_impl_Keep_1 : TFn := ⟨26, [.cell .str, .cell .str, .rp (.sl false (.int .i64))], [], [.cell .bool], [], T_impl_Keep_1⟩
theorem ok_impl_Keep_1 : FnOk Tryd.prog fn_impl_Keep_1 := evF_ok mixed (allOk_cons ok_impl_SplitPrivate (allOk_cons ok_slices_Contains___int_int_ allOk_nil)) m_impl_Keep_1 (by decide)
def F___impl_Table__keep_1__impl_Keep_1 : TF := ⟨(.seq (.reg none [.p (.mv 4 (.c (.bool false))) .unit])
 (.seq (.reg none [.p (.load 5 (.t 1) 1 false) .unit,
  .p (.fadr 6 (.t 2) 0) .unit,
  .p (.load 7 (.t 6) 1 false) .unit,
  .p (.mv 8 (.t 0)) .unit,
  .p (.callF 9 (.t 5) [(.t 7), (.t 8)]) .unit,
  .p (.un 10 .not (.t 9)) .unit,
  .p (.mv 4 (.t 10)) .unit])
 .ret)),
 11, 3, [.t 4]⟩
theorem m___impl_Table__keep_1__impl_Keep_1 : mH Tryd.prog 43 [] = some (F___impl_Table__keep_1__impl_Keep_1.code.x, F___impl_Table__keep_1__impl_Keep_1.N, F___impl_Table__keep_1__impl_Keep_1.np, F___impl_Table__keep_1__impl_Keep_1.res) := by kernel_rfl
noncomputable def T___impl_Table__keep_1__impl_Keep_1 : (List UInt8) × (List (Int)) × List UInt8 × Unit → Option (Bool) := evF [fn_impl_Keep_1] F___impl_Table__keep_1__impl_Keep_1 [.cell .str, .rp (.fn 26 (.rp (.sl false (.int .i64)))), .rp (.pair .str .hl)] [] [.cell .bool] []
noncomputable def fn___impl_Table__keep_1__impl_Keep_1 : TFn := ⟨43, [.cell .str, .rp (.fn 26 (.rp (.sl false (.int .i64)))), .rp (.pair .str .hl)], [], [.cell .bool], [], T___impl_Table__keep_1__impl_Keep_1⟩
theorem ok___impl_Table__keep_1__impl_Keep_1 : FnOk Tryd.prog fn___impl_Table__keep_1__impl_Keep_1 := evF_ok mixed (allOk_cons ok_impl_Keep_1 allOk_nil) m___impl_Table__keep_1__impl_Keep_1 (by decide)
def B_slices_IndexFunc___string_string_____impl_Table__keep_1__impl_Keep_1_1 : TC := (.seq (.reg none [.p (.bin 9 false .lss (.t 8) (.t 7)) .unit])
 (.seq (.cond (.t 9) .skip (.exit 0))
 (.seq (.block 1 (.seq (.reg none [.p (.mv 10 (.t 8)) .unit,
  .p (.mv 5 (.t 10)) .unit])
 (.seq (.reg none [.p (.mv 11 (.t 1)) .unit,
  .p (.mv 12 (.t 0)) .unit,
  .p (.mv 13 (.t 5)) .unit,
  .p (.iadr 14 1 (.t 12) (.t 13)) .unit,
  .p (.load 15 (.t 14) 1 false) .unit,
  .p (.callF 16 (.t 11) [(.t 15)]) .unit])
 (.cond (.t 16) (.seq (.reg none [.p (.mv 17 (.t 5)) .unit,
  .p (.mv 4 (.t 17)) .unit])
 .ret) .skip))))
 (.reg none [.p (.bin 18 false .add (.t 8) (.c (.int .i64 1))) .unit,
  .p (.mv 8 (.t 18)) .unit]))))
noncomputable def L_slices_IndexFunc___string_string_____impl_Table__keep_1__impl_Keep_1_1 : Nat → (List (List UInt8)) × (List (Int) × List UInt8 × Unit) × (Int) × Int → Option ((Unit) ⊕ (Int)) := evL [fn___impl_Table__keep_1__impl_Keep_1] (finT [.t 4] [] [.cell (.int .i64)]) 0 ⟨[(0, true), (1, true), (7, false), (8, false)], [.cell (.sl false .str), .cell (.fn 43 (.pair (.rp (.fn 26 (.rp (.sl false (.int .i64))))) (.rp (.pair .str .hl)))), .cell (.int .i64), .cell (.int .i64)]⟩ ⟨[], []⟩ B_slices_IndexFunc___string_string_____impl_Table__keep_1__impl_Keep_1_1
def F_slices_IndexFunc___string_string_____impl_Table__keep_1__impl_Keep_1 : TF := ⟨(.seq (.reg none [.p (.mv 4 (.c (.int .i64 0))) .unit])
 (.seq (.seq (.reg none [.p (.mv 6 (.t 0)) .unit,
  .p (.lenB 7 (.t 6)) .unit,
  .p (.mv 8 (.c (.int .i64 0))) .unit])
 (.jl 0 ⟨[(0, true), (1, true), (7, false), (8, false)], [.cell (.sl false .str), .cell (.fn 43 (.pair (.rp (.fn 26 (.rp (.sl false (.int .i64))))) (.rp (.pair .str .hl)))), .cell (.int .i64), .cell (.int .i64)]⟩ ⟨[], []⟩ B_slices_IndexFunc___string_string_____impl_Table__keep_1__impl_Keep_1_1))
 (.seq (.reg none [.p (.mv 4 (.c (.int .i64 (-1)))) .unit])
 .ret))),
 19, 2, [.t 4]⟩
theorem m_slices_IndexFunc___string_string_____impl_Table__keep_1__impl_Keep_1 : mH Tryd.prog 61 [] = some (F_slices_IndexFunc___string_string_____impl_Table__keep_1__impl_Keep_1.code.x, F_slices_IndexFunc___string_string_____impl_Table__keep_1__impl_Keep_1.N, F_slices_IndexFunc___string_string_____impl_Table__keep_1__impl_Keep_1.np, F_slices_IndexFunc___string_string_____impl_Table__keep_1__impl_Keep_1.res) := by kernel_rfl
noncomputable def T_slices_IndexFunc___string_string_____impl_Table__keep_1__impl_Keep_1 : (List (List UInt8)) × List (Int) × List UInt8 × Unit → Option (Int) := evF [fn___impl_Table__keep_1__impl_Keep_1] F_slices_IndexFunc___string_string_____impl_Table__keep_1__impl_Keep_1 [.cell (.sl false .str), .cell (.fn 43 (.pair (.rp (.fn 26 (.rp (.sl false (.int .i64))))) (.rp (.pair .str .hl))))] [] [.cell (.int .i64)] []
noncomputable def fn_slices_IndexFunc___string_string_____impl_Table__keep_1__impl_Keep_1 : TFn := ⟨61, [.cell (.sl false .str), .cell (.fn 43 (.pair (.rp (.fn 26 (.rp (.sl false (.int .i64))))) (.rp (.pair .str .hl))))], [], [.cell (.int .i64)], [], T_slices_IndexFunc___string_string_____impl_Table__keep_1__impl_Keep_1⟩
theorem ok_slices_IndexFunc___string_string_____impl_Table__keep_1__impl_Keep_1 : FnOk Tryd.prog fn_slices_IndexFunc___string_string_____impl_Table__keep_1__impl_Keep_1 := evF_ok mixed (allOk_cons ok___impl_Table__keep_1__impl_Keep_1 allOk_nil) m_slices_IndexFunc___string_string_____impl_Table__keep_1__impl_Keep_1 (by decide)
def B_slices_DeleteFunc___string_string_____impl_Table__keep_1__impl_Keep_1_1 : TC := (.seq (.seq (.reg none [.p (.mv 16 (.t 6)) .unit,
  .p (.mvA 17 0) .unit,
  .p (.lenB 18 (.t 17)) .unit,
  .p (.bin 19 false .lss (.t 16) (.t 18)) .unit])
 (.cond (.t 19) .skip (.exit 0)))
 (.seq (.join ⟨[(0, true), (1, true), (5, false), (6, false)], [.cell (.sl true .str), .cell (.fn 43 (.pair (.rp (.fn 26 (.rp (.sl false (.int .i64))))) (.rp (.pair .str .hl)))), .cell (.int .i64), .cell (.int .i64)]⟩ (.block 1 (.seq (.reg none [.p (.mvA 22 0) .unit,
  .p (.mv 23 (.t 6)) .unit,
  .p (.iadr 24 1 (.t 22) (.t 23)) .unit,
  .p (.load 25 (.t 24) 1 false) .unit,
  .p (.mv 7 (.t 25)) .unit])
 (.seq (.reg none [.p (.mv 26 (.t 1)) .unit,
  .p (.mv 27 (.t 7)) .unit,
  .p (.callF 28 (.t 26) [(.t 27)]) .unit,
  .p (.un 29 .not (.t 28)) .unit])
 (.cond (.t 29) (.seq (.reg none [.p (.mvA 30 0) .unit,
  .p (.mv 31 (.t 5)) .unit,
  .p (.mv 32 (.t 7)) .unit,
  .p (.iadr 33 1 (.t 30) (.t 31)) .unit,
  .p (.store (.t 33) (.t 32) 1) .unit])
 (.reg none [.p (.mv 34 (.t 5)) .unit,
  .p (.bin 35 false .add (.t 34) (.c (.int .i64 1))) .unit,
  .p (.mv 5 (.t 35)) .unit])) .skip)))))
 (.reg none [.p (.mv 20 (.t 6)) .unit,
  .p (.bin 21 false .add (.t 20) (.c (.int .i64 1))) .unit,
  .p (.mv 6 (.t 21)) .unit])))
noncomputable def L_slices_DeleteFunc___string_string_____impl_Table__keep_1__impl_Keep_1_1 : Nat → (List (List UInt8)) × (List (Int) × List UInt8 × Unit) × (Int) × Int → Option (((List (List UInt8)) × Int) ⊕ (List (List UInt8))) := evL [fn_slices_IndexFunc___string_string_____impl_Table__keep_1__impl_Keep_1, fn___impl_Table__keep_1__impl_Keep_1] (finT [.t 4] [] [.cell (.sl true .str)]) 0 ⟨[(0, true), (1, true), (5, false), (6, false)], [.cell (.sl true .str), .cell (.fn 43 (.pair (.rp (.fn 26 (.rp (.sl false (.int .i64))))) (.rp (.pair .str .hl)))), .cell (.int .i64), .cell (.int .i64)]⟩ ⟨[(0, true), (5, false)], [.cell (.sl true .str), .cell (.int .i64)]⟩ B_slices_DeleteFunc___string_string_____impl_Table__keep_1__impl_Keep_1_1
def F_slices_DeleteFunc___string_string_____impl_Table__keep_1__impl_Keep_1 : TF := ⟨(.seq (.reg none [.p (.mvN 4 1) .unit])
 (.seq (.reg none [.p (.mvA 8 0) .unit,
  .p (.mv 9 (.t 1)) .unit,
  .p (.callB 10 n_slices_IndexFunc___string_string_ [((.t 8), 0), ((.t 9), 0)]) .unit,
  .p (.mv 5 (.t 10)) .unit])
 (.seq (.seq (.reg none [.p (.mv 11 (.t 5)) .unit,
  .p (.bin 12 false .eql (.t 11) (.c (.int .i64 (-1)))) .unit])
 (.cond (.t 12) (.seq (.reg none [.p (.mvT 13 0) .unit,
  .p (.mvT 4 13) .unit])
 .ret) .skip))
 (.seq (.seq (.reg none [.p (.mv 14 (.t 5)) .unit,
  .p (.bin 15 false .add (.t 14) (.c (.int .i64 1))) .unit,
  .p (.mv 6 (.t 15)) .unit])
 (.jl 0 ⟨[(0, true), (1, true), (5, false), (6, false)], [.cell (.sl true .str), .cell (.fn 43 (.pair (.rp (.fn 26 (.rp (.sl false (.int .i64))))) (.rp (.pair .str .hl)))), .cell (.int .i64), .cell (.int .i64)]⟩ ⟨[(0, true), (5, false)], [.cell (.sl true .str), .cell (.int .i64)]⟩ B_slices_DeleteFunc___string_string_____impl_Table__keep_1__impl_Keep_1_1))
 (.seq (.reg none [.p (.mvA 36 0) .unit,
  .p (.mv 37 (.t 5)) .unit,
  .p (.tlS 38 1 (.t 36) (some (.t 37))) .unit,
  .p (.clr (.t 38) [(.lit (.string (ba [])))]) .unit])
 (.seq (.reg none [.p (.mvT 39 0) .unit,
  .p (.mv 40 (.t 5)) .unit,
  .p (.cutT 41 1 39 none (some (.t 40))) .unit,
  .p (.mvT 4 41) .unit])
 .ret)))))),
 42, 2, [.t 4]⟩
theorem m_slices_DeleteFunc___string_string_____impl_Table__keep_1__impl_Keep_1 : mH Tryd.prog 42 [(1, 0, .v), (3, 0, .t), (3, 1, .t), (5, 1, .v), (7, 0, .v), (9, 0, .v), (11, 0, .v), (11, 2, .tl), (12, 0, .t), (12, 2, .t), (12, 3, .t)] = some (F_slices_DeleteFunc___string_string_____impl_Table__keep_1__impl_Keep_1.code.x, F_slices_DeleteFunc___string_string_____impl_Table__keep_1__impl_Keep_1.N, F_slices_DeleteFunc___string_string_____impl_Table__keep_1__impl_Keep_1.np, F_slices_DeleteFunc___string_string_____impl_Table__keep_1__impl_Keep_1.res) := by kernel_rfl
noncomputable def T_slices_DeleteFunc___string_string_____impl_Table__keep_1__impl_Keep_1 : (List (List UInt8)) × List (Int) × List UInt8 × Unit → Option (List (List UInt8)) := evF [fn_slices_IndexFunc___string_string_____impl_Table__keep_1__impl_Keep_1, fn___impl_Table__keep_1__impl_Keep_1] F_slices_DeleteFunc___string_string_____impl_Table__keep_1__impl_Keep_1 [.cell (.sl true .str), .cell (.fn 43 (.pair (.rp (.fn 26 (.rp (.sl false (.int .i64))))) (.rp (.pair .str .hl))))] [] [.cell (.sl true .str)] []
noncomputable def fn_slices_DeleteFunc___string_string_____impl_Table__keep_1__impl_Keep_1 : TFn := ⟨42, [.cell (.sl true .str), .cell (.fn 43 (.pair (.rp (.fn 26 (.rp (.sl false (.int .i64))))) (.rp (.pair .str .hl))))], [], [.cell (.sl true .str)], [], T_slices_DeleteFunc___string_string_____impl_Table__keep_1__impl_Keep_1⟩
theorem ok_slices_DeleteFunc___string_string_____impl_Table__keep_1__impl_Keep_1 : FnOk Tryd.prog fn_slices_DeleteFunc___string_string_____impl_Table__keep_1__impl_Keep_1 := evF_ok mixed (allOk_cons ok_slices_IndexFunc___string_string_____impl_Table__keep_1__impl_Keep_1 (allOk_cons ok___impl_Table__keep_1__impl_Keep_1 allOk_nil)) m_slices_DeleteFunc___string_string_____impl_Table__keep_1__impl_Keep_1 (by decide)
def B___impl_Table__keep__impl_Keep_1_1 : TC := (.seq (.reg none [.p (.bin 13 false .lss (.t 12) (.t 11)) .unit])
 (.seq (.cond (.t 13) .skip (.exit 0))
 (.seq (.join ⟨[(0, true), (3, false), (4, false), (10, false), (11, false), (12, false)], [.box .hl, .rp (.fn 26 (.rp (.sl false (.int .i64)))), .cell (.sl true (.pair .str (.sl true .str))), .cell (.sl true (.pair .str (.ho true .str))), .cell (.int .i64), .cell (.int .i64)]⟩ (.block 1 (.seq (.reg none [.p (.iadr 14 2 (.t 10) (.t 12)) .unit,
  .p (.loadT 15 (.t 14) 2 true) .unit,
  .p (.alloc 6 [(.lit (.string (ba []))), (.sl true 1 [])]) .unit,
  .p (.storeT (.t 6) 15 2) .unit])
 (.seq (.reg none [.p (.fadr 16 (.t 6) 1) .unit,
  .p (.loadT 17 (.t 16) 1 false) .unit,
  .p (.mkF 18 43 [(.t 3), (.t 6)]) .unit,
  .p (.callM 19 n_slices_DeleteFunc___string_string_ [] (.tmp 17) [((.t 18), 0)]) .unit,
  .p (.fadr 20 (.t 6) 1) .unit,
  .p (.storeT (.t 20) 19 1) .unit])
 (.seq (.reg none [.p (.fadr 21 (.t 6) 1) .unit,
  .p (.load 22 (.t 21) 1 false) .unit,
  .p (.lenB 23 (.t 22)) .unit,
  .p (.bin 24 false .gtr (.t 23) (.c (.int .i64 0))) .unit])
 (.cond (.t 24) (.reg none [.p (.mvT 25 4) .unit,
  .p (.loadT 26 (.t 6) 2 true) .unit,
  .p (.bldS 27 1 [(.lit (.string (ba []))), (.sl true 1 [])] [⟨0, 2, (.t 26)⟩]) (.pair .str (.sl true .str)),
  .p (.appT 28 2 40 (.t 25) 27) (.pair .str (.sl true .str)),
  .p (.mvT 4 28) .unit]) .skip))))))
 (.reg none [.p (.bin 29 false .add (.t 12) (.c (.int .i64 1))) .unit,
  .p (.mv 12 (.t 29)) .unit]))))
noncomputable def L___impl_Table__keep__impl_Keep_1_1 : Nat → (Unit) × (List (Int)) × (List (List UInt8 × List (List UInt8))) × (List (List UInt8 × Option (List (List UInt8)))) × (Int) × Int → Option (((Unit) × List (List UInt8 × List (List UInt8))) ⊕ (List (List UInt8 × List (List UInt8)))) := evL [fn___impl_Table__keep_1__impl_Keep_1, fn_slices_DeleteFunc___string_string_____impl_Table__keep_1__impl_Keep_1, fn_impl_Keep_1] (finT [] [0] [.box (.sl true (.pair .str (.sl true .str)))]) 0 ⟨[(0, true), (3, false), (4, false), (10, false), (11, false), (12, false)], [.box .hl, .rp (.fn 26 (.rp (.sl false (.int .i64)))), .cell (.sl true (.pair .str (.sl true .str))), .cell (.sl true (.pair .str (.ho true .str))), .cell (.int .i64), .cell (.int .i64)]⟩ ⟨[(0, true), (4, false)], [.box .hl, .cell (.sl true (.pair .str (.sl true .str)))]⟩ B___impl_Table__keep__impl_Keep_1_1
def F___impl_Table__keep__impl_Keep_1 : TF := ⟨(.seq (.reg none [.p (.boxZ 3 (.t 1)) .unit])
 (.seq (.reg none [.p (.mvN 4 2) .unit])
 (.seq (.seq (.reg none [.p (.mvP 7 0) .unit,
  .p (.nilck 8 (.t 7)) .unit,
  .p (.fadr 9 (.t 8) 0) .unit,
  .p (.loadT 10 (.t 9) 1 false) .unit,
  .p (.lenB 11 (.t 10)) .unit,
  .p (.mv 12 (.c (.int .i64 0))) .unit])
 (.jl 0 ⟨[(0, true), (3, false), (4, false), (10, false), (11, false), (12, false)], [.box .hl, .rp (.fn 26 (.rp (.sl false (.int .i64)))), .cell (.sl true (.pair .str (.sl true .str))), .cell (.sl true (.pair .str (.ho true .str))), .cell (.int .i64), .cell (.int .i64)]⟩ ⟨[(0, true), (4, false)], [.box .hl, .cell (.sl true (.pair .str (.sl true .str)))]⟩ B___impl_Table__keep__impl_Keep_1_1))
 (.reg none [.p (.mvP 30 0) .unit,
  .p (.mvT 31 4) .unit,
  .p (.nilck 32 (.t 30)) .unit,
  .p (.fadr 33 (.t 32) 0) .unit,
  .p (.storeT (.t 33) 31 1) .unit])))),
 34, 2, []⟩
theorem m___impl_Table__keep__impl_Keep_1 : mH Tryd.prog 25 [(0, 0, .z), (2, 0, (.ms 0)), (2, 3, .t), (4, 1, .t), (4, 3, .t), (5, 1, .t), (5, 3, (.m 0)), (5, 5, .t), (7, 0, .t), (7, 1, .t), (7, 3, .t), (7, 4, .t), (9, 0, (.ms 0)), (9, 1, .t), (9, 4, .t)] = some (F___impl_Table__keep__impl_Keep_1.code.x, F___impl_Table__keep__impl_Keep_1.N, F___impl_Table__keep__impl_Keep_1.np, F___impl_Table__keep__impl_Keep_1.res) := by kernel_rfl
noncomputable def T___impl_Table__keep__impl_Keep_1 : (List (List UInt8 × List (List UInt8))) × List (Int) → Option (List (List UInt8 × List (List UInt8))) := evF [fn___impl_Table__keep_1__impl_Keep_1, fn_slices_DeleteFunc___string_string_____impl_Table__keep_1__impl_Keep_1, fn_impl_Keep_1] F___impl_Table__keep__impl_Keep_1 [.box (.sl true (.pair .str (.sl true .str))), .cell (.fn 26 (.rp (.sl false (.int .i64))))] [0] [] [.box (.sl true (.pair .str (.sl true .str)))]
noncomputable def fn___impl_Table__keep__impl_Keep_1 : TFn := ⟨25, [.box (.sl true (.pair .str (.sl true .str))), .cell (.fn 26 (.rp (.sl false (.int .i64))))], [0], [], [.box (.sl true (.pair .str (.sl true .str)))], T___impl_Table__keep__impl_Keep_1⟩
theorem ok___impl_Table__keep__impl_Keep_1 : FnOk Tryd.prog fn___impl_Table__keep__impl_Keep_1 := evF_ok mixed (allOk_cons ok___impl_Table__keep_1__impl_Keep_1 (allOk_cons ok_slices_DeleteFunc___string_string_____impl_Table__keep_1__impl_Keep_1 (allOk_cons ok_impl_Keep_1 allOk_nil))) m___impl_Table__keep__impl_Keep_1 (by decide)
def B_impl_Keep_1 : TC := (.seq (.reg none [.p (.bin 13 false .lss (.t 12) (.t 11)) .unit])
 (.seq (.cond (.t 13) .skip (.exit 0))
 (.seq (.block 1 (.seq (.reg none [.p (.iadr 14 2 (.t 10) (.t 12)) .unit,
  .p (.loadT 15 (.t 14) 2 true) .unit,
  .p (.alloc 7 [(.lit (.string (ba []))), (.sl true 1 [])]) .unit,
  .p (.storeT (.t 7) 15 2) .unit])
 (.reg none [.p (.loadT 16 (.t 7) 2 true) .unit,
  .p (.callM 17 n___impl_Table__put [] (.tmp2 5 16) []) .unit])))
 (.reg none [.p (.bin 18 false .add (.t 12) (.c (.int .i64 1))) .unit,
  .p (.mv 12 (.t 18)) .unit]))))
noncomputable def L_impl_Keep_1 : Nat → (List (Int)) × (List (List UInt8 × List (List UInt8))) × (List (List UInt8 × List (List UInt8))) × (List (List UInt8 × Option (List (List UInt8)))) × (Int) × Int → Option (((List (Int)) × (List (List UInt8 × List (List UInt8))) × List (List UInt8 × List (List UInt8))) ⊕ (List (List UInt8 × List (List UInt8)))) := evL [fn_impl_copyTable, fn___impl_Table__put, fn_impl_Keep_1, fn___impl_Table__keep__impl_Keep_1] (finT [.c 4 1 true] [] [.agg (.sl true (.pair .str (.sl true .str)))]) 0 ⟨[(3, false), (4, false), (5, false), (10, false), (11, false), (12, false)], [.box (.sl false (.int .i64)), .box (.sl true (.pair .str (.sl true .str))), .box (.sl true (.pair .str (.sl true .str))), .cell (.sl true (.pair .str (.ho true .str))), .cell (.int .i64), .cell (.int .i64)]⟩ ⟨[(3, false), (4, false), (5, false)], [.box (.sl false (.int .i64)), .box (.sl true (.pair .str (.sl true .str))), .box (.sl true (.pair .str (.sl true .str)))]⟩ B_impl_Keep_1
def F_impl_Keep : TF := ⟨(.seq (.reg none [.p (.box 2 (.t 0)) .unit,
  .p (.box 3 (.t 1)) .unit,
  .p (.alloc 4 [(.sl true 2 [])]) .unit])
 (.seq (.reg none [.p (.alloc 5 [(.sl true 2 [])]) .unit])
 (.seq (.seq (.reg none [.p (.load 8 (.t 2) 1 true) .unit,
  .p (.callB 9 n_impl_copyTable [((.t 8), 0)]) .unit,
  .p (.fldT 10 9 0 1 false) .unit,
  .p (.lenB 11 (.t 10)) .unit,
  .p (.mv 12 (.c (.int .i64 0))) .unit])
 (.jl 0 ⟨[(3, false), (4, false), (5, false), (10, false), (11, false), (12, false)], [.box (.sl false (.int .i64)), .box (.sl true (.pair .str (.sl true .str))), .box (.sl true (.pair .str (.sl true .str))), .cell (.sl true (.pair .str (.ho true .str))), .cell (.int .i64), .cell (.int .i64)]⟩ ⟨[(3, false), (4, false), (5, false)], [.box (.sl false (.int .i64)), .box (.sl true (.pair .str (.sl true .str))), .box (.sl true (.pair .str (.sl true .str)))]⟩ B_impl_Keep_1))
 (.seq (.reg none [.p (.mkF 19 26 [(.t 3)]) .unit,
  .p (.callM 20 n___impl_Table__keep [] (.tmp 5) [((.t 19), 0)]) .unit])
 (.seq (.reg none [.p (.loadT 21 (.t 5) 1 true) .unit,
  .p (.storeT (.t 4) 21 1) .unit])
 .ret))))),
 22, 2, [.c 4 1 true]⟩
theorem m_impl_Keep : mH Tryd.prog 9 [(2, 2, .t), (4, 1, .t), (4, 3, .t), (5, 0, .t), (5, 1, (.m2 0)), (7, 1, (.m 0)), (8, 0, .t), (8, 1, .t)] = some (F_impl_Keep.code.x, F_impl_Keep.N, F_impl_Keep.np, F_impl_Keep.res) := by kernel_rfl
noncomputable def T_impl_Keep : (List (List UInt8 × List (List UInt8))) × List (Int) → Option (List (List UInt8 × List (List UInt8))) := evF [fn_impl_copyTable, fn___impl_Table__put, fn_impl_Keep_1, fn___impl_Table__keep__impl_Keep_1] F_impl_Keep [.agg (.sl false (.pair .str (.sl false .str))), .cell (.sl false (.int .i64))] [] [.agg (.sl true (.pair .str (.sl true .str)))] []
noncomputable def fn_impl_Keep : TFn := ⟨9, [.agg (.sl false (.pair .str (.sl false .str))), .cell (.sl false (.int .i64))], [], [.agg (.sl true (.pair .str (.sl true .str)))], [], T_impl_Keep⟩
theorem ok_impl_Keep : FnOk Tryd.prog fn_impl_Keep := evF_ok mixed (allOk_cons ok_impl_copyTable (allOk_cons ok___impl_Table__put (allOk_cons ok_impl_Keep_1 (allOk_cons ok___impl_Table__keep__impl_Keep_1 allOk_nil)))) m_impl_Keep (by decide)
def B_laws_eqStringS_1 : TC := (.seq (.seq (.reg none [.p (.mv 11 (.t 5)) .unit,
  .p (.mv 12 (.t 0)) .unit,
  .p (.lenB 13 (.t 12)) .unit,
  .p (.bin 14 false .lss (.t 11) (.t 13)) .unit])
 (.cond (.t 14) .skip (.exit 0)))
 (.seq (.block 1 (.seq (.reg (some [[], [], [0, 1], [2], [], [], [4, 5], [6], [3, 7]]) [.p (.mv 17 (.t 0)) .unit,
  .p (.mv 18 (.t 5)) .unit,
  .p (.iadr 19 1 (.t 17) (.t 18)) .unit,
  .p (.load 20 (.t 19) 1 false) .unit,
  .p (.mv 21 (.t 1)) .unit,
  .p (.mv 22 (.t 5)) .unit,
  .p (.iadr 23 1 (.t 21) (.t 22)) .unit,
  .p (.load 24 (.t 23) 1 false) .unit,
  .p (.bin 25 false .neq (.t 20) (.t 24)) .unit])
 (.cond (.t 25) (.seq (.reg none [.p (.mv 4 (.c (.bool false))) .unit])
 .ret) .skip)))
 (.reg none [.p (.mv 15 (.t 5)) .unit,
  .p (.bin 16 false .add (.t 15) (.c (.int .i64 1))) .unit,
  .p (.mv 5 (.t 16)) .unit])))
noncomputable def L_laws_eqStringS_1 : Nat → (List (List UInt8)) × (List (List UInt8)) × Int → Option ((Unit) ⊕ (Bool)) := evL [] (finT [.t 4] [] [.cell .bool]) 0 ⟨[(0, true), (1, true), (5, false)], [.cell (.sl false .str), .cell (.sl false .str), .cell (.int .i64)]⟩ ⟨[], []⟩ B_laws_eqStringS_1
def F_laws_eqStringS : TF := ⟨(.seq (.reg none [.p (.mv 4 (.c (.bool false))) .unit])
 (.seq (.seq (.reg none [.p (.mv 6 (.t 0)) .unit,
  .p (.lenB 7 (.t 6)) .unit,
  .p (.mv 8 (.t 1)) .unit,
  .p (.lenB 9 (.t 8)) .unit,
  .p (.bin 10 false .neq (.t 7) (.t 9)) .unit])
 (.cond (.t 10) (.seq (.reg none [.p (.mv 4 (.c (.bool false))) .unit])
 .ret) .skip))
 (.seq (.seq (.reg none [.p (.mv 5 (.c (.int .i64 0))) .unit])
 (.jl 0 ⟨[(0, true), (1, true), (5, false)], [.cell (.sl false .str), .cell (.sl false .str), .cell (.int .i64)]⟩ ⟨[], []⟩ B_laws_eqStringS_1))
 (.seq (.reg none [.p (.mv 4 (.c (.bool true))) .unit])
 .ret)))),
 26, 2, [.t 4]⟩
theorem m_laws_eqStringS : mH Tryd.prog 65 [] = some (F_laws_eqStringS.code.x, F_laws_eqStringS.N, F_laws_eqStringS.np, F_laws_eqStringS.res) := by kernel_rfl
noncomputable def T_laws_eqStringS : (List (List UInt8)) × List (List UInt8) → Option (Bool) := evF [] F_laws_eqStringS [.cell (.sl false .str), .cell (.sl false .str)] [] [.cell .bool] []
noncomputable def fn_laws_eqStringS : TFn := ⟨65, [.cell (.sl false .str), .cell (.sl false .str)], [], [.cell .bool], [], T_laws_eqStringS⟩
theorem ok_laws_eqStringS : FnOk Tryd.prog fn_laws_eqStringS := evF_ok mixed allOk_nil m_laws_eqStringS (by decide)
def F_laws_eqGroup : TF := ⟨(.seq (.reg none [.p (.box 2 (.t 0)) .unit,
  .p (.box 3 (.t 1)) .unit,
  .p (.mv 4 (.c (.bool false))) .unit])
 (.seq (.seq (.reg none [.p (.fadr 5 (.t 2) 0) .unit,
  .p (.load 6 (.t 5) 1 false) .unit,
  .p (.fadr 7 (.t 3) 0) .unit,
  .p (.load 8 (.t 7) 1 false) .unit,
  .p (.bin 9 false .neq (.t 6) (.t 8)) .unit])
 (.cond (.t 9) (.seq (.reg none [.p (.mv 4 (.c (.bool false))) .unit])
 .ret) .skip))
 (.seq (.seq (.reg none [.p (.fadr 10 (.t 2) 1) .unit,
  .p (.load 11 (.t 10) 1 false) .unit,
  .p (.fadr 12 (.t 3) 1) .unit,
  .p (.load 13 (.t 12) 1 false) .unit,
  .p (.callB 14 n_laws_eqStringS [((.t 11), 0), ((.t 13), 0)]) .unit,
  .p (.un 15 .not (.t 14)) .unit])
 (.cond (.t 15) (.seq (.reg none [.p (.mv 4 (.c (.bool false))) .unit])
 .ret) .skip))
 (.seq (.reg none [.p (.mv 4 (.c (.bool true))) .unit])
 .ret)))),
 16, 2, [.t 4]⟩
theorem m_laws_eqGroup : mH Tryd.prog 48 [] = some (F_laws_eqGroup.code.x, F_laws_eqGroup.N, F_laws_eqGroup.np, F_laws_eqGroup.res) := by kernel_rfl
noncomputable def T_laws_eqGroup : (List UInt8 × List (List UInt8)) × List UInt8 × List (List UInt8) → Option (Bool) := evF [fn_laws_eqStringS] F_laws_eqGroup [.agg (.pair .str (.sl false .str)), .agg (.pair .str (.sl false .str))] [] [.cell .bool] []
noncomputable def fn_laws_eqGroup : TFn := ⟨48, [.agg (.pair .str (.sl false .str)), .agg (.pair .str (.sl false .str))], [], [.cell .bool], [], T_laws_eqGroup⟩
theorem ok_laws_eqGroup : FnOk Tryd.prog fn_laws_eqGroup := evF_ok mixed (allOk_cons ok_laws_eqStringS allOk_nil) m_laws_eqGroup (by decide)
def B_laws_eqGroupS_1 : TC := (.seq (.seq (.reg none [.p (.mv 11 (.t 5)) .unit,
  .p (.mv 12 (.t 0)) .unit,
  .p (.lenB 13 (.t 12)) .unit,
  .p (.bin 14 false .lss (.t 11) (.t 13)) .unit])
 (.cond (.t 14) .skip (.exit 0)))
 (.seq (.block 1 (.seq (.reg (some [[], [], [0, 1], [2], [], [], [4, 5], [6], [3, 7], [8]]) [.p (.mv 17 (.t 0)) .unit,
  .p (.mv 18 (.t 5)) .unit,
  .p (.iadr 19 2 (.t 17) (.t 18)) .unit,
  .p (.load 20 (.t 19) 2 true) .unit,
  .p (.mv 21 (.t 1)) .unit,
  .p (.mv 22 (.t 5)) .unit,
  .p (.iadr 23 2 (.t 21) (.t 22)) .unit,
  .p (.load 24 (.t 23) 2 true) .unit,
  .p (.callB 25 n_laws_eqGroup [((.t 20), 0), ((.t 24), 0)]) .unit,
  .p (.un 26 .not (.t 25)) .unit])
 (.cond (.t 26) (.seq (.reg none [.p (.mv 4 (.c (.bool false))) .unit])
 .ret) .skip)))
 (.reg none [.p (.mv 15 (.t 5)) .unit,
  .p (.bin 16 false .add (.t 15) (.c (.int .i64 1))) .unit,
  .p (.mv 5 (.t 16)) .unit])))
noncomputable def L_laws_eqGroupS_1 : Nat → (List (List UInt8 × List (List UInt8))) × (List (List UInt8 × List (List UInt8))) × Int → Option ((Unit) ⊕ (Bool)) := evL [fn_laws_eqGroup] (finT [.t 4] [] [.cell .bool]) 0 ⟨[(0, true), (1, true), (5, false)], [.cell (.sl false (.pair .str (.sl false .str))), .cell (.sl false (.pair .str (.sl false .str))), .cell (.int .i64)]⟩ ⟨[], []⟩ B_laws_eqGroupS_1
def F_laws_eqGroupS : TF := ⟨(.seq (.reg none [.p (.mv 4 (.c (.bool false))) .unit])
 (.seq (.seq (.reg none [.p (.mv 6 (.t 0)) .unit,
  .p (.lenB 7 (.t 6)) .unit,
  .p (.mv 8 (.t 1)) .unit,
  .p (.lenB 9 (.t 8)) .unit,
  .p (.bin 10 false .neq (.t 7) (.t 9)) .unit])
 (.cond (.t 10) (.seq (.reg none [.p (.mv 4 (.c (.bool false))) .unit])
 .ret) .skip))
 (.seq (.seq (.reg none [.p (.mv 5 (.c (.int .i64 0))) .unit])
 (.jl 0 ⟨[(0, true), (1, true), (5, false)], [.cell (.sl false (.pair .str (.sl false .str))), .cell (.sl false (.pair .str (.sl false .str))), .cell (.int .i64)]⟩ ⟨[], []⟩ B_laws_eqGroupS_1))
 (.seq (.reg none [.p (.mv 4 (.c (.bool true))) .unit])
 .ret)))),
 27, 2, [.t 4]⟩
theorem m_laws_eqGroupS : mH Tryd.prog 29 [] = some (F_laws_eqGroupS.code.x, F_laws_eqGroupS.N, F_laws_eqGroupS.np, F_laws_eqGroupS.res) := by kernel_rfl
noncomputable def T_laws_eqGroupS : (List (List UInt8 × List (List UInt8))) × List (List UInt8 × List (List UInt8)) → Option (Bool) := evF [fn_laws_eqGroup] F_laws_eqGroupS [.cell (.sl false (.pair .str (.sl false .str))), .cell (.sl false (.pair .str (.sl false .str)))] [] [.cell .bool] []
noncomputable def fn_laws_eqGroupS : TFn := ⟨29, [.cell (.sl false (.pair .str (.sl false .str))), .cell (.sl false (.pair .str (.sl false .str)))], [], [.cell .bool], [], T_laws_eqGroupS⟩
theorem ok_laws_eqGroupS : FnOk Tryd.prog fn_laws_eqGroupS := evF_ok mixed (allOk_cons ok_laws_eqGroup allOk_nil) m_laws_eqGroupS (by decide)
def F_laws_eqTable : TF := ⟨(.seq (.reg none [.p (.box 2 (.t 0)) .unit,
  .p (.box 3 (.t 1)) .unit,
  .p (.mv 4 (.c (.bool false))) .unit])
 (.seq (.seq (.reg none [.p (.fadr 5 (.t 2) 0) .unit,
  .p (.load 6 (.t 5) 1 false) .unit,
  .p (.fadr 7 (.t 3) 0) .unit,
  .p (.load 8 (.t 7) 1 false) .unit,
  .p (.callB 9 n_laws_eqGroupS [((.t 6), 0), ((.t 8), 0)]) .unit,
  .p (.un 10 .not (.t 9)) .unit])
 (.cond (.t 10) (.seq (.reg none [.p (.mv 4 (.c (.bool false))) .unit])
 .ret) .skip))
 (.seq (.reg none [.p (.mv 4 (.c (.bool true))) .unit])
 .ret))),
 11, 2, [.t 4]⟩
theorem m_laws_eqTable : mH Tryd.prog 10 [] = some (F_laws_eqTable.code.x, F_laws_eqTable.N, F_laws_eqTable.np, F_laws_eqTable.res) := by kernel_rfl
noncomputable def T_laws_eqTable : (List (List UInt8 × List (List UInt8))) × List (List UInt8 × List (List UInt8)) → Option (Bool) := evF [fn_laws_eqGroupS] F_laws_eqTable [.agg (.sl false (.pair .str (.sl false .str))), .agg (.sl false (.pair .str (.sl false .str)))] [] [.cell .bool] []
noncomputable def fn_laws_eqTable : TFn := ⟨10, [.agg (.sl false (.pair .str (.sl false .str))), .agg (.sl false (.pair .str (.sl false .str)))], [], [.cell .bool], [], T_laws_eqTable⟩
theorem ok_laws_eqTable : FnOk Tryd.prog fn_laws_eqTable := evF_ok mixed (allOk_cons ok_laws_eqGroupS allOk_nil) m_laws_eqTable (by decide)
def B_laws_eqIntS_1 : TC := (.seq (.seq (.reg none [.p (.mv 11 (.t 5)) .unit,
  .p (.mv 12 (.t 0)) .unit,
  .p (.lenB 13 (.t 12)) .unit,
  .p (.bin 14 false .lss (.t 11) (.t 13)) .unit])
 (.cond (.t 14) .skip (.exit 0)))
 (.seq (.block 1 (.seq (.reg (some [[], [], [0, 1], [2], [], [], [4, 5], [6], [3, 7]]) [.p (.mv 17 (.t 0)) .unit,
  .p (.mv 18 (.t 5)) .unit,
  .p (.iadr 19 1 (.t 17) (.t 18)) .unit,
  .p (.load 20 (.t 19) 1 false) .unit,
  .p (.mv 21 (.t 1)) .unit,
  .p (.mv 22 (.t 5)) .unit,
  .p (.iadr 23 1 (.t 21) (.t 22)) .unit,
  .p (.load 24 (.t 23) 1 false) .unit,
  .p (.bin 25 false .neq (.t 20) (.t 24)) .unit])
 (.cond (.t 25) (.seq (.reg none [.p (.mv 4 (.c (.bool false))) .unit])
 .ret) .skip)))
 (.reg none [.p (.mv 15 (.t 5)) .unit,
  .p (.bin 16 false .add (.t 15) (.c (.int .i64 1))) .unit,
  .p (.mv 5 (.t 16)) .unit])))
noncomputable def L_laws_eqIntS_1 : Nat → (List (Int)) × (List (Int)) × Int → Option ((Unit) ⊕ (Bool)) := evL [] (finT [.t 4] [] [.cell .bool]) 0 ⟨[(0, true), (1, true), (5, false)], [.cell (.sl false (.int .i64)), .cell (.sl false (.int .i64)), .cell (.int .i64)]⟩ ⟨[], []⟩ B_laws_eqIntS_1
def F_laws_eqIntS : TF := ⟨(.seq (.reg none [.p (.mv 4 (.c (.bool false))) .unit])
 (.seq (.seq (.reg none [.p (.mv 6 (.t 0)) .unit,
  .p (.lenB 7 (.t 6)) .unit,
  .p (.mv 8 (.t 1)) .unit,
  .p (.lenB 9 (.t 8)) .unit,
  .p (.bin 10 false .neq (.t 7) (.t 9)) .unit])
 (.cond (.t 10) (.seq (.reg none [.p (.mv 4 (.c (.bool false))) .unit])
 .ret) .skip))
 (.seq (.seq (.reg none [.p (.mv 5 (.c (.int .i64 0))) .unit])
 (.jl 0 ⟨[(0, true), (1, true), (5, false)], [.cell (.sl false (.int .i64)), .cell (.sl false (.int .i64)), .cell (.int .i64)]⟩ ⟨[], []⟩ B_laws_eqIntS_1))
 (.seq (.reg none [.p (.mv 4 (.c (.bool true))) .unit])
 .ret)))),
 26, 2, [.t 4]⟩
theorem m_laws_eqIntS : mH Tryd.prog 11 [] = some (F_laws_eqIntS.code.x, F_laws_eqIntS.N, F_laws_eqIntS.np, F_laws_eqIntS.res) := by kernel_rfl
noncomputable def T_laws_eqIntS : (List (Int)) × List (Int) → Option (Bool) := evF [] F_laws_eqIntS [.cell (.sl false (.int .i64)), .cell (.sl false (.int .i64))] [] [.cell .bool] []
noncomputable def fn_laws_eqIntS : TFn := ⟨11, [.cell (.sl false (.int .i64)), .cell (.sl false (.int .i64))], [], [.cell .bool], [], T_laws_eqIntS⟩
theorem ok_laws_eqIntS : FnOk Tryd.prog fn_laws_eqIntS := evF_ok mixed allOk_nil m_laws_eqIntS (by decide)
def B_laws_markText_1 : TC := (.seq (.seq (.reg none [.p (.mv 6 (.t 0)) .unit,
  .p (.bin 7 false .gtr (.t 6) (.c (.int .i64 0))) .unit])
 (.cond (.t 7) .skip (.exit 0)))
 (.block 1 (.seq (.reg none [.p (.mv 8 (.t 0)) .unit,
  .p (.bin 9 false .rem (.t 8) (.c (.int .i64 10))) .unit,
  .p (.bin 10 false .add (.c (.int .i64 48)) (.t 9)) .unit,
  .p (.cvi 11 .u8 .i64 (.t 10)) .unit,
  .p (.bldS 12 1 [(.lit (.int .u8 0))] [⟨0, 1, (.t 11)⟩]) (.int .u8),
  .p (.b2s 13 (.t 12)) .unit,
  .p (.mv 14 (.t 3)) .unit,
  .p (.bin 15 false .add (.t 13) (.t 14)) .unit,
  .p (.mv 3 (.t 15)) .unit])
 (.reg none [.p (.mv 16 (.t 0)) .unit,
  .p (.bin 17 false .quo (.t 16) (.c (.int .i64 10))) .unit,
  .p (.mv 0 (.t 17)) .unit]))))
noncomputable def L_laws_markText_1 : Nat → (Int) × List UInt8 → Option ((List UInt8) ⊕ (List UInt8)) := evL [] (finT [.t 2] [] [.cell .str]) 0 ⟨[(0, false), (3, false)], [.cell (.int .i64), .cell .str]⟩ ⟨[(3, false)], [.cell .str]⟩ B_laws_markText_1
def F_laws_markText : TF := ⟨(.seq (.reg none [.p (.mv 2 (.c (.string (ba [])))) .unit])
 (.seq (.seq (.reg none [.p (.mv 4 (.t 0)) .unit,
  .p (.bin 5 false .leq (.t 4) (.c (.int .i64 0))) .unit])
 (.cond (.t 5) (.seq (.reg none [.p (.mv 2 (.c (.string (ba [109, 48])))) .unit])
 .ret) .skip))
 (.seq (.reg none [.p (.mv 3 (.c (.string (ba [])))) .unit])
 (.seq (.jl 0 ⟨[(0, false), (3, false)], [.cell (.int .i64), .cell .str]⟩ ⟨[(3, false)], [.cell .str]⟩ B_laws_markText_1)
 (.seq (.reg none [.p (.mv 18 (.t 3)) .unit,
  .p (.bin 19 false .add (.c (.string (ba [109]))) (.t 18)) .unit,
  .p (.mv 2 (.t 19)) .unit])
 .ret))))),
 20, 1, [.t 2]⟩
theorem m_laws_markText : mH Tryd.prog 49 [] = some (F_laws_markText.code.x, F_laws_markText.N, F_laws_markText.np, F_laws_markText.res) := by kernel_rfl
noncomputable def T_laws_markText : Int → Option (List UInt8) := evF [] F_laws_markText [.cell (.int .i64)] [] [.cell .str] []
noncomputable def fn_laws_markText : TFn := ⟨49, [.cell (.int .i64)], [], [.cell .str], [], T_laws_markText⟩
theorem ok_laws_markText : FnOk Tryd.prog fn_laws_markText := evF_ok mixed allOk_nil m_laws_markText (by decide)
def B_laws_markStringS_1 : TC := (.seq (.seq (.reg none [.p (.mv 6 (.t 5)) .unit,
  .p (.mvA 7 0) .unit,
  .p (.lenB 8 (.t 7)) .unit,
  .p (.bin 9 false .lss (.t 6) (.t 8)) .unit])
 (.cond (.t 9) .skip (.exit 0)))
 (.seq (.block 1 (.seq (.reg none [.p (.mvA 12 0) .unit,
  .p (.mv 13 (.t 5)) .unit,
  .p (.mv 14 (.t 1)) .unit,
  .p (.callB 15 n_laws_markText [((.t 14), 0)]) .unit,
  .p (.iadr 16 1 (.t 12) (.t 13)) .unit,
  .p (.store (.t 16) (.t 15) 1) .unit])
 (.reg none [.p (.mv 17 (.t 1)) .unit,
  .p (.bin 18 false .add (.t 17) (.c (.int .i64 1))) .unit,
  .p (.mv 1 (.t 18)) .unit])))
 (.reg none [.p (.mv 10 (.t 5)) .unit,
  .p (.bin 11 false .add (.t 10) (.c (.int .i64 1))) .unit,
  .p (.mv 5 (.t 11)) .unit])))
noncomputable def L_laws_markStringS_1 : Nat → (List (List UInt8)) × (Int) × Int → Option (((List (List UInt8)) × Int) ⊕ ((Int) × List (List UInt8))) := evL [fn_laws_markText] (finT [.t 4] [0] [.cell (.int .i64), .cell (.sl true .str)]) 0 ⟨[(0, true), (1, false), (5, false)], [.cell (.sl true .str), .cell (.int .i64), .cell (.int .i64)]⟩ ⟨[(0, true), (1, false)], [.cell (.sl true .str), .cell (.int .i64)]⟩ B_laws_markStringS_1
def F_laws_markStringS : TF := ⟨(.seq (.reg none [.p (.mv 4 (.c (.int .i64 0))) .unit])
 (.seq (.seq (.reg none [.p (.mv 5 (.c (.int .i64 0))) .unit])
 (.jl 0 ⟨[(0, true), (1, false), (5, false)], [.cell (.sl true .str), .cell (.int .i64), .cell (.int .i64)]⟩ ⟨[(0, true), (1, false)], [.cell (.sl true .str), .cell (.int .i64)]⟩ B_laws_markStringS_1))
 (.seq (.reg none [.p (.mv 19 (.t 1)) .unit,
  .p (.mv 4 (.t 19)) .unit])
 .ret))),
 20, 2, [.t 4]⟩
theorem m_laws_markStringS : mH Tryd.prog 50 [(2, 1, .v), (4, 0, .v)] = some (F_laws_markStringS.code.x, F_laws_markStringS.N, F_laws_markStringS.np, F_laws_markStringS.res) := by kernel_rfl
noncomputable def T_laws_markStringS : (List (List UInt8)) × Int → Option ((Int) × List (List UInt8)) := evF [fn_laws_markText] F_laws_markStringS [.cell (.sl true .str), .cell (.int .i64)] [0] [.cell (.int .i64)] [.cell (.sl true .str)]
noncomputable def fn_laws_markStringS : TFn := ⟨50, [.cell (.sl true .str), .cell (.int .i64)], [0], [.cell (.int .i64)], [.cell (.sl true .str)], T_laws_markStringS⟩
theorem ok_laws_markStringS : FnOk Tryd.prog fn_laws_markStringS := evF_ok mixed (allOk_cons ok_laws_markText allOk_nil) m_laws_markStringS (by decide)
def B_laws_markGroupS_1 : TC := (.seq (.seq (.reg none [.p (.mv 6 (.t 5)) .unit,
  .p (.mvA 7 0) .unit,
  .p (.lenB 8 (.t 7)) .unit,
  .p (.bin 9 false .lss (.t 6) (.t 8)) .unit])
 (.cond (.t 9) .skip (.exit 0)))
 (.seq (.block 1 (.seq (.join ⟨[(0, true), (1, false), (5, false)], [.cell (.sl true (.pair .str (.sl true .str))), .cell (.int .i64), .cell (.int .i64)]⟩ (.reg none [.p (.mvA 12 0) .unit,
  .p (.mv 13 (.t 5)) .unit,
  .p (.mv 14 (.t 1)) .unit,
  .p (.callB 15 n_laws_markText [((.t 14), 0)]) .unit,
  .p (.iadr 16 2 (.t 12) (.t 13)) .unit,
  .p (.fadr 17 (.t 16) 0) .unit,
  .p (.store (.t 17) (.t 15) 1) .unit]))
 (.seq (.reg none [.p (.mv 18 (.t 1)) .unit,
  .p (.bin 19 false .add (.t 18) (.c (.int .i64 1))) .unit,
  .p (.mv 1 (.t 19)) .unit])
 (.reg none [.p (.mvA 20 0) .unit,
  .p (.mv 21 (.t 5)) .unit,
  .p (.iadr 22 2 (.t 20) (.t 21)) .unit,
  .p (.fadr 23 (.t 22) 1) .unit,
  .p (.load 24 (.t 23) 1 false) .unit,
  .p (.mv 25 (.t 1)) .unit,
  .p (.callM 26 n_laws_markStringS [] (.agg (.t 24) 0) [((.t 25), 0)]) .unit,
  .p (.mv 1 (.t 26)) .unit]))))
 (.reg none [.p (.mv 10 (.t 5)) .unit,
  .p (.bin 11 false .add (.t 10) (.c (.int .i64 1))) .unit,
  .p (.mv 5 (.t 11)) .unit])))
noncomputable def L_laws_markGroupS_1 : Nat → (List (List UInt8 × List (List UInt8))) × (Int) × Int → Option (((List (List UInt8 × List (List UInt8))) × Int) ⊕ ((Int) × List (List UInt8 × List (List UInt8)))) := evL [fn_laws_markText, fn_laws_markStringS] (finT [.t 4] [0] [.cell (.int .i64), .cell (.sl true (.pair .str (.sl true .str)))]) 0 ⟨[(0, true), (1, false), (5, false)], [.cell (.sl true (.pair .str (.sl true .str))), .cell (.int .i64), .cell (.int .i64)]⟩ ⟨[(0, true), (1, false)], [.cell (.sl true (.pair .str (.sl true .str))), .cell (.int .i64)]⟩ B_laws_markGroupS_1
def F_laws_markGroupS : TF := ⟨(.seq (.reg none [.p (.mv 4 (.c (.int .i64 0))) .unit])
 (.seq (.seq (.reg none [.p (.mv 5 (.c (.int .i64 0))) .unit])
 (.jl 0 ⟨[(0, true), (1, false), (5, false)], [.cell (.sl true (.pair .str (.sl true .str))), .cell (.int .i64), .cell (.int .i64)]⟩ ⟨[(0, true), (1, false)], [.cell (.sl true (.pair .str (.sl true .str))), .cell (.int .i64)]⟩ B_laws_markGroupS_1))
 (.seq (.reg none [.p (.mv 27 (.t 1)) .unit,
  .p (.mv 4 (.t 27)) .unit])
 .ret))),
 28, 2, [.t 4]⟩
theorem m_laws_markGroupS : mH Tryd.prog 30 [(2, 1, .v), (4, 0, .v), (6, 0, .v), (6, 6, (.g 0 0))] = some (F_laws_markGroupS.code.x, F_laws_markGroupS.N, F_laws_markGroupS.np, F_laws_markGroupS.res) := by kernel_rfl
noncomputable def T_laws_markGroupS : (List (List UInt8 × List (List UInt8))) × Int → Option ((Int) × List (List UInt8 × List (List UInt8))) := evF [fn_laws_markText, fn_laws_markStringS] F_laws_markGroupS [.cell (.sl true (.pair .str (.sl true .str))), .cell (.int .i64)] [0] [.cell (.int .i64)] [.cell (.sl true (.pair .str (.sl true .str)))]
noncomputable def fn_laws_markGroupS : TFn := ⟨30, [.cell (.sl true (.pair .str (.sl true .str))), .cell (.int .i64)], [0], [.cell (.int .i64)], [.cell (.sl true (.pair .str (.sl true .str)))], T_laws_markGroupS⟩
theorem ok_laws_markGroupS : FnOk Tryd.prog fn_laws_markGroupS := evF_ok mixed (allOk_cons ok_laws_markText (allOk_cons ok_laws_markStringS allOk_nil)) m_laws_markGroupS (by decide)
def F_laws_markTable : TF := ⟨(.seq (.reg none [.p (.boxL 2 0) .unit,
  .p (.mv 4 (.c (.int .i64 0))) .unit])
 (.seq (.reg none [.p (.fadr 5 (.t 2) 0) .unit,
  .p (.load 6 (.t 5) 1 false) .unit,
  .p (.mv 7 (.t 1)) .unit,
  .p (.callM 8 n_laws_markGroupS [] (.aggS (.t 6) 2 0) [((.t 7), 0)]) .unit,
  .p (.mv 1 (.t 8)) .unit])
 (.seq (.reg none [.p (.mv 9 (.t 1)) .unit,
  .p (.mv 4 (.t 9)) .unit])
 .ret))),
 10, 2, [.t 4]⟩
theorem m_laws_markTable : mH Tryd.prog 12 [(0, 0, .v), (1, 3, (.gs 0 2 0))] = some (F_laws_markTable.code.x, F_laws_markTable.N, F_laws_markTable.np, F_laws_markTable.res) := by kernel_rfl
noncomputable def T_laws_markTable : (List (List UInt8 × List (List UInt8))) × Int → Option ((Int) × List (List UInt8 × List (List UInt8))) := evF [fn_laws_markGroupS] F_laws_markTable [.agg (.sl true (.pair .str (.sl true .str))), .cell (.int .i64)] [0] [.cell (.int .i64)] [.agg (.sl true (.pair .str (.sl true .str)))]
noncomputable def fn_laws_markTable : TFn := ⟨12, [.agg (.sl true (.pair .str (.sl true .str))), .cell (.int .i64)], [0], [.cell (.int .i64)], [.agg (.sl true (.pair .str (.sl true .str)))], T_laws_markTable⟩
theorem ok_laws_markTable : FnOk Tryd.prog fn_laws_markTable := evF_ok mixed (allOk_cons ok_laws_markGroupS allOk_nil) m_laws_markTable (by decide)
def B_laws_markIntS_1 : TC := (.seq (.seq (.reg none [.p (.mv 6 (.t 5)) .unit,
  .p (.mvA 7 0) .unit,
  .p (.lenB 8 (.t 7)) .unit,
  .p (.bin 9 false .lss (.t 6) (.t 8)) .unit])
 (.cond (.t 9) .skip (.exit 0)))
 (.seq (.block 1 (.seq (.reg none [.p (.mvA 12 0) .unit,
  .p (.mv 13 (.t 5)) .unit,
  .p (.mv 14 (.t 1)) .unit,
  .p (.iadr 15 1 (.t 12) (.t 13)) .unit,
  .p (.store (.t 15) (.t 14) 1) .unit])
 (.reg none [.p (.mv 16 (.t 1)) .unit,
  .p (.bin 17 false .add (.t 16) (.c (.int .i64 1))) .unit,
  .p (.mv 1 (.t 17)) .unit])))
 (.reg none [.p (.mv 10 (.t 5)) .unit,
  .p (.bin 11 false .add (.t 10) (.c (.int .i64 1))) .unit,
  .p (.mv 5 (.t 11)) .unit])))
noncomputable def L_laws_markIntS_1 : Nat → (List (Int)) × (Int) × Int → Option (((List (Int)) × Int) ⊕ ((Int) × List (Int))) := evL [] (finT [.t 4] [0] [.cell (.int .i64), .cell (.sl true (.int .i64))]) 0 ⟨[(0, true), (1, false), (5, false)], [.cell (.sl true (.int .i64)), .cell (.int .i64), .cell (.int .i64)]⟩ ⟨[(0, true), (1, false)], [.cell (.sl true (.int .i64)), .cell (.int .i64)]⟩ B_laws_markIntS_1
def F_laws_markIntS : TF := ⟨(.seq (.reg none [.p (.mv 4 (.c (.int .i64 0))) .unit])
 (.seq (.seq (.reg none [.p (.mv 5 (.c (.int .i64 0))) .unit])
 (.jl 0 ⟨[(0, true), (1, false), (5, false)], [.cell (.sl true (.int .i64)), .cell (.int .i64), .cell (.int .i64)]⟩ ⟨[(0, true), (1, false)], [.cell (.sl true (.int .i64)), .cell (.int .i64)]⟩ B_laws_markIntS_1))
 (.seq (.reg none [.p (.mv 18 (.t 1)) .unit,
  .p (.mv 4 (.t 18)) .unit])
 .ret))),
 19, 2, [.t 4]⟩
theorem m_laws_markIntS : mH Tryd.prog 13 [(2, 1, .v), (4, 0, .v)] = some (F_laws_markIntS.code.x, F_laws_markIntS.N, F_laws_markIntS.np, F_laws_markIntS.res) := by kernel_rfl
noncomputable def T_laws_markIntS : (List (Int)) × Int → Option ((Int) × List (Int)) := evF [] F_laws_markIntS [.cell (.sl true (.int .i64)), .cell (.int .i64)] [0] [.cell (.int .i64)] [.cell (.sl true (.int .i64))]
noncomputable def fn_laws_markIntS : TFn := ⟨13, [.cell (.sl true (.int .i64)), .cell (.int .i64)], [0], [.cell (.int .i64)], [.cell (.sl true (.int .i64))], T_laws_markIntS⟩
theorem ok_laws_markIntS : FnOk Tryd.prog fn_laws_markIntS := evF_ok mixed allOk_nil m_laws_markIntS (by decide)
def B_laws_heldStringS_1 : TC := (.seq (.seq (.reg none [.p (.mv 6 (.t 5)) .unit,
  .p (.mv 7 (.t 0)) .unit,
  .p (.lenB 8 (.t 7)) .unit,
  .p (.bin 9 false .lss (.t 6) (.t 8)) .unit])
 (.cond (.t 9) .skip (.exit 0)))
 (.seq (.block 1 (.seq (.seq (.reg (some [[], [], [0, 1], [2], [], [4], [3, 5]]) [.p (.mv 12 (.t 0)) .unit,
  .p (.mv 13 (.t 5)) .unit,
  .p (.iadr 14 1 (.t 12) (.t 13)) .unit,
  .p (.load 15 (.t 14) 1 false) .unit,
  .p (.mv 16 (.t 1)) .unit,
  .p (.callB 17 n_laws_markText [((.t 16), 0)]) .unit,
  .p (.bin 18 false .neq (.t 15) (.t 17)) .unit])
 (.cond (.t 18) (.seq (.reg none [.p (.mv 4 (.c (.int .i64 (-1)))) .unit])
 .ret) .skip))
 (.reg none [.p (.mv 19 (.t 1)) .unit,
  .p (.bin 20 false .add (.t 19) (.c (.int .i64 1))) .unit,
  .p (.mv 1 (.t 20)) .unit])))
 (.reg none [.p (.mv 10 (.t 5)) .unit,
  .p (.bin 11 false .add (.t 10) (.c (.int .i64 1))) .unit,
  .p (.mv 5 (.t 11)) .unit])))
noncomputable def L_laws_heldStringS_1 : Nat → (List (List UInt8)) × (Int) × Int → Option ((Int) ⊕ (Int)) := evL [fn_laws_markText] (finT [.t 4] [] [.cell (.int .i64)]) 0 ⟨[(0, true), (1, false), (5, false)], [.cell (.sl false .str), .cell (.int .i64), .cell (.int .i64)]⟩ ⟨[(1, false)], [.cell (.int .i64)]⟩ B_laws_heldStringS_1
def F_laws_heldStringS : TF := ⟨(.seq (.reg none [.p (.mv 4 (.c (.int .i64 0))) .unit])
 (.seq (.seq (.reg none [.p (.mv 5 (.c (.int .i64 0))) .unit])
 (.jl 0 ⟨[(0, true), (1, false), (5, false)], [.cell (.sl false .str), .cell (.int .i64), .cell (.int .i64)]⟩ ⟨[(1, false)], [.cell (.int .i64)]⟩ B_laws_heldStringS_1))
 (.seq (.reg none [.p (.mv 21 (.t 1)) .unit,
  .p (.mv 4 (.t 21)) .unit])
 .ret))),
 22, 2, [.t 4]⟩
theorem m_laws_heldStringS : mH Tryd.prog 51 [] = some (F_laws_heldStringS.code.x, F_laws_heldStringS.N, F_laws_heldStringS.np, F_laws_heldStringS.res) := by kernel_rfl
noncomputable def T_laws_heldStringS : (List (List UInt8)) × Int → Option (Int) := evF [fn_laws_markText] F_laws_heldStringS [.cell (.sl false .str), .cell (.int .i64)] [] [.cell (.int .i64)] []
noncomputable def fn_laws_heldStringS : TFn := ⟨51, [.cell (.sl false .str), .cell (.int .i64)], [], [.cell (.int .i64)], [], T_laws_heldStringS⟩
theorem ok_laws_heldStringS : FnOk Tryd.prog fn_laws_heldStringS := evF_ok mixed (allOk_cons ok_laws_markText allOk_nil) m_laws_heldStringS (by decide)
def B_laws_heldGroupS_1 : TC := (.seq (.seq (.reg none [.p (.mv 6 (.t 5)) .unit,
  .p (.mv 7 (.t 0)) .unit,
  .p (.lenB 8 (.t 7)) .unit,
  .p (.bin 9 false .lss (.t 6) (.t 8)) .unit])
 (.cond (.t 9) .skip (.exit 0)))
 (.seq (.block 1 (.seq (.seq (.reg (some [[], [], [0, 1], [2], [3], [], [5], [4, 6]]) [.p (.mv 12 (.t 0)) .unit,
  .p (.mv 13 (.t 5)) .unit,
  .p (.iadr 14 2 (.t 12) (.t 13)) .unit,
  .p (.fadr 15 (.t 14) 0) .unit,
  .p (.load 16 (.t 15) 1 false) .unit,
  .p (.mv 17 (.t 1)) .unit,
  .p (.callB 18 n_laws_markText [((.t 17), 0)]) .unit,
  .p (.bin 19 false .neq (.t 16) (.t 18)) .unit])
 (.cond (.t 19) (.seq (.reg none [.p (.mv 4 (.c (.int .i64 (-1)))) .unit])
 .ret) .skip))
 (.seq (.reg none [.p (.mv 20 (.t 1)) .unit,
  .p (.bin 21 false .add (.t 20) (.c (.int .i64 1))) .unit,
  .p (.mv 1 (.t 21)) .unit])
 (.seq (.reg none [.p (.mv 22 (.t 0)) .unit,
  .p (.mv 23 (.t 5)) .unit,
  .p (.iadr 24 2 (.t 22) (.t 23)) .unit,
  .p (.fadr 25 (.t 24) 1) .unit,
  .p (.load 26 (.t 25) 1 false) .unit,
  .p (.mv 27 (.t 1)) .unit,
  .p (.callB 28 n_laws_heldStringS [((.t 26), 0), ((.t 27), 0)]) .unit,
  .p (.mv 1 (.t 28)) .unit])
 (.seq (.reg none [.p (.mv 29 (.t 1)) .unit,
  .p (.bin 30 false .lss (.t 29) (.c (.int .i64 0))) .unit])
 (.cond (.t 30) (.seq (.reg none [.p (.mv 4 (.c (.int .i64 (-1)))) .unit])
 .ret) .skip))))))
 (.reg none [.p (.mv 10 (.t 5)) .unit,
  .p (.bin 11 false .add (.t 10) (.c (.int .i64 1))) .unit,
  .p (.mv 5 (.t 11)) .unit])))
noncomputable def L_laws_heldGroupS_1 : Nat → (List (List UInt8 × List (List UInt8))) × (Int) × Int → Option ((Int) ⊕ (Int)) := evL [fn_laws_markText, fn_laws_heldStringS] (finT [.t 4] [] [.cell (.int .i64)]) 0 ⟨[(0, true), (1, false), (5, false)], [.cell (.sl false (.pair .str (.sl false .str))), .cell (.int .i64), .cell (.int .i64)]⟩ ⟨[(1, false)], [.cell (.int .i64)]⟩ B_laws_heldGroupS_1
def F_laws_heldGroupS : TF := ⟨(.seq (.reg none [.p (.mv 4 (.c (.int .i64 0))) .unit])
 (.seq (.seq (.reg none [.p (.mv 5 (.c (.int .i64 0))) .unit])
 (.jl 0 ⟨[(0, true), (1, false), (5, false)], [.cell (.sl false (.pair .str (.sl false .str))), .cell (.int .i64), .cell (.int .i64)]⟩ ⟨[(1, false)], [.cell (.int .i64)]⟩ B_laws_heldGroupS_1))
 (.seq (.reg none [.p (.mv 31 (.t 1)) .unit,
  .p (.mv 4 (.t 31)) .unit])
 .ret))),
 32, 2, [.t 4]⟩
theorem m_laws_heldGroupS : mH Tryd.prog 31 [] = some (F_laws_heldGroupS.code.x, F_laws_heldGroupS.N, F_laws_heldGroupS.np, F_laws_heldGroupS.res) := by kernel_rfl
noncomputable def T_laws_heldGroupS : (List (List UInt8 × List (List UInt8))) × Int → Option (Int) := evF [fn_laws_markText, fn_laws_heldStringS] F_laws_heldGroupS [.cell (.sl false (.pair .str (.sl false .str))), .cell (.int .i64)] [] [.cell (.int .i64)] []
noncomputable def fn_laws_heldGroupS : TFn := ⟨31, [.cell (.sl false (.pair .str (.sl false .str))), .cell (.int .i64)], [], [.cell (.int .i64)], [], T_laws_heldGroupS⟩
theorem ok_laws_heldGroupS : FnOk Tryd.prog fn_laws_heldGroupS := evF_ok mixed (allOk_cons ok_laws_markText (allOk_cons ok_laws_heldStringS allOk_nil)) m_laws_heldGroupS (by decide)
def F_laws_heldTable : TF := ⟨(.seq (.reg none [.p (.box 2 (.t 0)) .unit,
  .p (.mv 4 (.c (.int .i64 0))) .unit])
 (.seq (.reg none [.p (.fadr 5 (.t 2) 0) .unit,
  .p (.load 6 (.t 5) 1 false) .unit,
  .p (.mv 7 (.t 1)) .unit,
  .p (.callB 8 n_laws_heldGroupS [((.t 6), 0), ((.t 7), 0)]) .unit,
  .p (.mv 1 (.t 8)) .unit])
 (.seq (.seq (.reg none [.p (.mv 9 (.t 1)) .unit,
  .p (.bin 10 false .lss (.t 9) (.c (.int .i64 0))) .unit])
 (.cond (.t 10) (.seq (.reg none [.p (.mv 4 (.c (.int .i64 (-1)))) .unit])
 .ret) .skip))
 (.seq (.reg none [.p (.mv 11 (.t 1)) .unit,
  .p (.mv 4 (.t 11)) .unit])
 .ret)))),
 12, 2, [.t 4]⟩
theorem m_laws_heldTable : mH Tryd.prog 14 [] = some (F_laws_heldTable.code.x, F_laws_heldTable.N, F_laws_heldTable.np, F_laws_heldTable.res) := by kernel_rfl
noncomputable def T_laws_heldTable : (List (List UInt8 × List (List UInt8))) × Int → Option (Int) := evF [fn_laws_heldGroupS] F_laws_heldTable [.agg (.sl false (.pair .str (.sl false .str))), .cell (.int .i64)] [] [.cell (.int .i64)] []
noncomputable def fn_laws_heldTable : TFn := ⟨14, [.agg (.sl false (.pair .str (.sl false .str))), .cell (.int .i64)], [], [.cell (.int .i64)], [], T_laws_heldTable⟩
theorem ok_laws_heldTable : FnOk Tryd.prog fn_laws_heldTable := evF_ok mixed (allOk_cons ok_laws_heldGroupS allOk_nil) m_laws_heldTable (by decide)
def F_laws_FnExactKeep : TF := ⟨(.seq (.reg none [.p (.box 2 (.t 0)) .unit,
  .p (.mv 4 (.c (.bool false))) .unit])
 (.seq (.seq (.reg none [.p (.mv 14 (.t 1)) .unit,
  .p (.lenB 15 (.t 14)) .unit,
  .p (.bin 16 false .gtr (.t 15) (.c (.int .i64 1048576))) .unit])
 (.cond (.t 16) (.seq (.reg none [.p (.mv 4 (.c (.bool true))) .unit])
 .ret) .skip))
 (.seq (.reg none [.p (.mv 5 (.c (.int .i64 1048576))) .unit])
 (.seq (.reg none [.p (.load 17 (.t 2) 1 true) .unit,
  .p (.mv 18 (.t 5)) .unit,
  .p (.callB 19 n_laws_szTable [((.t 17), 0), ((.t 18), 0)]) .unit,
  .p (.mv 5 (.t 19)) .unit])
 (.seq (.seq (.reg none [.p (.mv 20 (.t 5)) .unit,
  .p (.bin 21 false .lss (.t 20) (.c (.int .i64 0))) .unit])
 (.cond (.t 21) (.seq (.reg none [.p (.mv 4 (.c (.bool true))) .unit])
 .ret) .skip))
 (.seq (.reg none [.p (.load 22 (.t 2) 1 true) .unit,
  .p (.callB 23 n_laws_toTable [((.t 22), 0)]) .unit,
  .p (.mv 24 (.t 1)) .unit,
  .p (.callB 25 n_laws_toIntS [((.t 24), 0)]) .unit,
  .p (.callB 26 n_spec_Keep [((.t 23), 0), ((.t 25), 0)]) .unit,
  .p (.alloc 6 [(.sl true 2 [])]) .unit,
  .p (.storeT (.t 6) 26 1) .unit])
 (.seq (.reg none [.p (.load 27 (.t 2) 1 true) .unit,
  .p (.callB 28 n_laws_toTable [((.t 27), 0)]) .unit,
  .p (.alloc 7 [(.sl true 2 [])]) .unit,
  .p (.storeT (.t 7) 28 1) .unit])
 (.seq (.reg none [.p (.mv 29 (.t 1)) .unit,
  .p (.callB 30 n_laws_toIntS [((.t 29), 0)]) .unit,
  .p (.mvT 8 30) .unit])
 (.seq (.reg none [.p (.load 31 (.t 7) 1 true) .unit,
  .p (.mvA 32 8) .unit,
  .p (.callB 33 n_impl_Keep [((.t 31), 0), ((.t 32), 0)]) .unit,
  .p (.alloc 9 [(.sl true 2 [])]) .unit,
  .p (.storeT (.t 9) 33 1) .unit])
 (.seq (.seq (.reg none [.p (.load 34 (.t 9) 1 true) .unit,
  .p (.load 35 (.t 6) 1 true) .unit,
  .p (.callB 36 n_laws_eqTable [((.t 34), 0), ((.t 35), 0)]) .unit,
  .p (.un 37 .not (.t 36)) .unit])
 (.cond (.t 37) (.seq (.reg none [.p (.mv 4 (.c (.bool false))) .unit])
 .ret) .skip))
 (.seq (.seq (.reg (some [[], [], [1], [0, 2, 2], [3]]) [.p (.load 38 (.t 7) 1 true) .unit,
  .p (.load 39 (.t 2) 1 true) .unit,
  .p (.callB 40 n_laws_toTable [((.t 39), 0)]) .unit,
  .p (.callB 41 n_laws_eqTable [((.t 38), 0), ((.t 40), 0)]) .unit,
  .p (.un 42 .not (.t 41)) .unit])
 (.cond (.t 42) (.seq (.reg none [.p (.mv 4 (.c (.bool false))) .unit])
 .ret) .skip))
 (.seq (.seq (.reg none [.p (.mvA 43 8) .unit,
  .p (.mv 44 (.t 1)) .unit,
  .p (.callB 45 n_laws_toIntS [((.t 44), 0)]) .unit,
  .p (.callB 46 n_laws_eqIntS [((.t 43), 0), ((.t 45), 0)]) .unit,
  .p (.un 47 .not (.t 46)) .unit])
 (.cond (.t 47) (.seq (.reg none [.p (.mv 4 (.c (.bool false))) .unit])
 .ret) .skip))
 (.seq (.reg none [.p (.mv 10 (.c (.int .i64 1))) .unit])
 (.seq (.reg none [.p (.load 48 (.t 7) 1 true) .unit,
  .p (.mv 49 (.t 10)) .unit,
  .p (.callM 50 n_laws_markTable [] (.agg (.t 48) 7) [((.t 49), 0)]) .unit,
  .p (.mv 10 (.t 50)) .unit])
 (.seq (.reg none [.p (.mvT 51 8) .unit,
  .p (.mv 52 (.t 10)) .unit,
  .p (.callM 53 n_laws_markIntS [] (.tmp 51) [((.t 52), 0)]) .unit,
  .p (.mv 10 (.t 53)) .unit])
 (.seq (.seq (.join ⟨[(1, true), (2, false), (6, false), (9, false), (61, false)], [.cell (.sl false (.int .i64)), .box (.sl false (.pair .str (.sl false .str))), .box (.sl true (.pair .str (.sl true .str))), .box (.sl true (.pair .str (.sl true .str))), .cell .bool]⟩ (.reg none [.p (.mv 54 (.t 10)) .unit,
  .p (.bin 55 false .lss (.t 54) (.c (.int .i64 0))) .unit,
  .p (.mv 56 (.t 55)) .unit,
  .g 56 false (some 57) (.load 57 (.t 9) 1 true) .unit,
  .g 56 false (some 58) (.load 58 (.t 6) 1 true) .unit,
  .g 56 false (some 59) (.callB 59 n_laws_eqTable [((.t 57), 0), ((.t 58), 0)]) .unit,
  .g 56 false (some 60) (.un 60 .not (.t 59)) .unit,
  .p (.pick 61 (.t 56) (.c (.bool true)) (.t 60)) .unit]))
 (.cond (.t 61) (.seq (.reg none [.p (.mv 4 (.c (.bool false))) .unit])
 .ret) .skip))
 (.seq (.reg none [.p (.mv 11 (.c (.int .i64 1))) .unit])
 (.seq (.reg none [.p (.load 62 (.t 9) 1 true) .unit,
  .p (.mv 63 (.t 11)) .unit,
  .p (.callM 64 n_laws_markTable [] (.agg (.t 62) 9) [((.t 63), 0)]) .unit,
  .p (.mv 11 (.t 64)) .unit])
 (.seq (.reg none [.p (.mv 12 (.c (.int .i64 1))) .unit])
 (.seq (.reg none [.p (.load 65 (.t 9) 1 true) .unit,
  .p (.mv 66 (.t 12)) .unit,
  .p (.callB 67 n_laws_heldTable [((.t 65), 0), ((.t 66), 0)]) .unit,
  .p (.mv 12 (.t 67)) .unit])
 (.seq (.seq (.reg none [.p (.mv 68 (.t 12)) .unit,
  .p (.bin 69 false .lss (.t 68) (.c (.int .i64 0))) .unit])
 (.cond (.t 69) (.seq (.reg none [.p (.mv 4 (.c (.bool false))) .unit])
 .ret) .skip))
 (.seq (.seq (.reg none [.p (.mv 70 (.t 12)) .unit,
  .p (.mv 71 (.t 11)) .unit,
  .p (.bin 72 false .neq (.t 70) (.t 71)) .unit])
 (.cond (.t 72) (.seq (.reg none [.p (.mv 4 (.c (.bool false))) .unit])
 .ret) .skip))
 (.seq (.reg none [.p (.load 73 (.t 2) 1 true) .unit,
  .p (.callB 74 n_laws_toTable [((.t 73), 0)]) .unit,
  .p (.mv 75 (.t 1)) .unit,
  .p (.callB 76 n_laws_toIntS [((.t 75), 0)]) .unit,
  .p (.callB 77 n_impl_Keep [((.t 74), 0), ((.t 76), 0)]) .unit,
  .p (.alloc 13 [(.sl true 2 [])]) .unit,
  .p (.storeT (.t 13) 77 1) .unit])
 (.seq (.seq (.reg none [.p (.load 78 (.t 13) 1 true) .unit,
  .p (.load 79 (.t 6) 1 true) .unit,
  .p (.callB 80 n_laws_eqTable [((.t 78), 0), ((.t 79), 0)]) .unit,
  .p (.un 81 .not (.t 80)) .unit])
 (.cond (.t 81) (.seq (.reg none [.p (.mv 4 (.c (.bool false))) .unit])
 .ret) .skip))
 (.seq (.reg none [.p (.mv 12 (.c (.int .i64 1))) .unit])
 (.seq (.reg none [.p (.load 82 (.t 9) 1 true) .unit,
  .p (.mv 83 (.t 12)) .unit,
  .p (.callB 84 n_laws_heldTable [((.t 82), 0), ((.t 83), 0)]) .unit,
  .p (.mv 12 (.t 84)) .unit])
 (.seq (.seq (.reg none [.p (.mv 85 (.t 12)) .unit,
  .p (.bin 86 false .lss (.t 85) (.c (.int .i64 0))) .unit])
 (.cond (.t 86) (.seq (.reg none [.p (.mv 4 (.c (.bool false))) .unit])
 .ret) .skip))
 (.seq (.seq (.reg none [.p (.mv 87 (.t 12)) .unit,
  .p (.mv 88 (.t 11)) .unit,
  .p (.bin 89 false .neq (.t 87) (.t 88)) .unit])
 (.cond (.t 89) (.seq (.reg none [.p (.mv 4 (.c (.bool false))) .unit])
 .ret) .skip))
 (.seq (.reg none [.p (.mv 4 (.c (.bool true))) .unit])
 .ret))))))))))))))))))))))))))))),
 90, 2, [.t 4]⟩
theorem m_laws_FnExactKeep : mH Tryd.prog 3 [(7, 6, .t), (8, 3, .t), (9, 2, .t), (10, 1, .v), (10, 4, .t), (15, 0, .v), (18, 2, (.g 0 7)), (19, 0, .t), (19, 2, (.m 0)), (23, 2, (.g 0 9)), (30, 6, .t)] = some (F_laws_FnExactKeep.code.x, F_laws_FnExactKeep.N, F_laws_FnExactKeep.np, F_laws_FnExactKeep.res) := by kernel_rfl
noncomputable def T_laws_FnExactKeep : (List (List UInt8 × List (List UInt8))) × List (Int) → Option (Bool) := evF [fn_laws_szTable, fn_laws_toTable, fn_laws_toIntS, fn_spec_Keep, fn_impl_Keep, fn_laws_eqTable, fn_laws_eqIntS, fn_laws_markTable, fn_laws_markIntS, fn_laws_heldTable] F_laws_FnExactKeep [.agg (.sl false (.pair .str (.sl false .str))), .cell (.sl false (.int .i64))] [] [.cell .bool] []
noncomputable def fn_laws_FnExactKeep : TFn := ⟨3, [.agg (.sl false (.pair .str (.sl false .str))), .cell (.sl false (.int .i64))], [], [.cell .bool], [], T_laws_FnExactKeep⟩
theorem ok_laws_FnExactKeep : FnOk Tryd.prog fn_laws_FnExactKeep := evF_ok mixed (allOk_cons ok_laws_szTable (allOk_cons ok_laws_toTable (allOk_cons ok_laws_toIntS (allOk_cons ok_spec_Keep (allOk_cons ok_impl_Keep (allOk_cons ok_laws_eqTable (allOk_cons ok_laws_eqIntS (allOk_cons ok_laws_markTable (allOk_cons ok_laws_markIntS (allOk_cons ok_laws_heldTable allOk_nil)))))))))) m_laws_FnExactKeep (by decide)

end Xs
end Go.Proofs.YtainknkfjekngaaDoor
