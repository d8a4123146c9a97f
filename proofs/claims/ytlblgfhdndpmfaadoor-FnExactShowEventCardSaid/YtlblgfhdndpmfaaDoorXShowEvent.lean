/- The typed code of the functions, printed by program. -/
import Derived.Test.YtlblgfhdndpmfaaDoorT7
import Derived.Test.YtlblgfhdndpmfaaDoorProg
import Derived.KernelRfl


import Derived.Test.YtlblgfhdndpmfaaDoorItoa
namespace Go.Proofs.YtlblgfhdndpmfaaDoor
open Go Vm
namespace Xs
theorem mixed : Tryd.prog.follows .mixedOrders = true := by kernel_rfl
abbrev n_laws_FnExactShowEvent : Nat := 3
abbrev n_laws_szEvent : Nat := 7
abbrev n_spec_ShowEvent : Nat := 8
abbrev n_laws_toEvent : Nat := 9
abbrev n_impl_ShowEvent : Nat := 10
abbrev n_laws_eqEvent : Nat := 11
abbrev n_laws_szRing : Nat := 24
abbrev n_laws_szItem : Nat := 25
abbrev n_laws_szIntS : Nat := 26
abbrev n_spec_Decimal : Nat := 27
abbrev n_spec_l22List : Nat := 28
abbrev n_laws_toRing : Nat := 29
abbrev n_laws_toItem : Nat := 30
abbrev n_laws_toIntS : Nat := 31
abbrev n_impl_Decimal : Nat := 32
abbrev n_impl_withText : Nat := 33
abbrev n_laws_eqRing : Nat := 34
abbrev n_laws_eqItem : Nat := 35
abbrev n_laws_eqIntS : Nat := 36
abbrev n_spec_l01Figure : Nat := 58
abbrev n_strconv_Itoa : Nat := 59
def F_laws_szIntS : TF := ⟨(.seq (.reg none [.p (.mv 4 (.c (.int .i64 0))) .unit])
 (.seq (.reg none [.p (.mv 5 (.t 1)) .unit,
  .p (.mv 6 (.t 0)) .unit,
  .p (.lenB 7 (.t 6)) .unit,
  .p (.bin 8 false .sub (.t 5) (.t 7)) .unit,
  .p (.mv 1 (.t 8)) .unit])
 (.seq (.seq (.reg none [.p (.mv 9 (.t 1)) .unit,
  .p (.bin 10 false .lss (.t 9) (.c (.int .i64 0))) .unit])
 (.cond (.t 10) (.seq (.reg none [.p (.mv 4 (.c (.int .i64 (-1)))) .unit])
 .ret) .skip))
 (.seq (.reg none [.p (.mv 11 (.t 1)) .unit,
  .p (.mv 4 (.t 11)) .unit])
 .ret)))),
 12, 2, [.t 4]⟩
theorem m_laws_szIntS : mH Tryd.prog 26 [] = some (F_laws_szIntS.code.x, F_laws_szIntS.N, F_laws_szIntS.np, F_laws_szIntS.res) := by kernel_rfl
noncomputable def T_laws_szIntS : (List (Int)) × Int → Option (Int) := evF [] F_laws_szIntS [.cell (.sl false (.int .i64)), .cell (.int .i64)] [] [.cell (.int .i64)] []
noncomputable def fn_laws_szIntS : TFn := ⟨26, [.cell (.sl false (.int .i64)), .cell (.int .i64)], [], [.cell (.int .i64)], [], T_laws_szIntS⟩
theorem ok_laws_szIntS : FnOk Tryd.prog fn_laws_szIntS := evF_ok mixed allOk_nil m_laws_szIntS (by decide)
def F_laws_szRing : TF := ⟨(.seq (.reg none [.p (.box 2 (.t 0)) .unit,
  .p (.mv 4 (.c (.int .i64 0))) .unit])
 (.seq (.reg none [.p (.fadr 5 (.t 2) 1) .unit,
  .p (.load 6 (.t 5) 1 false) .unit,
  .p (.mv 7 (.t 1)) .unit,
  .p (.callB 8 n_laws_szIntS [((.t 6), 0), ((.t 7), 0)]) .unit,
  .p (.mv 1 (.t 8)) .unit])
 (.seq (.seq (.reg none [.p (.mv 9 (.t 1)) .unit,
  .p (.bin 10 false .lss (.t 9) (.c (.int .i64 0))) .unit])
 (.cond (.t 10) (.seq (.reg none [.p (.mv 4 (.c (.int .i64 (-1)))) .unit])
 .ret) .skip))
 (.seq (.reg none [.p (.mv 11 (.t 1)) .unit,
  .p (.mv 4 (.t 11)) .unit])
 .ret)))),
 12, 2, [.t 4]⟩
theorem m_laws_szRing : mH Tryd.prog 24 [] = some (F_laws_szRing.code.x, F_laws_szRing.N, F_laws_szRing.np, F_laws_szRing.res) := by kernel_rfl
noncomputable def T_laws_szRing : (Int × List (Int)) × Int → Option (Int) := evF [fn_laws_szIntS] F_laws_szRing [.agg (.pair (.int .i64) (.sl false (.int .i64))), .cell (.int .i64)] [] [.cell (.int .i64)] []
noncomputable def fn_laws_szRing : TFn := ⟨24, [.agg (.pair (.int .i64) (.sl false (.int .i64))), .cell (.int .i64)], [], [.cell (.int .i64)], [], T_laws_szRing⟩
theorem ok_laws_szRing : FnOk Tryd.prog fn_laws_szRing := evF_ok mixed (allOk_cons ok_laws_szIntS allOk_nil) m_laws_szRing (by decide)
def F_laws_szItem : TF := ⟨(.seq (.reg none [.p (.box 2 (.t 0)) .unit,
  .p (.mv 4 (.c (.int .i64 0))) .unit])
 (.seq (.reg none [.p (.mv 5 (.t 1)) .unit,
  .p (.fadr 6 (.t 2) 3) .unit,
  .p (.load 7 (.t 6) 1 false) .unit,
  .p (.lenS 8 (.t 7)) .unit,
  .p (.bin 9 false .sub (.t 5) (.t 8)) .unit,
  .p (.mv 1 (.t 9)) .unit])
 (.seq (.seq (.reg none [.p (.mv 10 (.t 1)) .unit,
  .p (.bin 11 false .lss (.t 10) (.c (.int .i64 0))) .unit])
 (.cond (.t 11) (.seq (.reg none [.p (.mv 4 (.c (.int .i64 (-1)))) .unit])
 .ret) .skip))
 (.seq (.reg none [.p (.mv 12 (.t 1)) .unit,
  .p (.mv 4 (.t 12)) .unit])
 .ret)))),
 13, 2, [.t 4]⟩
theorem m_laws_szItem : mH Tryd.prog 25 [] = some (F_laws_szItem.code.x, F_laws_szItem.N, F_laws_szItem.np, F_laws_szItem.res) := by kernel_rfl
noncomputable def T_laws_szItem : (Int × Int × Int × List UInt8) × Int → Option (Int) := evF [] F_laws_szItem [.agg (.pair (.int .i64) (.pair (.int .i64) (.pair (.int .i64) .str))), .cell (.int .i64)] [] [.cell (.int .i64)] []
noncomputable def fn_laws_szItem : TFn := ⟨25, [.agg (.pair (.int .i64) (.pair (.int .i64) (.pair (.int .i64) .str))), .cell (.int .i64)], [], [.cell (.int .i64)], [], T_laws_szItem⟩
theorem ok_laws_szItem : FnOk Tryd.prog fn_laws_szItem := evF_ok mixed allOk_nil m_laws_szItem (by decide)
def F_laws_szEvent : TF := ⟨(.seq (.reg none [.p (.box 2 (.t 0)) .unit,
  .p (.mv 4 (.c (.int .i64 0))) .unit])
 (.seq (.reg none [.p (.fadr 5 (.t 2) 1) .unit,
  .p (.load 6 (.t 5) 2 true) .unit,
  .p (.mv 7 (.t 1)) .unit,
  .p (.callB 8 n_laws_szRing [((.t 6), 0), ((.t 7), 0)]) .unit,
  .p (.mv 1 (.t 8)) .unit])
 (.seq (.seq (.reg none [.p (.mv 9 (.t 1)) .unit,
  .p (.bin 10 false .lss (.t 9) (.c (.int .i64 0))) .unit])
 (.cond (.t 10) (.seq (.reg none [.p (.mv 4 (.c (.int .i64 (-1)))) .unit])
 .ret) .skip))
 (.seq (.reg none [.p (.fadr 11 (.t 2) 3) .unit,
  .p (.load 12 (.t 11) 4 true) .unit,
  .p (.mv 13 (.t 1)) .unit,
  .p (.callB 14 n_laws_szItem [((.t 12), 0), ((.t 13), 0)]) .unit,
  .p (.mv 1 (.t 14)) .unit])
 (.seq (.seq (.reg none [.p (.mv 15 (.t 1)) .unit,
  .p (.bin 16 false .lss (.t 15) (.c (.int .i64 0))) .unit])
 (.cond (.t 16) (.seq (.reg none [.p (.mv 4 (.c (.int .i64 (-1)))) .unit])
 .ret) .skip))
 (.seq (.reg none [.p (.fadr 17 (.t 2) 7) .unit,
  .p (.load 18 (.t 17) 1 false) .unit,
  .p (.mv 19 (.t 1)) .unit,
  .p (.callB 20 n_laws_szIntS [((.t 18), 0), ((.t 19), 0)]) .unit,
  .p (.mv 1 (.t 20)) .unit])
 (.seq (.seq (.reg none [.p (.mv 21 (.t 1)) .unit,
  .p (.bin 22 false .lss (.t 21) (.c (.int .i64 0))) .unit])
 (.cond (.t 22) (.seq (.reg none [.p (.mv 4 (.c (.int .i64 (-1)))) .unit])
 .ret) .skip))
 (.seq (.reg none [.p (.mv 23 (.t 1)) .unit,
  .p (.mv 4 (.t 23)) .unit])
 .ret)))))))),
 24, 2, [.t 4]⟩
theorem m_laws_szEvent : mH Tryd.prog 7 [] = some (F_laws_szEvent.code.x, F_laws_szEvent.N, F_laws_szEvent.np, F_laws_szEvent.res) := by kernel_rfl
noncomputable def T_laws_szEvent : (Int × (Int × List (Int)) × (Int × Int × Int × List UInt8) × List (Int)) × Int → Option (Int) := evF [fn_laws_szRing, fn_laws_szItem, fn_laws_szIntS] F_laws_szEvent [.agg (.pair (.int .i64) (.pair (.pair (.int .i64) (.sl false (.int .i64))) (.pair (.pair (.int .i64) (.pair (.int .i64) (.pair (.int .i64) .str))) (.sl false (.int .i64))))), .cell (.int .i64)] [] [.cell (.int .i64)] []
noncomputable def fn_laws_szEvent : TFn := ⟨7, [.agg (.pair (.int .i64) (.pair (.pair (.int .i64) (.sl false (.int .i64))) (.pair (.pair (.int .i64) (.pair (.int .i64) (.pair (.int .i64) .str))) (.sl false (.int .i64))))), .cell (.int .i64)], [], [.cell (.int .i64)], [], T_laws_szEvent⟩
theorem ok_laws_szEvent : FnOk Tryd.prog fn_laws_szEvent := evF_ok mixed (allOk_cons ok_laws_szRing (allOk_cons ok_laws_szItem (allOk_cons ok_laws_szIntS allOk_nil))) m_laws_szEvent (by decide)
def B_laws_toIntS_1 : TC := (.seq (.seq (.reg none [.p (.mv 8 (.t 4)) .unit,
  .p (.mv 9 (.t 0)) .unit,
  .p (.lenB 10 (.t 9)) .unit,
  .p (.bin 11 false .lss (.t 8) (.t 10)) .unit])
 (.cond (.t 11) .skip (.exit 0)))
 (.seq (.block 1 (.reg none [.p (.mvA 14 3) .unit,
  .p (.mv 15 (.t 4)) .unit,
  .p (.mv 16 (.t 0)) .unit,
  .p (.mv 17 (.t 4)) .unit,
  .p (.iadr 18 1 (.t 16) (.t 17)) .unit,
  .p (.load 19 (.t 18) 1 false) .unit,
  .p (.iadr 20 1 (.t 14) (.t 15)) .unit,
  .p (.store (.t 20) (.t 19) 1) .unit]))
 (.reg none [.p (.mv 12 (.t 4)) .unit,
  .p (.bin 13 false .add (.t 12) (.c (.int .i64 1))) .unit,
  .p (.mv 4 (.t 13)) .unit])))
noncomputable def L_laws_toIntS_1 : Nat → (List (Int)) × (List (Int)) × Int → Option ((List (Int)) ⊕ (List (Int))) := evL [] (finT [.t 2] [] [.cell (.sl true (.int .i64))]) 0 ⟨[(0, true), (3, false), (4, false)], [.cell (.sl false (.int .i64)), .cell (.sl true (.int .i64)), .cell (.int .i64)]⟩ ⟨[(3, false)], [.cell (.sl true (.int .i64))]⟩ B_laws_toIntS_1
def F_laws_toIntS : TF := ⟨(.seq (.reg none [.p (.mvN 2 1) .unit])
 (.seq (.reg none [.p (.mv 5 (.t 0)) .unit,
  .p (.lenB 6 (.t 5)) .unit,
  .p (.mkS 7 8 [(.lit (.int .i64 0))] (.t 6) (.t 6)) (.int .i64),
  .p (.mvT 3 7) .unit])
 (.seq (.seq (.reg none [.p (.mv 4 (.c (.int .i64 0))) .unit])
 (.jl 0 ⟨[(0, true), (3, false), (4, false)], [.cell (.sl false (.int .i64)), .cell (.sl true (.int .i64)), .cell (.int .i64)]⟩ ⟨[(3, false)], [.cell (.sl true (.int .i64))]⟩ B_laws_toIntS_1))
 (.seq (.reg none [.p (.mvT 21 3) .unit,
  .p (.mvT 2 21) .unit])
 .ret)))),
 22, 1, [.t 2]⟩
theorem m_laws_toIntS : mH Tryd.prog 31 [(1, 3, .t), (5, 0, .v), (6, 0, .t), (6, 1, .t)] = some (F_laws_toIntS.code.x, F_laws_toIntS.N, F_laws_toIntS.np, F_laws_toIntS.res) := by kernel_rfl
noncomputable def T_laws_toIntS : List (Int) → Option (List (Int)) := evF [] F_laws_toIntS [.cell (.sl false (.int .i64))] [] [.cell (.sl true (.int .i64))] []
noncomputable def fn_laws_toIntS : TFn := ⟨31, [.cell (.sl false (.int .i64))], [], [.cell (.sl true (.int .i64))], [], T_laws_toIntS⟩
theorem ok_laws_toIntS : FnOk Tryd.prog fn_laws_toIntS := evF_ok mixed allOk_nil m_laws_toIntS (by decide)
def F_laws_toRing : TF := ⟨(.seq (.reg none [.p (.box 1 (.t 0)) .unit,
  .p (.alloc 2 [(.lit (.int .i64 0)), (.sl true 1 [])]) .unit])
 (.seq (.reg none [.p (.alloc 3 [(.lit (.int .i64 0)), (.sl true 1 [])]) .unit])
 (.seq (.reg none [.p (.fadr 4 (.t 1) 0) .unit,
  .p (.load 5 (.t 4) 1 false) .unit,
  .p (.fadr 6 (.t 3) 0) .unit,
  .p (.store (.t 6) (.t 5) 1) .unit])
 (.seq (.reg none [.p (.fadr 7 (.t 1) 1) .unit,
  .p (.load 8 (.t 7) 1 false) .unit,
  .p (.callB 9 n_laws_toIntS [((.t 8), 0)]) .unit,
  .p (.fadr 10 (.t 3) 1) .unit,
  .p (.storeT (.t 10) 9 1) .unit])
 (.seq (.reg none [.p (.loadT 11 (.t 3) 2 true) .unit,
  .p (.storeT (.t 2) 11 2) .unit])
 .ret))))),
 12, 1, [.c 2 2 true]⟩
theorem m_laws_toRing : mH Tryd.prog 29 [(3, 4, .t), (4, 0, .t), (4, 1, .t)] = some (F_laws_toRing.code.x, F_laws_toRing.N, F_laws_toRing.np, F_laws_toRing.res) := by kernel_rfl
noncomputable def T_laws_toRing : Int × List (Int) → Option (Int × List (Int)) := evF [fn_laws_toIntS] F_laws_toRing [.agg (.pair (.int .i64) (.sl false (.int .i64)))] [] [.agg (.pair (.int .i64) (.sl true (.int .i64)))] []
noncomputable def fn_laws_toRing : TFn := ⟨29, [.agg (.pair (.int .i64) (.sl false (.int .i64)))], [], [.agg (.pair (.int .i64) (.sl true (.int .i64)))], [], T_laws_toRing⟩
theorem ok_laws_toRing : FnOk Tryd.prog fn_laws_toRing := evF_ok mixed (allOk_cons ok_laws_toIntS allOk_nil) m_laws_toRing (by decide)
def F_laws_toItem : TF := ⟨(.seq (.reg none [.p (.box 1 (.t 0)) .unit,
  .p (.alloc 2 [(.lit (.int .i64 0)), (.lit (.int .i64 0)), (.lit (.int .i64 0)), (.lit (.string (ba [])))]) .unit])
 (.seq (.reg none [.p (.alloc 3 [(.lit (.int .i64 0)), (.lit (.int .i64 0)), (.lit (.int .i64 0)), (.lit (.string (ba [])))]) .unit])
 (.seq (.reg none [.p (.fadr 4 (.t 1) 0) .unit,
  .p (.load 5 (.t 4) 1 false) .unit,
  .p (.fadr 6 (.t 3) 0) .unit,
  .p (.store (.t 6) (.t 5) 1) .unit])
 (.seq (.reg none [.p (.fadr 7 (.t 1) 1) .unit,
  .p (.load 8 (.t 7) 1 false) .unit,
  .p (.fadr 9 (.t 3) 1) .unit,
  .p (.store (.t 9) (.t 8) 1) .unit])
 (.seq (.reg none [.p (.fadr 10 (.t 1) 2) .unit,
  .p (.load 11 (.t 10) 1 false) .unit,
  .p (.fadr 12 (.t 3) 2) .unit,
  .p (.store (.t 12) (.t 11) 1) .unit])
 (.seq (.reg none [.p (.fadr 13 (.t 1) 3) .unit,
  .p (.load 14 (.t 13) 1 false) .unit,
  .p (.fadr 15 (.t 3) 3) .unit,
  .p (.store (.t 15) (.t 14) 1) .unit])
 (.seq (.reg none [.p (.load 16 (.t 3) 4 true) .unit,
  .p (.store (.t 2) (.t 16) 4) .unit])
 .ret))))))),
 17, 1, [.c 2 4 true]⟩
theorem m_laws_toItem : mH Tryd.prog 30 [] = some (F_laws_toItem.code.x, F_laws_toItem.N, F_laws_toItem.np, F_laws_toItem.res) := by kernel_rfl
noncomputable def T_laws_toItem : Int × Int × Int × List UInt8 → Option (Int × Int × Int × List UInt8) := evF [] F_laws_toItem [.agg (.pair (.int .i64) (.pair (.int .i64) (.pair (.int .i64) .str)))] [] [.agg (.pair (.int .i64) (.pair (.int .i64) (.pair (.int .i64) .str)))] []
noncomputable def fn_laws_toItem : TFn := ⟨30, [.agg (.pair (.int .i64) (.pair (.int .i64) (.pair (.int .i64) .str)))], [], [.agg (.pair (.int .i64) (.pair (.int .i64) (.pair (.int .i64) .str)))], [], T_laws_toItem⟩
theorem ok_laws_toItem : FnOk Tryd.prog fn_laws_toItem := evF_ok mixed allOk_nil m_laws_toItem (by decide)
def F_laws_toEvent : TF := ⟨(.seq (.reg none [.p (.box 1 (.t 0)) .unit,
  .p (.alloc 2 [(.lit (.int .i64 0)), (.lit (.int .i64 0)), (.sl true 1 []), (.lit (.int .i64 0)), (.lit (.int .i64 0)), (.lit (.int .i64 0)), (.lit (.string (ba []))), (.sl true 1 [])]) .unit])
 (.seq (.reg none [.p (.alloc 3 [(.lit (.int .i64 0)), (.lit (.int .i64 0)), (.sl true 1 []), (.lit (.int .i64 0)), (.lit (.int .i64 0)), (.lit (.int .i64 0)), (.lit (.string (ba []))), (.sl true 1 [])]) .unit])
 (.seq (.reg none [.p (.fadr 4 (.t 1) 0) .unit,
  .p (.load 5 (.t 4) 1 false) .unit,
  .p (.fadr 6 (.t 3) 0) .unit,
  .p (.store (.t 6) (.t 5) 1) .unit])
 (.seq (.reg none [.p (.fadr 7 (.t 1) 1) .unit,
  .p (.load 8 (.t 7) 2 true) .unit,
  .p (.callB 9 n_laws_toRing [((.t 8), 0)]) .unit,
  .p (.fadr 10 (.t 3) 1) .unit,
  .p (.storeT (.t 10) 9 2) .unit])
 (.seq (.reg none [.p (.fadr 11 (.t 1) 3) .unit,
  .p (.load 12 (.t 11) 4 true) .unit,
  .p (.callB 13 n_laws_toItem [((.t 12), 0)]) .unit,
  .p (.fadr 14 (.t 3) 3) .unit,
  .p (.store (.t 14) (.t 13) 4) .unit])
 (.seq (.reg none [.p (.fadr 15 (.t 1) 7) .unit,
  .p (.load 16 (.t 15) 1 false) .unit,
  .p (.callB 17 n_laws_toIntS [((.t 16), 0)]) .unit,
  .p (.fadr 18 (.t 3) 7) .unit,
  .p (.storeT (.t 18) 17 1) .unit])
 (.seq (.reg none [.p (.loadT 19 (.t 3) 8 true) .unit,
  .p (.storeT (.t 2) 19 8) .unit])
 .ret))))))),
 20, 1, [.c 2 8 true]⟩
theorem m_laws_toEvent : mH Tryd.prog 9 [(3, 4, .t), (5, 4, .t), (6, 0, .t), (6, 1, .t)] = some (F_laws_toEvent.code.x, F_laws_toEvent.N, F_laws_toEvent.np, F_laws_toEvent.res) := by kernel_rfl
noncomputable def T_laws_toEvent : Int × (Int × List (Int)) × (Int × Int × Int × List UInt8) × List (Int) → Option (Int × (Int × List (Int)) × (Int × Int × Int × List UInt8) × List (Int)) := evF [fn_laws_toRing, fn_laws_toItem, fn_laws_toIntS] F_laws_toEvent [.agg (.pair (.int .i64) (.pair (.pair (.int .i64) (.sl false (.int .i64))) (.pair (.pair (.int .i64) (.pair (.int .i64) (.pair (.int .i64) .str))) (.sl false (.int .i64)))))] [] [.agg (.pair (.int .i64) (.pair (.pair (.int .i64) (.sl true (.int .i64))) (.pair (.pair (.int .i64) (.pair (.int .i64) (.pair (.int .i64) .str))) (.sl true (.int .i64)))))] []
noncomputable def fn_laws_toEvent : TFn := ⟨9, [.agg (.pair (.int .i64) (.pair (.pair (.int .i64) (.sl false (.int .i64))) (.pair (.pair (.int .i64) (.pair (.int .i64) (.pair (.int .i64) .str))) (.sl false (.int .i64)))))], [], [.agg (.pair (.int .i64) (.pair (.pair (.int .i64) (.sl true (.int .i64))) (.pair (.pair (.int .i64) (.pair (.int .i64) (.pair (.int .i64) .str))) (.sl true (.int .i64)))))], [], T_laws_toEvent⟩
theorem ok_laws_toEvent : FnOk Tryd.prog fn_laws_toEvent := evF_ok mixed (allOk_cons ok_laws_toRing (allOk_cons ok_laws_toItem (allOk_cons ok_laws_toIntS allOk_nil))) m_laws_toEvent (by decide)
def F_spec_l01Figure : TF := ⟨(.seq (.reg none [.p (.mv 2 (.c (.int .u8 0))) .unit])
 (.seq (.seq (.reg none [.p (.mv 3 (.t 0)) .unit,
  .p (.bin 4 false .lss (.t 3) (.c (.int .i64 10))) .unit])
 (.cond (.t 4) (.seq (.reg none [.p (.mv 5 (.t 0)) .unit,
  .p (.bin 6 false .add (.c (.int .i64 48)) (.t 5)) .unit,
  .p (.cvi 7 .u8 .i64 (.t 6)) .unit,
  .p (.mv 2 (.t 7)) .unit])
 .ret) .skip))
 (.seq (.reg none [.p (.mv 8 (.t 0)) .unit,
  .p (.bin 9 false .add (.c (.int .i64 97)) (.t 8)) .unit,
  .p (.bin 10 false .sub (.t 9) (.c (.int .i64 10))) .unit,
  .p (.cvi 11 .u8 .i64 (.t 10)) .unit,
  .p (.mv 2 (.t 11)) .unit])
 .ret))),
 12, 1, [.t 2]⟩
theorem m_spec_l01Figure : mH Tryd.prog 58 [] = some (F_spec_l01Figure.code.x, F_spec_l01Figure.N, F_spec_l01Figure.np, F_spec_l01Figure.res) := by kernel_rfl
noncomputable def T_spec_l01Figure : Int → Option (Int) := evF [] F_spec_l01Figure [.cell (.int .i64)] [] [.cell (.int .u8)] []
noncomputable def fn_spec_l01Figure : TFn := ⟨58, [.cell (.int .i64)], [], [.cell (.int .u8)], [], T_spec_l01Figure⟩
theorem ok_spec_l01Figure : FnOk Tryd.prog fn_spec_l01Figure := evF_ok mixed allOk_nil m_spec_l01Figure (by decide)
def B_spec_Decimal_1 : TC := (.seq (.seq (.reg none [.p (.mv 10 (.t 0)) .unit,
  .p (.bin 11 false .neq (.t 10) (.c (.int .i64 0))) .unit])
 (.cond (.t 11) .skip (.exit 0)))
 (.block 1 (.seq (.reg none [.p (.mv 12 (.t 0)) .unit,
  .p (.bin 13 false .rem (.t 12) (.c (.int .i64 10))) .unit,
  .p (.mv 5 (.t 13)) .unit])
 (.seq (.join ⟨[(0, false), (3, false), (4, false), (5, false)], [.cell (.int .i64), .cell .bool, .cell .str, .cell (.int .i64)]⟩ (.seq (.reg none [.p (.mv 14 (.t 5)) .unit,
  .p (.bin 15 false .lss (.t 14) (.c (.int .i64 0))) .unit])
 (.cond (.t 15) (.reg none [.p (.mv 16 (.t 5)) .unit,
  .p (.un 17 .neg (.t 16)) .unit,
  .p (.mv 5 (.t 17)) .unit]) .skip)))
 (.seq (.reg none [.p (.mv 18 (.t 5)) .unit,
  .p (.callB 19 n_spec_l01Figure [((.t 18), 0)]) .unit,
  .p (.bldS 20 1 [(.lit (.int .u8 0))] [⟨0, 1, (.t 19)⟩]) (.int .u8),
  .p (.b2s 21 (.t 20)) .unit,
  .p (.mv 22 (.t 4)) .unit,
  .p (.bin 23 false .add (.t 21) (.t 22)) .unit,
  .p (.mv 4 (.t 23)) .unit])
 (.reg none [.p (.mv 24 (.t 0)) .unit,
  .p (.bin 25 false .quo (.t 24) (.c (.int .i64 10))) .unit,
  .p (.mv 0 (.t 25)) .unit]))))))
noncomputable def L_spec_Decimal_1 : Nat → (Int) × (Bool) × List UInt8 → Option (((Bool) × List UInt8) ⊕ (List UInt8)) := evL [fn_spec_l01Figure] (finT [.t 2] [] [.cell .str]) 0 ⟨[(0, false), (3, false), (4, false)], [.cell (.int .i64), .cell .bool, .cell .str]⟩ ⟨[(3, false), (4, false)], [.cell .bool, .cell .str]⟩ B_spec_Decimal_1
def F_spec_Decimal : TF := ⟨(.seq (.reg none [.p (.mv 2 (.c (.string (ba [])))) .unit])
 (.seq (.seq (.reg none [.p (.mv 6 (.t 0)) .unit,
  .p (.bin 7 false .eql (.t 6) (.c (.int .i64 0))) .unit])
 (.cond (.t 7) (.seq (.reg none [.p (.mv 2 (.c (.string (ba [48])))) .unit])
 .ret) .skip))
 (.seq (.reg none [.p (.mv 8 (.t 0)) .unit,
  .p (.bin 9 false .lss (.t 8) (.c (.int .i64 0))) .unit,
  .p (.mv 3 (.t 9)) .unit])
 (.seq (.reg none [.p (.mv 4 (.c (.string (ba [])))) .unit])
 (.seq (.jl 0 ⟨[(0, false), (3, false), (4, false)], [.cell (.int .i64), .cell .bool, .cell .str]⟩ ⟨[(3, false), (4, false)], [.cell .bool, .cell .str]⟩ B_spec_Decimal_1)
 (.seq (.seq (.reg none [.p (.mv 26 (.t 3)) .unit])
 (.cond (.t 26) (.seq (.reg none [.p (.mv 27 (.t 4)) .unit,
  .p (.bin 28 false .add (.c (.string (ba [45]))) (.t 27)) .unit,
  .p (.mv 2 (.t 28)) .unit])
 .ret) .skip))
 (.seq (.reg none [.p (.mv 29 (.t 4)) .unit,
  .p (.mv 2 (.t 29)) .unit])
 .ret))))))),
 30, 1, [.t 2]⟩
theorem m_spec_Decimal : mH Tryd.prog 27 [] = some (F_spec_Decimal.code.x, F_spec_Decimal.N, F_spec_Decimal.np, F_spec_Decimal.res) := by kernel_rfl
noncomputable def T_spec_Decimal : Int → Option (List UInt8) := evF [fn_spec_l01Figure] F_spec_Decimal [.cell (.int .i64)] [] [.cell .str] []
noncomputable def fn_spec_Decimal : TFn := ⟨27, [.cell (.int .i64)], [], [.cell .str], [], T_spec_Decimal⟩
theorem ok_spec_Decimal : FnOk Tryd.prog fn_spec_Decimal := evF_ok mixed (allOk_cons ok_spec_l01Figure allOk_nil) m_spec_Decimal (by decide)
def B_spec_l22List_1 : TC := (.seq (.seq (.reg none [.p (.mv 5 (.t 4)) .unit,
  .p (.mv 6 (.t 0)) .unit,
  .p (.lenB 7 (.t 6)) .unit,
  .p (.bin 8 false .lss (.t 5) (.t 7)) .unit])
 (.cond (.t 8) .skip (.exit 0)))
 (.seq (.block 1 (.reg none [.p (.mv 11 (.t 3)) .unit,
  .p (.bin 12 false .add (.t 11) (.c (.string (ba [32])))) .unit,
  .p (.mv 13 (.t 0)) .unit,
  .p (.mv 14 (.t 4)) .unit,
  .p (.iadr 15 1 (.t 13) (.t 14)) .unit,
  .p (.load 16 (.t 15) 1 false) .unit,
  .p (.callB 17 n_spec_Decimal [((.t 16), 0)]) .unit,
  .p (.bin 18 false .add (.t 12) (.t 17)) .unit,
  .p (.mv 3 (.t 18)) .unit]))
 (.reg none [.p (.mv 9 (.t 4)) .unit,
  .p (.bin 10 false .add (.t 9) (.c (.int .i64 1))) .unit,
  .p (.mv 4 (.t 10)) .unit])))
noncomputable def L_spec_l22List_1 : Nat → (List (Int)) × (List UInt8) × Int → Option ((List UInt8) ⊕ (List UInt8)) := evL [fn_spec_Decimal] (finT [.t 2] [] [.cell .str]) 0 ⟨[(0, true), (3, false), (4, false)], [.cell (.sl false (.int .i64)), .cell .str, .cell (.int .i64)]⟩ ⟨[(3, false)], [.cell .str]⟩ B_spec_l22List_1
def F_spec_l22List : TF := ⟨(.seq (.reg none [.p (.mv 2 (.c (.string (ba [])))) .unit])
 (.seq (.reg none [.p (.mv 3 (.c (.string (ba [])))) .unit])
 (.seq (.seq (.reg none [.p (.mv 4 (.c (.int .i64 0))) .unit])
 (.jl 0 ⟨[(0, true), (3, false), (4, false)], [.cell (.sl false (.int .i64)), .cell .str, .cell (.int .i64)]⟩ ⟨[(3, false)], [.cell .str]⟩ B_spec_l22List_1))
 (.seq (.reg none [.p (.mv 19 (.t 3)) .unit,
  .p (.mv 2 (.t 19)) .unit])
 .ret)))),
 20, 1, [.t 2]⟩
theorem m_spec_l22List : mH Tryd.prog 28 [] = some (F_spec_l22List.code.x, F_spec_l22List.N, F_spec_l22List.np, F_spec_l22List.res) := by kernel_rfl
noncomputable def T_spec_l22List : List (Int) → Option (List UInt8) := evF [fn_spec_Decimal] F_spec_l22List [.cell (.sl false (.int .i64))] [] [.cell .str] []
noncomputable def fn_spec_l22List : TFn := ⟨28, [.cell (.sl false (.int .i64))], [], [.cell .str], [], T_spec_l22List⟩
theorem ok_spec_l22List : FnOk Tryd.prog fn_spec_l22List := evF_ok mixed (allOk_cons ok_spec_Decimal allOk_nil) m_spec_l22List (by decide)
def F_spec_ShowEvent : TF := ⟨(.seq (.reg none [.p (.box 1 (.t 0)) .unit,
  .p (.mv 2 (.c (.string (ba [])))) .unit])
 (.seq (.seq (.reg none [.p (.fadr 3 (.t 1) 0) .unit,
  .p (.load 4 (.t 3) 1 false) .unit])
 (.block 0 (.seq (.reg none [.p (.bin 6 false .eql (.t 4) (.c (.int .i64 1))) .unit,
  .p (.mv 5 (.t 6)) .unit])
 (.cond (.t 5) (.seq (.reg (some [[], [0], [1], [2], [3], [], [5], [6], [7, 3], [4, 8], [9], [], [11], [12], [10, 13], [14, 8, 0, 1, 2, 3, 4, 5, 6, 7, 8, 9, 10, 11, 12, 13, 14]]) [.p (.fadr 7 (.t 1) 1) .unit,
  .p (.fadr 8 (.t 7) 0) .unit,
  .p (.load 9 (.t 8) 1 false) .unit,
  .p (.callB 10 n_spec_Decimal [((.t 9), 0)]) .unit,
  .p (.bin 11 false .add (.t 10) (.c (.string (ba [46])))) .unit,
  .p (.fadr 12 (.t 1) 3) .unit,
  .p (.fadr 13 (.t 12) 0) .unit,
  .p (.load 14 (.t 13) 1 false) .unit,
  .p (.callB 15 n_spec_Decimal [((.t 14), 0)]) .unit,
  .p (.bin 16 false .add (.t 11) (.t 15)) .unit,
  .p (.bin 17 false .add (.t 16) (.c (.string (ba [32])))) .unit,
  .p (.fadr 18 (.t 1) 3) .unit,
  .p (.fadr 19 (.t 18) 3) .unit,
  .p (.load 20 (.t 19) 1 false) .unit,
  .p (.bin 21 false .add (.t 17) (.t 20)) .unit,
  .p (.mv 2 (.t 21)) .unit])
 .ret) (.seq (.reg none [.p (.bin 23 false .eql (.t 4) (.c (.int .i64 2))) .unit,
  .p (.mv 22 (.t 23)) .unit])
 (.cond (.t 22) (.seq (.reg (some [[], [0], [1], [2], [3], [], [5], [6, 3], [4, 7], [8, 7, 0, 1, 2, 3, 4, 5, 6, 7, 8]]) [.p (.fadr 24 (.t 1) 1) .unit,
  .p (.fadr 25 (.t 24) 0) .unit,
  .p (.load 26 (.t 25) 1 false) .unit,
  .p (.callB 27 n_spec_Decimal [((.t 26), 0)]) .unit,
  .p (.bin 28 false .add (.c (.string (ba [112, 97, 114, 116, 32]))) (.t 27)) .unit,
  .p (.fadr 29 (.t 1) 7) .unit,
  .p (.load 30 (.t 29) 1 false) .unit,
  .p (.callB 31 n_spec_l22List [((.t 30), 0)]) .unit,
  .p (.bin 32 false .add (.t 28) (.t 31)) .unit,
  .p (.mv 2 (.t 32)) .unit])
 .ret) (.seq (.reg none [.p (.bin 34 false .eql (.t 4) (.c (.int .i64 3))) .unit,
  .p (.mv 33 (.t 34)) .unit])
 (.cond (.t 33) (.seq (.reg (some [[], [0], [1], [2], [3], [], [5], [6, 3], [4, 7], [8, 7, 0, 1, 2, 3, 4, 5, 6, 7, 8]]) [.p (.fadr 35 (.t 1) 1) .unit,
  .p (.fadr 36 (.t 35) 0) .unit,
  .p (.load 37 (.t 36) 1 false) .unit,
  .p (.callB 38 n_spec_Decimal [((.t 37), 0)]) .unit,
  .p (.bin 39 false .add (.c (.string (ba [119, 104, 111, 108, 101, 32]))) (.t 38)) .unit,
  .p (.fadr 40 (.t 1) 7) .unit,
  .p (.load 41 (.t 40) 1 false) .unit,
  .p (.callB 42 n_spec_l22List [((.t 41), 0)]) .unit,
  .p (.bin 43 false .add (.t 39) (.t 42)) .unit,
  .p (.mv 2 (.t 43)) .unit])
 .ret) .skip))))))))
 (.seq (.reg none [.p (.mv 2 (.c (.string (ba [])))) .unit])
 .ret))),
 44, 1, [.t 2]⟩
theorem m_spec_ShowEvent : mH Tryd.prog 8 [] = some (F_spec_ShowEvent.code.x, F_spec_ShowEvent.N, F_spec_ShowEvent.np, F_spec_ShowEvent.res) := by kernel_rfl
noncomputable def T_spec_ShowEvent : Int × (Int × List (Int)) × (Int × Int × Int × List UInt8) × List (Int) → Option (List UInt8) := evF [fn_spec_Decimal, fn_spec_l22List] F_spec_ShowEvent [.agg (.pair (.int .i64) (.pair (.pair (.int .i64) (.sl false (.int .i64))) (.pair (.pair (.int .i64) (.pair (.int .i64) (.pair (.int .i64) .str))) (.sl false (.int .i64)))))] [] [.cell .str] []
noncomputable def fn_spec_ShowEvent : TFn := ⟨8, [.agg (.pair (.int .i64) (.pair (.pair (.int .i64) (.sl false (.int .i64))) (.pair (.pair (.int .i64) (.pair (.int .i64) (.pair (.int .i64) .str))) (.sl false (.int .i64)))))], [], [.cell .str], [], T_spec_ShowEvent⟩
theorem ok_spec_ShowEvent : FnOk Tryd.prog fn_spec_ShowEvent := evF_ok mixed (allOk_cons ok_spec_Decimal (allOk_cons ok_spec_l22List allOk_nil)) m_spec_ShowEvent (by decide)
def F_impl_Decimal : TF := ⟨(.seq (.reg none [.p (.mv 2 (.c (.string (ba [])))) .unit])
 (.seq (.reg none [.p (.mv 3 (.t 0)) .unit,
  .p (.callB 4 n_strconv_Itoa [((.t 3), 0)]) .unit,
  .p (.mv 2 (.t 4)) .unit])
 .ret)),
 5, 1, [.t 2]⟩
theorem m_impl_Decimal : mH Tryd.prog 32 [] = some (F_impl_Decimal.code.x, F_impl_Decimal.N, F_impl_Decimal.np, F_impl_Decimal.res) := by kernel_rfl
noncomputable def T_impl_Decimal : Int → Option (List UInt8) := evF [fn_strconv_Itoa] F_impl_Decimal [.cell (.int .i64)] [] [.cell .str] []
noncomputable def fn_impl_Decimal : TFn := ⟨32, [.cell (.int .i64)], [], [.cell .str], [], T_impl_Decimal⟩
theorem ok_impl_Decimal : FnOk Tryd.prog fn_impl_Decimal := evF_ok mixed (allOk_cons ok_strconv_Itoa allOk_nil) m_impl_Decimal (by decide)
def B_impl_withText_1 : TC := (.seq (.reg none [.p (.bin 19 false .lss (.t 18) (.t 17)) .unit])
 (.seq (.cond (.t 19) .skip (.exit 0))
 (.seq (.block 1 (.seq (.reg none [.p (.iadr 20 1 (.t 16) (.t 18)) .unit,
  .p (.load 21 (.t 20) 1 false) .unit,
  .p (.mv 7 (.t 21)) .unit])
 (.reg none [.p (.mv 22 (.t 5)) .unit,
  .p (.mv 23 (.t 7)) .unit,
  .p (.callB 24 n_impl_Decimal [((.t 23), 0)]) .unit,
  .p (.bin 25 false .add (.c (.string (ba [32]))) (.t 24)) .unit,
  .p (.bin 26 false .add (.t 22) (.t 25)) .unit,
  .p (.mv 5 (.t 26)) .unit])))
 (.reg none [.p (.bin 27 false .add (.t 18) (.c (.int .i64 1))) .unit,
  .p (.mv 18 (.t 27)) .unit]))))
noncomputable def L_impl_withText_1 : Nat → (List UInt8) × (List (Int)) × (Int) × Int → Option ((List UInt8) ⊕ (List UInt8)) := evL [fn_impl_Decimal] (finT [.t 4] [] [.cell .str]) 0 ⟨[(5, false), (16, false), (17, false), (18, false)], [.cell .str, .cell (.sl false (.int .i64)), .cell (.int .i64), .cell (.int .i64)]⟩ ⟨[(5, false)], [.cell .str]⟩ B_impl_withText_1
def F_impl_withText : TF := ⟨(.seq (.reg none [.p (.box 3 (.t 1)) .unit,
  .p (.mv 4 (.c (.string (ba [])))) .unit])
 (.seq (.reg none [.p (.mv 8 (.t 0)) .unit,
  .p (.bin 9 false .add (.t 8) (.c (.string (ba [32])))) .unit,
  .p (.fadr 10 (.t 3) 1) .unit,
  .p (.fadr 11 (.t 10) 0) .unit,
  .p (.load 12 (.t 11) 1 false) .unit,
  .p (.callB 13 n_impl_Decimal [((.t 12), 0)]) .unit,
  .p (.bin 14 false .add (.t 9) (.t 13)) .unit,
  .p (.mv 5 (.t 14)) .unit])
 (.seq (.seq (.reg none [.p (.fadr 15 (.t 3) 7) .unit,
  .p (.load 16 (.t 15) 1 false) .unit,
  .p (.lenB 17 (.t 16)) .unit,
  .p (.mv 18 (.c (.int .i64 0))) .unit])
 (.jl 0 ⟨[(5, false), (16, false), (17, false), (18, false)], [.cell .str, .cell (.sl false (.int .i64)), .cell (.int .i64), .cell (.int .i64)]⟩ ⟨[(5, false)], [.cell .str]⟩ B_impl_withText_1))
 (.seq (.reg none [.p (.mv 28 (.t 5)) .unit,
  .p (.mv 4 (.t 28)) .unit])
 .ret)))),
 29, 2, [.t 4]⟩
theorem m_impl_withText : mH Tryd.prog 33 [] = some (F_impl_withText.code.x, F_impl_withText.N, F_impl_withText.np, F_impl_withText.res) := by kernel_rfl
noncomputable def T_impl_withText : (List UInt8) × Int × (Int × List (Int)) × (Int × Int × Int × List UInt8) × List (Int) → Option (List UInt8) := evF [fn_impl_Decimal] F_impl_withText [.cell .str, .agg (.pair (.int .i64) (.pair (.pair (.int .i64) (.sl false (.int .i64))) (.pair (.pair (.int .i64) (.pair (.int .i64) (.pair (.int .i64) .str))) (.sl false (.int .i64)))))] [] [.cell .str] []
noncomputable def fn_impl_withText : TFn := ⟨33, [.cell .str, .agg (.pair (.int .i64) (.pair (.pair (.int .i64) (.sl false (.int .i64))) (.pair (.pair (.int .i64) (.pair (.int .i64) (.pair (.int .i64) .str))) (.sl false (.int .i64)))))], [], [.cell .str], [], T_impl_withText⟩
theorem ok_impl_withText : FnOk Tryd.prog fn_impl_withText := evF_ok mixed (allOk_cons ok_impl_Decimal allOk_nil) m_impl_withText (by decide)
def F_impl_ShowEvent : TF := ⟨(.seq (.reg none [.p (.box 1 (.t 0)) .unit,
  .p (.mv 2 (.c (.string (ba [])))) .unit])
 (.seq (.seq (.reg none [.p (.fadr 3 (.t 1) 0) .unit,
  .p (.load 4 (.t 3) 1 false) .unit])
 (.block 0 (.seq (.reg none [.p (.bin 6 false .eql (.t 4) (.c (.int .i64 1))) .unit,
  .p (.mv 5 (.t 6)) .unit])
 (.cond (.t 5) (.seq (.reg (some [[], [0], [1], [2], [3], [], [5], [6], [7, 3], [4, 8], [9], [], [11], [12], [10, 13], [14, 8, 0, 1, 2, 3, 4, 5, 6, 7, 8, 9, 10, 11, 12, 13, 14]]) [.p (.fadr 7 (.t 1) 1) .unit,
  .p (.fadr 8 (.t 7) 0) .unit,
  .p (.load 9 (.t 8) 1 false) .unit,
  .p (.callB 10 n_impl_Decimal [((.t 9), 0)]) .unit,
  .p (.bin 11 false .add (.t 10) (.c (.string (ba [46])))) .unit,
  .p (.fadr 12 (.t 1) 3) .unit,
  .p (.fadr 13 (.t 12) 0) .unit,
  .p (.load 14 (.t 13) 1 false) .unit,
  .p (.callB 15 n_impl_Decimal [((.t 14), 0)]) .unit,
  .p (.bin 16 false .add (.t 11) (.t 15)) .unit,
  .p (.bin 17 false .add (.t 16) (.c (.string (ba [32])))) .unit,
  .p (.fadr 18 (.t 1) 3) .unit,
  .p (.fadr 19 (.t 18) 3) .unit,
  .p (.load 20 (.t 19) 1 false) .unit,
  .p (.bin 21 false .add (.t 17) (.t 20)) .unit,
  .p (.mv 2 (.t 21)) .unit])
 .ret) (.seq (.reg none [.p (.bin 23 false .eql (.t 4) (.c (.int .i64 2))) .unit,
  .p (.mv 22 (.t 23)) .unit])
 (.cond (.t 22) (.seq (.reg none [.p (.load 24 (.t 1) 8 true) .unit,
  .p (.callB 25 n_impl_withText [((.c (.string (ba [112, 97, 114, 116]))), 0), ((.t 24), 0)]) .unit,
  .p (.mv 2 (.t 25)) .unit])
 .ret) (.seq (.reg none [.p (.bin 27 false .eql (.t 4) (.c (.int .i64 3))) .unit,
  .p (.mv 26 (.t 27)) .unit])
 (.cond (.t 26) (.seq (.reg none [.p (.load 28 (.t 1) 8 true) .unit,
  .p (.callB 29 n_impl_withText [((.c (.string (ba [119, 104, 111, 108, 101]))), 0), ((.t 28), 0)]) .unit,
  .p (.mv 2 (.t 29)) .unit])
 .ret) .skip))))))))
 (.seq (.reg none [.p (.mv 2 (.c (.string (ba [])))) .unit])
 .ret))),
 30, 1, [.t 2]⟩
theorem m_impl_ShowEvent : mH Tryd.prog 10 [] = some (F_impl_ShowEvent.code.x, F_impl_ShowEvent.N, F_impl_ShowEvent.np, F_impl_ShowEvent.res) := by kernel_rfl
noncomputable def T_impl_ShowEvent : Int × (Int × List (Int)) × (Int × Int × Int × List UInt8) × List (Int) → Option (List UInt8) := evF [fn_impl_Decimal, fn_impl_withText] F_impl_ShowEvent [.agg (.pair (.int .i64) (.pair (.pair (.int .i64) (.sl false (.int .i64))) (.pair (.pair (.int .i64) (.pair (.int .i64) (.pair (.int .i64) .str))) (.sl false (.int .i64)))))] [] [.cell .str] []
noncomputable def fn_impl_ShowEvent : TFn := ⟨10, [.agg (.pair (.int .i64) (.pair (.pair (.int .i64) (.sl false (.int .i64))) (.pair (.pair (.int .i64) (.pair (.int .i64) (.pair (.int .i64) .str))) (.sl false (.int .i64)))))], [], [.cell .str], [], T_impl_ShowEvent⟩
theorem ok_impl_ShowEvent : FnOk Tryd.prog fn_impl_ShowEvent := evF_ok mixed (allOk_cons ok_impl_Decimal (allOk_cons ok_impl_withText allOk_nil)) m_impl_ShowEvent (by decide)
def B_laws_eqIntS_1 : TC := (.seq (.seq (.reg none [.p (.mv 11 (.t 5)) .unit,
  .p (.mv 12 (.t 0)) .unit,
  .p (.lenB 13 (.t 12)) .unit,
  .p (.bin 14 false .lss (.t 11) (.t 13)) .unit])
 (.cond (.t 14) .skip (.exit 0)))
 (.seq (.block 1 (.seq (.reg (some [[], [], [0, 1], [2], [], [], [4, 5], [6], [3, 7]]) [.p (.mv 17 (.t 0)) .unit,
  .p (.mv 18 (.t 5)) .unit,
  .p (.iadr 19 1 (.t 17) (.t 18)) .unit,
  .p (.load 20 (.t 19) 1 false) .unit,
  .p (.mv 21 (.t 1)) .unit,
  .p (.mv 22 (.t 5)) .unit,
  .p (.iadr 23 1 (.t 21) (.t 22)) .unit,
  .p (.load 24 (.t 23) 1 false) .unit,
  .p (.bin 25 false .neq (.t 20) (.t 24)) .unit])
 (.cond (.t 25) (.seq (.reg none [.p (.mv 4 (.c (.bool false))) .unit])
 .ret) .skip)))
 (.reg none [.p (.mv 15 (.t 5)) .unit,
  .p (.bin 16 false .add (.t 15) (.c (.int .i64 1))) .unit,
  .p (.mv 5 (.t 16)) .unit])))
noncomputable def L_laws_eqIntS_1 : Nat → (List (Int)) × (List (Int)) × Int → Option ((Unit) ⊕ (Bool)) := evL [] (finT [.t 4] [] [.cell .bool]) 0 ⟨[(0, true), (1, true), (5, false)], [.cell (.sl false (.int .i64)), .cell (.sl false (.int .i64)), .cell (.int .i64)]⟩ ⟨[], []⟩ B_laws_eqIntS_1
def F_laws_eqIntS : TF := ⟨(.seq (.reg none [.p (.mv 4 (.c (.bool false))) .unit])
 (.seq (.seq (.reg none [.p (.mv 6 (.t 0)) .unit,
  .p (.lenB 7 (.t 6)) .unit,
  .p (.mv 8 (.t 1)) .unit,
  .p (.lenB 9 (.t 8)) .unit,
  .p (.bin 10 false .neq (.t 7) (.t 9)) .unit])
 (.cond (.t 10) (.seq (.reg none [.p (.mv 4 (.c (.bool false))) .unit])
 .ret) .skip))
 (.seq (.seq (.reg none [.p (.mv 5 (.c (.int .i64 0))) .unit])
 (.jl 0 ⟨[(0, true), (1, true), (5, false)], [.cell (.sl false (.int .i64)), .cell (.sl false (.int .i64)), .cell (.int .i64)]⟩ ⟨[], []⟩ B_laws_eqIntS_1))
 (.seq (.reg none [.p (.mv 4 (.c (.bool true))) .unit])
 .ret)))),
 26, 2, [.t 4]⟩
theorem m_laws_eqIntS : mH Tryd.prog 36 [] = some (F_laws_eqIntS.code.x, F_laws_eqIntS.N, F_laws_eqIntS.np, F_laws_eqIntS.res) := by kernel_rfl
noncomputable def T_laws_eqIntS : (List (Int)) × List (Int) → Option (Bool) := evF [] F_laws_eqIntS [.cell (.sl false (.int .i64)), .cell (.sl false (.int .i64))] [] [.cell .bool] []
noncomputable def fn_laws_eqIntS : TFn := ⟨36, [.cell (.sl false (.int .i64)), .cell (.sl false (.int .i64))], [], [.cell .bool], [], T_laws_eqIntS⟩
theorem ok_laws_eqIntS : FnOk Tryd.prog fn_laws_eqIntS := evF_ok mixed allOk_nil m_laws_eqIntS (by decide)
def F_laws_eqRing : TF := ⟨(.seq (.reg none [.p (.box 2 (.t 0)) .unit,
  .p (.box 3 (.t 1)) .unit,
  .p (.mv 4 (.c (.bool false))) .unit])
 (.seq (.seq (.reg none [.p (.fadr 5 (.t 2) 0) .unit,
  .p (.load 6 (.t 5) 1 false) .unit,
  .p (.fadr 7 (.t 3) 0) .unit,
  .p (.load 8 (.t 7) 1 false) .unit,
  .p (.bin 9 false .neq (.t 6) (.t 8)) .unit])
 (.cond (.t 9) (.seq (.reg none [.p (.mv 4 (.c (.bool false))) .unit])
 .ret) .skip))
 (.seq (.seq (.reg none [.p (.fadr 10 (.t 2) 1) .unit,
  .p (.load 11 (.t 10) 1 false) .unit,
  .p (.fadr 12 (.t 3) 1) .unit,
  .p (.load 13 (.t 12) 1 false) .unit,
  .p (.callB 14 n_laws_eqIntS [((.t 11), 0), ((.t 13), 0)]) .unit,
  .p (.un 15 .not (.t 14)) .unit])
 (.cond (.t 15) (.seq (.reg none [.p (.mv 4 (.c (.bool false))) .unit])
 .ret) .skip))
 (.seq (.reg none [.p (.mv 4 (.c (.bool true))) .unit])
 .ret)))),
 16, 2, [.t 4]⟩
theorem m_laws_eqRing : mH Tryd.prog 34 [] = some (F_laws_eqRing.code.x, F_laws_eqRing.N, F_laws_eqRing.np, F_laws_eqRing.res) := by kernel_rfl
noncomputable def T_laws_eqRing : (Int × List (Int)) × Int × List (Int) → Option (Bool) := evF [fn_laws_eqIntS] F_laws_eqRing [.agg (.pair (.int .i64) (.sl false (.int .i64))), .agg (.pair (.int .i64) (.sl false (.int .i64)))] [] [.cell .bool] []
noncomputable def fn_laws_eqRing : TFn := ⟨34, [.agg (.pair (.int .i64) (.sl false (.int .i64))), .agg (.pair (.int .i64) (.sl false (.int .i64)))], [], [.cell .bool], [], T_laws_eqRing⟩
theorem ok_laws_eqRing : FnOk Tryd.prog fn_laws_eqRing := evF_ok mixed (allOk_cons ok_laws_eqIntS allOk_nil) m_laws_eqRing (by decide)
def F_laws_eqItem : TF := ⟨(.seq (.reg none [.p (.box 2 (.t 0)) .unit,
  .p (.box 3 (.t 1)) .unit,
  .p (.mv 4 (.c (.bool false))) .unit])
 (.seq (.seq (.reg none [.p (.fadr 5 (.t 2) 0) .unit,
  .p (.load 6 (.t 5) 1 false) .unit,
  .p (.fadr 7 (.t 3) 0) .unit,
  .p (.load 8 (.t 7) 1 false) .unit,
  .p (.bin 9 false .neq (.t 6) (.t 8)) .unit])
 (.cond (.t 9) (.seq (.reg none [.p (.mv 4 (.c (.bool false))) .unit])
 .ret) .skip))
 (.seq (.seq (.reg none [.p (.fadr 10 (.t 2) 1) .unit,
  .p (.load 11 (.t 10) 1 false) .unit,
  .p (.fadr 12 (.t 3) 1) .unit,
  .p (.load 13 (.t 12) 1 false) .unit,
  .p (.bin 14 false .neq (.t 11) (.t 13)) .unit])
 (.cond (.t 14) (.seq (.reg none [.p (.mv 4 (.c (.bool false))) .unit])
 .ret) .skip))
 (.seq (.seq (.reg none [.p (.fadr 15 (.t 2) 2) .unit,
  .p (.load 16 (.t 15) 1 false) .unit,
  .p (.fadr 17 (.t 3) 2) .unit,
  .p (.load 18 (.t 17) 1 false) .unit,
  .p (.bin 19 false .neq (.t 16) (.t 18)) .unit])
 (.cond (.t 19) (.seq (.reg none [.p (.mv 4 (.c (.bool false))) .unit])
 .ret) .skip))
 (.seq (.seq (.reg none [.p (.fadr 20 (.t 2) 3) .unit,
  .p (.load 21 (.t 20) 1 false) .unit,
  .p (.fadr 22 (.t 3) 3) .unit,
  .p (.load 23 (.t 22) 1 false) .unit,
  .p (.bin 24 false .neq (.t 21) (.t 23)) .unit])
 (.cond (.t 24) (.seq (.reg none [.p (.mv 4 (.c (.bool false))) .unit])
 .ret) .skip))
 (.seq (.reg none [.p (.mv 4 (.c (.bool true))) .unit])
 .ret)))))),
 25, 2, [.t 4]⟩
theorem m_laws_eqItem : mH Tryd.prog 35 [] = some (F_laws_eqItem.code.x, F_laws_eqItem.N, F_laws_eqItem.np, F_laws_eqItem.res) := by kernel_rfl
noncomputable def T_laws_eqItem : (Int × Int × Int × List UInt8) × Int × Int × Int × List UInt8 → Option (Bool) := evF [] F_laws_eqItem [.agg (.pair (.int .i64) (.pair (.int .i64) (.pair (.int .i64) .str))), .agg (.pair (.int .i64) (.pair (.int .i64) (.pair (.int .i64) .str)))] [] [.cell .bool] []
noncomputable def fn_laws_eqItem : TFn := ⟨35, [.agg (.pair (.int .i64) (.pair (.int .i64) (.pair (.int .i64) .str))), .agg (.pair (.int .i64) (.pair (.int .i64) (.pair (.int .i64) .str)))], [], [.cell .bool], [], T_laws_eqItem⟩
theorem ok_laws_eqItem : FnOk Tryd.prog fn_laws_eqItem := evF_ok mixed allOk_nil m_laws_eqItem (by decide)
def F_laws_eqEvent : TF := ⟨(.seq (.reg none [.p (.box 2 (.t 0)) .unit,
  .p (.box 3 (.t 1)) .unit,
  .p (.mv 4 (.c (.bool false))) .unit])
 (.seq (.seq (.reg none [.p (.fadr 5 (.t 2) 0) .unit,
  .p (.load 6 (.t 5) 1 false) .unit,
  .p (.fadr 7 (.t 3) 0) .unit,
  .p (.load 8 (.t 7) 1 false) .unit,
  .p (.bin 9 false .neq (.t 6) (.t 8)) .unit])
 (.cond (.t 9) (.seq (.reg none [.p (.mv 4 (.c (.bool false))) .unit])
 .ret) .skip))
 (.seq (.seq (.reg none [.p (.fadr 10 (.t 2) 1) .unit,
  .p (.load 11 (.t 10) 2 true) .unit,
  .p (.fadr 12 (.t 3) 1) .unit,
  .p (.load 13 (.t 12) 2 true) .unit,
  .p (.callB 14 n_laws_eqRing [((.t 11), 0), ((.t 13), 0)]) .unit,
  .p (.un 15 .not (.t 14)) .unit])
 (.cond (.t 15) (.seq (.reg none [.p (.mv 4 (.c (.bool false))) .unit])
 .ret) .skip))
 (.seq (.seq (.reg none [.p (.fadr 16 (.t 2) 3) .unit,
  .p (.load 17 (.t 16) 4 true) .unit,
  .p (.fadr 18 (.t 3) 3) .unit,
  .p (.load 19 (.t 18) 4 true) .unit,
  .p (.callB 20 n_laws_eqItem [((.t 17), 0), ((.t 19), 0)]) .unit,
  .p (.un 21 .not (.t 20)) .unit])
 (.cond (.t 21) (.seq (.reg none [.p (.mv 4 (.c (.bool false))) .unit])
 .ret) .skip))
 (.seq (.seq (.reg none [.p (.fadr 22 (.t 2) 7) .unit,
  .p (.load 23 (.t 22) 1 false) .unit,
  .p (.fadr 24 (.t 3) 7) .unit,
  .p (.load 25 (.t 24) 1 false) .unit,
  .p (.callB 26 n_laws_eqIntS [((.t 23), 0), ((.t 25), 0)]) .unit,
  .p (.un 27 .not (.t 26)) .unit])
 (.cond (.t 27) (.seq (.reg none [.p (.mv 4 (.c (.bool false))) .unit])
 .ret) .skip))
 (.seq (.reg none [.p (.mv 4 (.c (.bool true))) .unit])
 .ret)))))),
 28, 2, [.t 4]⟩
theorem m_laws_eqEvent : mH Tryd.prog 11 [] = some (F_laws_eqEvent.code.x, F_laws_eqEvent.N, F_laws_eqEvent.np, F_laws_eqEvent.res) := by kernel_rfl
noncomputable def T_laws_eqEvent : (Int × (Int × List (Int)) × (Int × Int × Int × List UInt8) × List (Int)) × Int × (Int × List (Int)) × (Int × Int × Int × List UInt8) × List (Int) → Option (Bool) := evF [fn_laws_eqRing, fn_laws_eqItem, fn_laws_eqIntS] F_laws_eqEvent [.agg (.pair (.int .i64) (.pair (.pair (.int .i64) (.sl false (.int .i64))) (.pair (.pair (.int .i64) (.pair (.int .i64) (.pair (.int .i64) .str))) (.sl false (.int .i64))))), .agg (.pair (.int .i64) (.pair (.pair (.int .i64) (.sl false (.int .i64))) (.pair (.pair (.int .i64) (.pair (.int .i64) (.pair (.int .i64) .str))) (.sl false (.int .i64)))))] [] [.cell .bool] []
noncomputable def fn_laws_eqEvent : TFn := ⟨11, [.agg (.pair (.int .i64) (.pair (.pair (.int .i64) (.sl false (.int .i64))) (.pair (.pair (.int .i64) (.pair (.int .i64) (.pair (.int .i64) .str))) (.sl false (.int .i64))))), .agg (.pair (.int .i64) (.pair (.pair (.int .i64) (.sl false (.int .i64))) (.pair (.pair (.int .i64) (.pair (.int .i64) (.pair (.int .i64) .str))) (.sl false (.int .i64)))))], [], [.cell .bool], [], T_laws_eqEvent⟩
theorem ok_laws_eqEvent : FnOk Tryd.prog fn_laws_eqEvent := evF_ok mixed (allOk_cons ok_laws_eqRing (allOk_cons ok_laws_eqItem (allOk_cons ok_laws_eqIntS allOk_nil))) m_laws_eqEvent (by decide)
def F_laws_FnExactShowEvent : TF := ⟨(.seq (.reg none [.p (.box 1 (.t 0)) .unit,
  .p (.mv 2 (.c (.bool false))) .unit])
 (.seq (.reg none [.p (.mv 3 (.c (.int .i64 1048576))) .unit])
 (.seq (.reg none [.p (.load 7 (.t 1) 8 true) .unit,
  .p (.mv 8 (.t 3)) .unit,
  .p (.callB 9 n_laws_szEvent [((.t 7), 0), ((.t 8), 0)]) .unit,
  .p (.mv 3 (.t 9)) .unit])
 (.seq (.seq (.reg none [.p (.mv 10 (.t 3)) .unit,
  .p (.bin 11 false .lss (.t 10) (.c (.int .i64 0))) .unit])
 (.cond (.t 11) (.seq (.reg none [.p (.mv 2 (.c (.bool true))) .unit])
 .ret) .skip))
 (.seq (.reg none [.p (.load 12 (.t 1) 8 true) .unit,
  .p (.callB 13 n_laws_toEvent [((.t 12), 0)]) .unit,
  .p (.callB 14 n_spec_ShowEvent [((.t 13), 0)]) .unit,
  .p (.mv 4 (.t 14)) .unit])
 (.seq (.reg none [.p (.load 15 (.t 1) 8 true) .unit,
  .p (.callB 16 n_laws_toEvent [((.t 15), 0)]) .unit,
  .p (.alloc 5 [(.lit (.int .i64 0)), (.lit (.int .i64 0)), (.sl true 1 []), (.lit (.int .i64 0)), (.lit (.int .i64 0)), (.lit (.int .i64 0)), (.lit (.string (ba []))), (.sl true 1 [])]) .unit,
  .p (.storeT (.t 5) 16 8) .unit])
 (.seq (.reg none [.p (.load 17 (.t 5) 8 true) .unit,
  .p (.callB 18 n_impl_ShowEvent [((.t 17), 0)]) .unit,
  .p (.mv 6 (.t 18)) .unit])
 (.seq (.seq (.reg none [.p (.mv 19 (.t 6)) .unit,
  .p (.mv 20 (.t 4)) .unit,
  .p (.bin 21 false .neq (.t 19) (.t 20)) .unit])
 (.cond (.t 21) (.seq (.reg none [.p (.mv 2 (.c (.bool false))) .unit])
 .ret) .skip))
 (.seq (.seq (.reg (some [[], [], [1], [0, 2, 2], [3]]) [.p (.load 22 (.t 5) 8 true) .unit,
  .p (.load 23 (.t 1) 8 true) .unit,
  .p (.callB 24 n_laws_toEvent [((.t 23), 0)]) .unit,
  .p (.callB 25 n_laws_eqEvent [((.t 22), 0), ((.t 24), 0)]) .unit,
  .p (.un 26 .not (.t 25)) .unit])
 (.cond (.t 26) (.seq (.reg none [.p (.mv 2 (.c (.bool false))) .unit])
 .ret) .skip))
 (.seq (.reg none [.p (.mv 2 (.c (.bool true))) .unit])
 .ret)))))))))),
 27, 1, [.t 2]⟩
theorem m_laws_FnExactShowEvent : mH Tryd.prog 3 [(6, 3, .t)] = some (F_laws_FnExactShowEvent.code.x, F_laws_FnExactShowEvent.N, F_laws_FnExactShowEvent.np, F_laws_FnExactShowEvent.res) := by kernel_rfl
noncomputable def T_laws_FnExactShowEvent : Int × (Int × List (Int)) × (Int × Int × Int × List UInt8) × List (Int) → Option (Bool) := evF [fn_laws_szEvent, fn_laws_toEvent, fn_spec_ShowEvent, fn_impl_ShowEvent, fn_laws_eqEvent] F_laws_FnExactShowEvent [.agg (.pair (.int .i64) (.pair (.pair (.int .i64) (.sl false (.int .i64))) (.pair (.pair (.int .i64) (.pair (.int .i64) (.pair (.int .i64) .str))) (.sl false (.int .i64)))))] [] [.cell .bool] []
noncomputable def fn_laws_FnExactShowEvent : TFn := ⟨3, [.agg (.pair (.int .i64) (.pair (.pair (.int .i64) (.sl false (.int .i64))) (.pair (.pair (.int .i64) (.pair (.int .i64) (.pair (.int .i64) .str))) (.sl false (.int .i64)))))], [], [.cell .bool], [], T_laws_FnExactShowEvent⟩
theorem ok_laws_FnExactShowEvent : FnOk Tryd.prog fn_laws_FnExactShowEvent := evF_ok mixed (allOk_cons ok_laws_szEvent (allOk_cons ok_laws_toEvent (allOk_cons ok_spec_ShowEvent (allOk_cons ok_impl_ShowEvent (allOk_cons ok_laws_eqEvent allOk_nil))))) m_laws_FnExactShowEvent (by decide)

end Xs
end Go.Proofs.YtlblgfhdndpmfaaDoor
