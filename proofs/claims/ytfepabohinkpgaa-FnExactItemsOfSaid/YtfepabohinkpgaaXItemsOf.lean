/- The typed code of the functions, printed by program. -/
import Derived.Test.YtfepabohinkpgaaT7
import Derived.Test.YtfepabohinkpgaaProg
import Derived.KernelRfl
namespace Go.Proofs.Ytfepabohinkpgaa
open Go Vm
namespace Xs
theorem mixed : Try.prog.follows .mixedOrders = true := by kernel_rfl
abbrev n_laws_FnExactItemsOf : Nat := 14
abbrev n_laws_eqItem : Nat := 40
abbrev n_laws_szEventS : Nat := 57
abbrev n_spec_ItemsOf : Nat := 58
abbrev n_laws_toEventS : Nat := 59
abbrev n_impl_ItemsOf : Nat := 60
abbrev n_laws_eqItemS : Nat := 61
abbrev n_laws_eqEventS : Nat := 62
abbrev n_laws_markEventS : Nat := 63
abbrev n_laws_markItemS : Nat := 64
abbrev n_laws_heldItemS : Nat := 65
abbrev n_laws_markText : Nat := 104
abbrev n_laws_szEvent : Nat := 116
abbrev n_laws_toEvent : Nat := 117
abbrev n_laws_eqEvent : Nat := 118
abbrev n_laws_markIntS : Nat := 119
abbrev n_laws_szRing : Nat := 135
abbrev n_laws_szItem : Nat := 136
abbrev n_laws_szIntS : Nat := 137
abbrev n_laws_toRing : Nat := 138
abbrev n_laws_toItem : Nat := 139
abbrev n_laws_toIntS : Nat := 140
abbrev n_laws_eqRing : Nat := 141
abbrev n_laws_eqIntS : Nat := 142
def F_laws_szIntS : TF := ⟨(.seq (.reg none [.p (.mv 4 (.c (.int .i64 0))) .unit])
 (.seq (.reg none [.p (.mv 5 (.t 1)) .unit,
  .p (.mv 6 (.t 0)) .unit,
  .p (.lenB 7 (.t 6)) .unit,
  .p (.bin 8 false .sub (.t 5) (.t 7)) .unit,
  .p (.mv 1 (.t 8)) .unit])
 (.seq (.seq (.reg none [.p (.mv 9 (.t 1)) .unit,
  .p (.bin 10 false .lss (.t 9) (.c (.int .i64 0))) .unit])
 (.cond (.t 10) (.seq (.reg none [.p (.mv 4 (.c (.int .i64 (-1)))) .unit])
 .ret) .skip))
 (.seq (.reg none [.p (.mv 11 (.t 1)) .unit,
  .p (.mv 4 (.t 11)) .unit])
 .ret)))),
 12, 2, [.t 4]⟩
theorem m_laws_szIntS : mH Try.prog 137 [] = some (F_laws_szIntS.code.x, F_laws_szIntS.N, F_laws_szIntS.np, F_laws_szIntS.res) := by kernel_rfl
noncomputable def T_laws_szIntS : (List (Int)) × Int → Option (Int) := evF [] F_laws_szIntS [.cell (.sl false (.int .i64)), .cell (.int .i64)] [] [.cell (.int .i64)] []
noncomputable def fn_laws_szIntS : TFn := ⟨137, [.cell (.sl false (.int .i64)), .cell (.int .i64)], [], [.cell (.int .i64)], [], T_laws_szIntS⟩
theorem ok_laws_szIntS : FnOk Try.prog fn_laws_szIntS := evF_ok mixed allOk_nil m_laws_szIntS (by decide)
def F_laws_szRing : TF := ⟨(.seq (.reg none [.p (.box 2 (.t 0)) .unit,
  .p (.mv 4 (.c (.int .i64 0))) .unit])
 (.seq (.reg none [.p (.fadr 5 (.t 2) 1) .unit,
  .p (.load 6 (.t 5) 1 false) .unit,
  .p (.mv 7 (.t 1)) .unit,
  .p (.callB 8 n_laws_szIntS [((.t 6), 0), ((.t 7), 0)]) .unit,
  .p (.mv 1 (.t 8)) .unit])
 (.seq (.seq (.reg none [.p (.mv 9 (.t 1)) .unit,
  .p (.bin 10 false .lss (.t 9) (.c (.int .i64 0))) .unit])
 (.cond (.t 10) (.seq (.reg none [.p (.mv 4 (.c (.int .i64 (-1)))) .unit])
 .ret) .skip))
 (.seq (.reg none [.p (.mv 11 (.t 1)) .unit,
  .p (.mv 4 (.t 11)) .unit])
 .ret)))),
 12, 2, [.t 4]⟩
theorem m_laws_szRing : mH Try.prog 135 [] = some (F_laws_szRing.code.x, F_laws_szRing.N, F_laws_szRing.np, F_laws_szRing.res) := by kernel_rfl
noncomputable def T_laws_szRing : (Int × List (Int)) × Int → Option (Int) := evF [fn_laws_szIntS] F_laws_szRing [.agg (.pair (.int .i64) (.sl false (.int .i64))), .cell (.int .i64)] [] [.cell (.int .i64)] []
noncomputable def fn_laws_szRing : TFn := ⟨135, [.agg (.pair (.int .i64) (.sl false (.int .i64))), .cell (.int .i64)], [], [.cell (.int .i64)], [], T_laws_szRing⟩
theorem ok_laws_szRing : FnOk Try.prog fn_laws_szRing := evF_ok mixed (allOk_cons ok_laws_szIntS allOk_nil) m_laws_szRing (by decide)
def F_laws_szItem : TF := ⟨(.seq (.reg none [.p (.box 2 (.t 0)) .unit,
  .p (.mv 4 (.c (.int .i64 0))) .unit])
 (.seq (.reg none [.p (.mv 5 (.t 1)) .unit,
  .p (.fadr 6 (.t 2) 3) .unit,
  .p (.load 7 (.t 6) 1 false) .unit,
  .p (.lenS 8 (.t 7)) .unit,
  .p (.bin 9 false .sub (.t 5) (.t 8)) .unit,
  .p (.mv 1 (.t 9)) .unit])
 (.seq (.seq (.reg none [.p (.mv 10 (.t 1)) .unit,
  .p (.bin 11 false .lss (.t 10) (.c (.int .i64 0))) .unit])
 (.cond (.t 11) (.seq (.reg none [.p (.mv 4 (.c (.int .i64 (-1)))) .unit])
 .ret) .skip))
 (.seq (.reg none [.p (.mv 12 (.t 1)) .unit,
  .p (.mv 4 (.t 12)) .unit])
 .ret)))),
 13, 2, [.t 4]⟩
theorem m_laws_szItem : mH Try.prog 136 [] = some (F_laws_szItem.code.x, F_laws_szItem.N, F_laws_szItem.np, F_laws_szItem.res) := by kernel_rfl
noncomputable def T_laws_szItem : (Int × Int × Int × List UInt8) × Int → Option (Int) := evF [] F_laws_szItem [.agg (.pair (.int .i64) (.pair (.int .i64) (.pair (.int .i64) .str))), .cell (.int .i64)] [] [.cell (.int .i64)] []
noncomputable def fn_laws_szItem : TFn := ⟨136, [.agg (.pair (.int .i64) (.pair (.int .i64) (.pair (.int .i64) .str))), .cell (.int .i64)], [], [.cell (.int .i64)], [], T_laws_szItem⟩
theorem ok_laws_szItem : FnOk Try.prog fn_laws_szItem := evF_ok mixed allOk_nil m_laws_szItem (by decide)
def F_laws_szEvent : TF := ⟨(.seq (.reg none [.p (.box 2 (.t 0)) .unit,
  .p (.mv 4 (.c (.int .i64 0))) .unit])
 (.seq (.reg none [.p (.fadr 5 (.t 2) 1) .unit,
  .p (.load 6 (.t 5) 2 true) .unit,
  .p (.mv 7 (.t 1)) .unit,
  .p (.callB 8 n_laws_szRing [((.t 6), 0), ((.t 7), 0)]) .unit,
  .p (.mv 1 (.t 8)) .unit])
 (.seq (.seq (.reg none [.p (.mv 9 (.t 1)) .unit,
  .p (.bin 10 false .lss (.t 9) (.c (.int .i64 0))) .unit])
 (.cond (.t 10) (.seq (.reg none [.p (.mv 4 (.c (.int .i64 (-1)))) .unit])
 .ret) .skip))
 (.seq (.reg none [.p (.fadr 11 (.t 2) 3) .unit,
  .p (.load 12 (.t 11) 4 true) .unit,
  .p (.mv 13 (.t 1)) .unit,
  .p (.callB 14 n_laws_szItem [((.t 12), 0), ((.t 13), 0)]) .unit,
  .p (.mv 1 (.t 14)) .unit])
 (.seq (.seq (.reg none [.p (.mv 15 (.t 1)) .unit,
  .p (.bin 16 false .lss (.t 15) (.c (.int .i64 0))) .unit])
 (.cond (.t 16) (.seq (.reg none [.p (.mv 4 (.c (.int .i64 (-1)))) .unit])
 .ret) .skip))
 (.seq (.reg none [.p (.fadr 17 (.t 2) 7) .unit,
  .p (.load 18 (.t 17) 1 false) .unit,
  .p (.mv 19 (.t 1)) .unit,
  .p (.callB 20 n_laws_szIntS [((.t 18), 0), ((.t 19), 0)]) .unit,
  .p (.mv 1 (.t 20)) .unit])
 (.seq (.seq (.reg none [.p (.mv 21 (.t 1)) .unit,
  .p (.bin 22 false .lss (.t 21) (.c (.int .i64 0))) .unit])
 (.cond (.t 22) (.seq (.reg none [.p (.mv 4 (.c (.int .i64 (-1)))) .unit])
 .ret) .skip))
 (.seq (.reg none [.p (.mv 23 (.t 1)) .unit,
  .p (.mv 4 (.t 23)) .unit])
 .ret)))))))),
 24, 2, [.t 4]⟩
theorem m_laws_szEvent : mH Try.prog 116 [] = some (F_laws_szEvent.code.x, F_laws_szEvent.N, F_laws_szEvent.np, F_laws_szEvent.res) := by kernel_rfl
noncomputable def T_laws_szEvent : (Int × (Int × List (Int)) × (Int × Int × Int × List UInt8) × List (Int)) × Int → Option (Int) := evF [fn_laws_szRing, fn_laws_szItem, fn_laws_szIntS] F_laws_szEvent [.agg (.pair (.int .i64) (.pair (.pair (.int .i64) (.sl false (.int .i64))) (.pair (.pair (.int .i64) (.pair (.int .i64) (.pair (.int .i64) .str))) (.sl false (.int .i64))))), .cell (.int .i64)] [] [.cell (.int .i64)] []
noncomputable def fn_laws_szEvent : TFn := ⟨116, [.agg (.pair (.int .i64) (.pair (.pair (.int .i64) (.sl false (.int .i64))) (.pair (.pair (.int .i64) (.pair (.int .i64) (.pair (.int .i64) .str))) (.sl false (.int .i64))))), .cell (.int .i64)], [], [.cell (.int .i64)], [], T_laws_szEvent⟩
theorem ok_laws_szEvent : FnOk Try.prog fn_laws_szEvent := evF_ok mixed (allOk_cons ok_laws_szRing (allOk_cons ok_laws_szItem (allOk_cons ok_laws_szIntS allOk_nil))) m_laws_szEvent (by decide)
def B_laws_szEventS_1 : TC := (.seq (.seq (.reg none [.p (.mv 12 (.t 5)) .unit,
  .p (.mv 13 (.t 0)) .unit,
  .p (.lenB 14 (.t 13)) .unit,
  .p (.bin 15 false .lss (.t 12) (.t 14)) .unit])
 (.cond (.t 15) .skip (.exit 0)))
 (.seq (.block 1 (.seq (.reg none [.p (.mv 18 (.t 0)) .unit,
  .p (.mv 19 (.t 5)) .unit,
  .p (.iadr 20 8 (.t 18) (.t 19)) .unit,
  .p (.load 21 (.t 20) 8 true) .unit,
  .p (.mv 22 (.t 1)) .unit,
  .p (.callB 23 n_laws_szEvent [((.t 21), 0), ((.t 22), 0)]) .unit,
  .p (.mv 1 (.t 23)) .unit])
 (.seq (.reg none [.p (.mv 24 (.t 1)) .unit,
  .p (.bin 25 false .lss (.t 24) (.c (.int .i64 0))) .unit])
 (.cond (.t 25) (.seq (.reg none [.p (.mv 4 (.c (.int .i64 (-1)))) .unit])
 .ret) .skip))))
 (.reg none [.p (.mv 16 (.t 5)) .unit,
  .p (.bin 17 false .add (.t 16) (.c (.int .i64 1))) .unit,
  .p (.mv 5 (.t 17)) .unit])))
noncomputable def L_laws_szEventS_1 : Nat → (List (Int × (Int × List (Int)) × (Int × Int × Int × List UInt8) × List (Int))) × (Int) × Int → Option ((Int) ⊕ (Int)) := evL [fn_laws_szEvent] (finT [.t 4] [] [.cell (.int .i64)]) 0 ⟨[(0, true), (1, false), (5, false)], [.cell (.sl false (.pair (.int .i64) (.pair (.pair (.int .i64) (.sl false (.int .i64))) (.pair (.pair (.int .i64) (.pair (.int .i64) (.pair (.int .i64) .str))) (.sl false (.int .i64)))))), .cell (.int .i64), .cell (.int .i64)]⟩ ⟨[(1, false)], [.cell (.int .i64)]⟩ B_laws_szEventS_1
def F_laws_szEventS : TF := ⟨(.seq (.reg none [.p (.mv 4 (.c (.int .i64 0))) .unit])
 (.seq (.reg none [.p (.mv 6 (.t 1)) .unit,
  .p (.mv 7 (.t 0)) .unit,
  .p (.lenB 8 (.t 7)) .unit,
  .p (.bin 9 false .sub (.t 6) (.t 8)) .unit,
  .p (.mv 1 (.t 9)) .unit])
 (.seq (.seq (.reg none [.p (.mv 10 (.t 1)) .unit,
  .p (.bin 11 false .lss (.t 10) (.c (.int .i64 0))) .unit])
 (.cond (.t 11) (.seq (.reg none [.p (.mv 4 (.c (.int .i64 (-1)))) .unit])
 .ret) .skip))
 (.seq (.seq (.reg none [.p (.mv 5 (.c (.int .i64 0))) .unit])
 (.jl 0 ⟨[(0, true), (1, false), (5, false)], [.cell (.sl false (.pair (.int .i64) (.pair (.pair (.int .i64) (.sl false (.int .i64))) (.pair (.pair (.int .i64) (.pair (.int .i64) (.pair (.int .i64) .str))) (.sl false (.int .i64)))))), .cell (.int .i64), .cell (.int .i64)]⟩ ⟨[(1, false)], [.cell (.int .i64)]⟩ B_laws_szEventS_1))
 (.seq (.reg none [.p (.mv 26 (.t 1)) .unit,
  .p (.mv 4 (.t 26)) .unit])
 .ret))))),
 27, 2, [.t 4]⟩
theorem m_laws_szEventS : mH Try.prog 57 [] = some (F_laws_szEventS.code.x, F_laws_szEventS.N, F_laws_szEventS.np, F_laws_szEventS.res) := by kernel_rfl
noncomputable def T_laws_szEventS : (List (Int × (Int × List (Int)) × (Int × Int × Int × List UInt8) × List (Int))) × Int → Option (Int) := evF [fn_laws_szEvent] F_laws_szEventS [.cell (.sl false (.pair (.int .i64) (.pair (.pair (.int .i64) (.sl false (.int .i64))) (.pair (.pair (.int .i64) (.pair (.int .i64) (.pair (.int .i64) .str))) (.sl false (.int .i64)))))), .cell (.int .i64)] [] [.cell (.int .i64)] []
noncomputable def fn_laws_szEventS : TFn := ⟨57, [.cell (.sl false (.pair (.int .i64) (.pair (.pair (.int .i64) (.sl false (.int .i64))) (.pair (.pair (.int .i64) (.pair (.int .i64) (.pair (.int .i64) .str))) (.sl false (.int .i64)))))), .cell (.int .i64)], [], [.cell (.int .i64)], [], T_laws_szEventS⟩
theorem ok_laws_szEventS : FnOk Try.prog fn_laws_szEventS := evF_ok mixed (allOk_cons ok_laws_szEvent allOk_nil) m_laws_szEventS (by decide)
def B_laws_toIntS_1 : TC := (.seq (.seq (.reg none [.p (.mv 8 (.t 4)) .unit,
  .p (.mv 9 (.t 0)) .unit,
  .p (.lenB 10 (.t 9)) .unit,
  .p (.bin 11 false .lss (.t 8) (.t 10)) .unit])
 (.cond (.t 11) .skip (.exit 0)))
 (.seq (.block 1 (.reg none [.p (.mvA 14 3) .unit,
  .p (.mv 15 (.t 4)) .unit,
  .p (.mv 16 (.t 0)) .unit,
  .p (.mv 17 (.t 4)) .unit,
  .p (.iadr 18 1 (.t 16) (.t 17)) .unit,
  .p (.load 19 (.t 18) 1 false) .unit,
  .p (.iadr 20 1 (.t 14) (.t 15)) .unit,
  .p (.store (.t 20) (.t 19) 1) .unit]))
 (.reg none [.p (.mv 12 (.t 4)) .unit,
  .p (.bin 13 false .add (.t 12) (.c (.int .i64 1))) .unit,
  .p (.mv 4 (.t 13)) .unit])))
noncomputable def L_laws_toIntS_1 : Nat → (List (Int)) × (List (Int)) × Int → Option ((List (Int)) ⊕ (List (Int))) := evL [] (finT [.t 2] [] [.cell (.sl true (.int .i64))]) 0 ⟨[(0, true), (3, false), (4, false)], [.cell (.sl false (.int .i64)), .cell (.sl true (.int .i64)), .cell (.int .i64)]⟩ ⟨[(3, false)], [.cell (.sl true (.int .i64))]⟩ B_laws_toIntS_1
def F_laws_toIntS : TF := ⟨(.seq (.reg none [.p (.mvN 2 1) .unit])
 (.seq (.reg none [.p (.mv 5 (.t 0)) .unit,
  .p (.lenB 6 (.t 5)) .unit,
  .p (.mkS 7 8 [(.lit (.int .i64 0))] (.t 6) (.t 6)) (.int .i64),
  .p (.mvT 3 7) .unit])
 (.seq (.seq (.reg none [.p (.mv 4 (.c (.int .i64 0))) .unit])
 (.jl 0 ⟨[(0, true), (3, false), (4, false)], [.cell (.sl false (.int .i64)), .cell (.sl true (.int .i64)), .cell (.int .i64)]⟩ ⟨[(3, false)], [.cell (.sl true (.int .i64))]⟩ B_laws_toIntS_1))
 (.seq (.reg none [.p (.mvT 21 3) .unit,
  .p (.mvT 2 21) .unit])
 .ret)))),
 22, 1, [.t 2]⟩
theorem m_laws_toIntS : mH Try.prog 140 [(1, 3, .t), (5, 0, .v), (6, 0, .t), (6, 1, .t)] = some (F_laws_toIntS.code.x, F_laws_toIntS.N, F_laws_toIntS.np, F_laws_toIntS.res) := by kernel_rfl
noncomputable def T_laws_toIntS : List (Int) → Option (List (Int)) := evF [] F_laws_toIntS [.cell (.sl false (.int .i64))] [] [.cell (.sl true (.int .i64))] []
noncomputable def fn_laws_toIntS : TFn := ⟨140, [.cell (.sl false (.int .i64))], [], [.cell (.sl true (.int .i64))], [], T_laws_toIntS⟩
theorem ok_laws_toIntS : FnOk Try.prog fn_laws_toIntS := evF_ok mixed allOk_nil m_laws_toIntS (by decide)
def F_laws_toRing : TF := ⟨(.seq (.reg none [.p (.box 1 (.t 0)) .unit,
  .p (.alloc 2 [(.lit (.int .i64 0)), (.sl true 1 [])]) .unit])
 (.seq (.reg none [.p (.alloc 3 [(.lit (.int .i64 0)), (.sl true 1 [])]) .unit])
 (.seq (.reg none [.p (.fadr 4 (.t 1) 0) .unit,
  .p (.load 5 (.t 4) 1 false) .unit,
  .p (.fadr 6 (.t 3) 0) .unit,
  .p (.store (.t 6) (.t 5) 1) .unit])
 (.seq (.reg none [.p (.fadr 7 (.t 1) 1) .unit,
  .p (.load 8 (.t 7) 1 false) .unit,
  .p (.callB 9 n_laws_toIntS [((.t 8), 0)]) .unit,
  .p (.fadr 10 (.t 3) 1) .unit,
  .p (.storeT (.t 10) 9 1) .unit])
 (.seq (.reg none [.p (.loadT 11 (.t 3) 2 true) .unit,
  .p (.storeT (.t 2) 11 2) .unit])
 .ret))))),
 12, 1, [.c 2 2 true]⟩
theorem m_laws_toRing : mH Try.prog 138 [(3, 4, .t), (4, 0, .t), (4, 1, .t)] = some (F_laws_toRing.code.x, F_laws_toRing.N, F_laws_toRing.np, F_laws_toRing.res) := by kernel_rfl
noncomputable def T_laws_toRing : Int × List (Int) → Option (Int × List (Int)) := evF [fn_laws_toIntS] F_laws_toRing [.agg (.pair (.int .i64) (.sl false (.int .i64)))] [] [.agg (.pair (.int .i64) (.sl true (.int .i64)))] []
noncomputable def fn_laws_toRing : TFn := ⟨138, [.agg (.pair (.int .i64) (.sl false (.int .i64)))], [], [.agg (.pair (.int .i64) (.sl true (.int .i64)))], [], T_laws_toRing⟩
theorem ok_laws_toRing : FnOk Try.prog fn_laws_toRing := evF_ok mixed (allOk_cons ok_laws_toIntS allOk_nil) m_laws_toRing (by decide)
def F_laws_toItem : TF := ⟨(.seq (.reg none [.p (.box 1 (.t 0)) .unit,
  .p (.alloc 2 [(.lit (.int .i64 0)), (.lit (.int .i64 0)), (.lit (.int .i64 0)), (.lit (.string (ba [])))]) .unit])
 (.seq (.reg none [.p (.alloc 3 [(.lit (.int .i64 0)), (.lit (.int .i64 0)), (.lit (.int .i64 0)), (.lit (.string (ba [])))]) .unit])
 (.seq (.reg none [.p (.fadr 4 (.t 1) 0) .unit,
  .p (.load 5 (.t 4) 1 false) .unit,
  .p (.fadr 6 (.t 3) 0) .unit,
  .p (.store (.t 6) (.t 5) 1) .unit])
 (.seq (.reg none [.p (.fadr 7 (.t 1) 1) .unit,
  .p (.load 8 (.t 7) 1 false) .unit,
  .p (.fadr 9 (.t 3) 1) .unit,
  .p (.store (.t 9) (.t 8) 1) .unit])
 (.seq (.reg none [.p (.fadr 10 (.t 1) 2) .unit,
  .p (.load 11 (.t 10) 1 false) .unit,
  .p (.fadr 12 (.t 3) 2) .unit,
  .p (.store (.t 12) (.t 11) 1) .unit])
 (.seq (.reg none [.p (.fadr 13 (.t 1) 3) .unit,
  .p (.load 14 (.t 13) 1 false) .unit,
  .p (.fadr 15 (.t 3) 3) .unit,
  .p (.store (.t 15) (.t 14) 1) .unit])
 (.seq (.reg none [.p (.load 16 (.t 3) 4 true) .unit,
  .p (.store (.t 2) (.t 16) 4) .unit])
 .ret))))))),
 17, 1, [.c 2 4 true]⟩
theorem m_laws_toItem : mH Try.prog 139 [] = some (F_laws_toItem.code.x, F_laws_toItem.N, F_laws_toItem.np, F_laws_toItem.res) := by kernel_rfl
noncomputable def T_laws_toItem : Int × Int × Int × List UInt8 → Option (Int × Int × Int × List UInt8) := evF [] F_laws_toItem [.agg (.pair (.int .i64) (.pair (.int .i64) (.pair (.int .i64) .str)))] [] [.agg (.pair (.int .i64) (.pair (.int .i64) (.pair (.int .i64) .str)))] []
noncomputable def fn_laws_toItem : TFn := ⟨139, [.agg (.pair (.int .i64) (.pair (.int .i64) (.pair (.int .i64) .str)))], [], [.agg (.pair (.int .i64) (.pair (.int .i64) (.pair (.int .i64) .str)))], [], T_laws_toItem⟩
theorem ok_laws_toItem : FnOk Try.prog fn_laws_toItem := evF_ok mixed allOk_nil m_laws_toItem (by decide)
def F_laws_toEvent : TF := ⟨(.seq (.reg none [.p (.box 1 (.t 0)) .unit,
  .p (.alloc 2 [(.lit (.int .i64 0)), (.lit (.int .i64 0)), (.sl true 1 []), (.lit (.int .i64 0)), (.lit (.int .i64 0)), (.lit (.int .i64 0)), (.lit (.string (ba []))), (.sl true 1 [])]) .unit])
 (.seq (.reg none [.p (.alloc 3 [(.lit (.int .i64 0)), (.lit (.int .i64 0)), (.sl true 1 []), (.lit (.int .i64 0)), (.lit (.int .i64 0)), (.lit (.int .i64 0)), (.lit (.string (ba []))), (.sl true 1 [])]) .unit])
 (.seq (.reg none [.p (.fadr 4 (.t 1) 0) .unit,
  .p (.load 5 (.t 4) 1 false) .unit,
  .p (.fadr 6 (.t 3) 0) .unit,
  .p (.store (.t 6) (.t 5) 1) .unit])
 (.seq (.reg none [.p (.fadr 7 (.t 1) 1) .unit,
  .p (.load 8 (.t 7) 2 true) .unit,
  .p (.callB 9 n_laws_toRing [((.t 8), 0)]) .unit,
  .p (.fadr 10 (.t 3) 1) .unit,
  .p (.storeT (.t 10) 9 2) .unit])
 (.seq (.reg none [.p (.fadr 11 (.t 1) 3) .unit,
  .p (.load 12 (.t 11) 4 true) .unit,
  .p (.callB 13 n_laws_toItem [((.t 12), 0)]) .unit,
  .p (.fadr 14 (.t 3) 3) .unit,
  .p (.store (.t 14) (.t 13) 4) .unit])
 (.seq (.reg none [.p (.fadr 15 (.t 1) 7) .unit,
  .p (.load 16 (.t 15) 1 false) .unit,
  .p (.callB 17 n_laws_toIntS [((.t 16), 0)]) .unit,
  .p (.fadr 18 (.t 3) 7) .unit,
  .p (.storeT (.t 18) 17 1) .unit])
 (.seq (.reg none [.p (.loadT 19 (.t 3) 8 true) .unit,
  .p (.storeT (.t 2) 19 8) .unit])
 .ret))))))),
 20, 1, [.c 2 8 true]⟩
theorem m_laws_toEvent : mH Try.prog 117 [(3, 4, .t), (5, 4, .t), (6, 0, .t), (6, 1, .t)] = some (F_laws_toEvent.code.x, F_laws_toEvent.N, F_laws_toEvent.np, F_laws_toEvent.res) := by kernel_rfl
noncomputable def T_laws_toEvent : Int × (Int × List (Int)) × (Int × Int × Int × List UInt8) × List (Int) → Option (Int × (Int × List (Int)) × (Int × Int × Int × List UInt8) × List (Int)) := evF [fn_laws_toRing, fn_laws_toItem, fn_laws_toIntS] F_laws_toEvent [.agg (.pair (.int .i64) (.pair (.pair (.int .i64) (.sl false (.int .i64))) (.pair (.pair (.int .i64) (.pair (.int .i64) (.pair (.int .i64) .str))) (.sl false (.int .i64)))))] [] [.agg (.pair (.int .i64) (.pair (.pair (.int .i64) (.sl true (.int .i64))) (.pair (.pair (.int .i64) (.pair (.int .i64) (.pair (.int .i64) .str))) (.sl true (.int .i64)))))] []
noncomputable def fn_laws_toEvent : TFn := ⟨117, [.agg (.pair (.int .i64) (.pair (.pair (.int .i64) (.sl false (.int .i64))) (.pair (.pair (.int .i64) (.pair (.int .i64) (.pair (.int .i64) .str))) (.sl false (.int .i64)))))], [], [.agg (.pair (.int .i64) (.pair (.pair (.int .i64) (.sl true (.int .i64))) (.pair (.pair (.int .i64) (.pair (.int .i64) (.pair (.int .i64) .str))) (.sl true (.int .i64)))))], [], T_laws_toEvent⟩
theorem ok_laws_toEvent : FnOk Try.prog fn_laws_toEvent := evF_ok mixed (allOk_cons ok_laws_toRing (allOk_cons ok_laws_toItem (allOk_cons ok_laws_toIntS allOk_nil))) m_laws_toEvent (by decide)
def B_laws_toEventS_1 : TC := (.seq (.seq (.reg none [.p (.mv 8 (.t 4)) .unit,
  .p (.mv 9 (.t 0)) .unit,
  .p (.lenB 10 (.t 9)) .unit,
  .p (.bin 11 false .lss (.t 8) (.t 10)) .unit])
 (.cond (.t 11) .skip (.exit 0)))
 (.seq (.block 1 (.reg none [.p (.mvA 14 3) .unit,
  .p (.mv 15 (.t 4)) .unit,
  .p (.mv 16 (.t 0)) .unit,
  .p (.mv 17 (.t 4)) .unit,
  .p (.iadr 18 8 (.t 16) (.t 17)) .unit,
  .p (.load 19 (.t 18) 8 true) .unit,
  .p (.callB 20 n_laws_toEvent [((.t 19), 0)]) .unit,
  .p (.iadr 21 8 (.t 14) (.t 15)) .unit,
  .p (.storeT (.t 21) 20 8) .unit]))
 (.reg none [.p (.mv 12 (.t 4)) .unit,
  .p (.bin 13 false .add (.t 12) (.c (.int .i64 1))) .unit,
  .p (.mv 4 (.t 13)) .unit])))
noncomputable def L_laws_toEventS_1 : Nat → (List (Int × (Int × List (Int)) × (Int × Int × Int × List UInt8) × List (Int))) × (List (Int × (Int × List (Int)) × (Int × Int × Int × List UInt8) × List (Int))) × Int → Option ((List (Int × (Int × List (Int)) × (Int × Int × Int × List UInt8) × List (Int))) ⊕ (List (Int × (Int × List (Int)) × (Int × Int × Int × List UInt8) × List (Int)))) := evL [fn_laws_toEvent] (finT [.t 2] [] [.cell (.sl true (.pair (.int .i64) (.pair (.pair (.int .i64) (.sl true (.int .i64))) (.pair (.pair (.int .i64) (.pair (.int .i64) (.pair (.int .i64) .str))) (.sl true (.int .i64))))))]) 0 ⟨[(0, true), (3, false), (4, false)], [.cell (.sl false (.pair (.int .i64) (.pair (.pair (.int .i64) (.sl false (.int .i64))) (.pair (.pair (.int .i64) (.pair (.int .i64) (.pair (.int .i64) .str))) (.sl false (.int .i64)))))), .cell (.sl true (.pair (.int .i64) (.pair (.pair (.int .i64) (.sl true (.int .i64))) (.pair (.pair (.int .i64) (.pair (.int .i64) (.pair (.int .i64) .str))) (.sl true (.int .i64)))))), .cell (.int .i64)]⟩ ⟨[(3, false)], [.cell (.sl true (.pair (.int .i64) (.pair (.pair (.int .i64) (.sl true (.int .i64))) (.pair (.pair (.int .i64) (.pair (.int .i64) (.pair (.int .i64) .str))) (.sl true (.int .i64))))))]⟩ B_laws_toEventS_1
def F_laws_toEventS : TF := ⟨(.seq (.reg none [.p (.mvN 2 8) .unit])
 (.seq (.reg none [.p (.mv 5 (.t 0)) .unit,
  .p (.lenB 6 (.t 5)) .unit,
  .p (.mkS 7 104 [(.lit (.int .i64 0)), (.lit (.int .i64 0)), (.sl true 1 []), (.lit (.int .i64 0)), (.lit (.int .i64 0)), (.lit (.int .i64 0)), (.lit (.string (ba []))), (.sl true 1 [])] (.t 6) (.t 6)) (.pair (.int .i64) (.pair (.pair (.int .i64) (.sl true (.int .i64))) (.pair (.pair (.int .i64) (.pair (.int .i64) (.pair (.int .i64) .str))) (.sl true (.int .i64))))),
  .p (.mvT 3 7) .unit])
 (.seq (.seq (.reg none [.p (.mv 4 (.c (.int .i64 0))) .unit])
 (.jl 0 ⟨[(0, true), (3, false), (4, false)], [.cell (.sl false (.pair (.int .i64) (.pair (.pair (.int .i64) (.sl false (.int .i64))) (.pair (.pair (.int .i64) (.pair (.int .i64) (.pair (.int .i64) .str))) (.sl false (.int .i64)))))), .cell (.sl true (.pair (.int .i64) (.pair (.pair (.int .i64) (.sl true (.int .i64))) (.pair (.pair (.int .i64) (.pair (.int .i64) (.pair (.int .i64) .str))) (.sl true (.int .i64)))))), .cell (.int .i64)]⟩ ⟨[(3, false)], [.cell (.sl true (.pair (.int .i64) (.pair (.pair (.int .i64) (.sl true (.int .i64))) (.pair (.pair (.int .i64) (.pair (.int .i64) (.pair (.int .i64) .str))) (.sl true (.int .i64))))))]⟩ B_laws_toEventS_1))
 (.seq (.reg none [.p (.mvT 22 3) .unit,
  .p (.mvT 2 22) .unit])
 .ret)))),
 23, 1, [.t 2]⟩
theorem m_laws_toEventS : mH Try.prog 59 [(1, 3, .t), (5, 0, .v), (5, 8, .t), (6, 0, .t), (6, 1, .t)] = some (F_laws_toEventS.code.x, F_laws_toEventS.N, F_laws_toEventS.np, F_laws_toEventS.res) := by kernel_rfl
noncomputable def T_laws_toEventS : List (Int × (Int × List (Int)) × (Int × Int × Int × List UInt8) × List (Int)) → Option (List (Int × (Int × List (Int)) × (Int × Int × Int × List UInt8) × List (Int))) := evF [fn_laws_toEvent] F_laws_toEventS [.cell (.sl false (.pair (.int .i64) (.pair (.pair (.int .i64) (.sl false (.int .i64))) (.pair (.pair (.int .i64) (.pair (.int .i64) (.pair (.int .i64) .str))) (.sl false (.int .i64))))))] [] [.cell (.sl true (.pair (.int .i64) (.pair (.pair (.int .i64) (.sl true (.int .i64))) (.pair (.pair (.int .i64) (.pair (.int .i64) (.pair (.int .i64) .str))) (.sl true (.int .i64))))))] []
noncomputable def fn_laws_toEventS : TFn := ⟨59, [.cell (.sl false (.pair (.int .i64) (.pair (.pair (.int .i64) (.sl false (.int .i64))) (.pair (.pair (.int .i64) (.pair (.int .i64) (.pair (.int .i64) .str))) (.sl false (.int .i64))))))], [], [.cell (.sl true (.pair (.int .i64) (.pair (.pair (.int .i64) (.sl true (.int .i64))) (.pair (.pair (.int .i64) (.pair (.int .i64) (.pair (.int .i64) .str))) (.sl true (.int .i64))))))], [], T_laws_toEventS⟩
theorem ok_laws_toEventS : FnOk Try.prog fn_laws_toEventS := evF_ok mixed (allOk_cons ok_laws_toEvent allOk_nil) m_laws_toEventS (by decide)
def B_spec_ItemsOf_1 : TC := (.seq (.seq (.reg none [.p (.mv 8 (.t 6)) .unit,
  .p (.mv 9 (.t 0)) .unit,
  .p (.lenB 10 (.t 9)) .unit,
  .p (.bin 11 false .lss (.t 8) (.t 10)) .unit])
 (.cond (.t 11) .skip (.exit 0)))
 (.seq (.join ⟨[(0, true), (1, true), (5, false), (6, false)], [.cell (.sl false (.pair (.int .i64) (.pair (.pair (.int .i64) (.sl false (.int .i64))) (.pair (.pair (.int .i64) (.pair (.int .i64) (.pair (.int .i64) .str))) (.sl false (.int .i64)))))), .cell (.int .i64), .cell (.sl true (.pair (.int .i64) (.pair (.int .i64) (.pair (.int .i64) .str)))), .cell (.int .i64)]⟩ (.block 1 (.seq (.join ⟨[(0, true), (1, true), (5, false), (6, false), (29, false)], [.cell (.sl false (.pair (.int .i64) (.pair (.pair (.int .i64) (.sl false (.int .i64))) (.pair (.pair (.int .i64) (.pair (.int .i64) (.pair (.int .i64) .str))) (.sl false (.int .i64)))))), .cell (.int .i64), .cell (.sl true (.pair (.int .i64) (.pair (.int .i64) (.pair (.int .i64) .str)))), .cell (.int .i64), .cell .bool]⟩ (.reg none [.p (.mv 14 (.t 0)) .unit,
  .p (.mv 15 (.t 6)) .unit,
  .p (.iadr 16 8 (.t 14) (.t 15)) .unit,
  .p (.fadr 17 (.t 16) 0) .unit,
  .p (.load 18 (.t 17) 1 false) .unit,
  .p (.bin 19 false .eql (.t 18) (.c (.int .i64 1))) .unit,
  .p (.mv 20 (.t 19)) .unit,
  .g 20 true (some 21) (.mv 21 (.t 0)) .unit,
  .g 20 true (some 22) (.mv 22 (.t 6)) .unit,
  .g 20 true (some 23) (.iadr 23 8 (.t 21) (.t 22)) .unit,
  .g 20 true (some 24) (.fadr 24 (.t 23) 1) .unit,
  .g 20 true (some 25) (.fadr 25 (.t 24) 0) .unit,
  .g 20 true (some 26) (.load 26 (.t 25) 1 false) .unit,
  .g 20 true (some 27) (.mv 27 (.t 1)) .unit,
  .g 20 true (some 28) (.bin 28 false .eql (.t 26) (.t 27)) .unit,
  .p (.pick 29 (.t 20) (.t 28) (.c (.bool false))) .unit]))
 (.cond (.t 29) (.reg none [.p (.mvT 30 5) .unit,
  .p (.mv 31 (.t 0)) .unit,
  .p (.mv 32 (.t 6)) .unit,
  .p (.iadr 33 8 (.t 31) (.t 32)) .unit,
  .p (.fadr 34 (.t 33) 3) .unit,
  .p (.load 35 (.t 34) 4 true) .unit,
  .p (.bldS 36 1 [(.lit (.int .i64 0)), (.lit (.int .i64 0)), (.lit (.int .i64 0)), (.lit (.string (ba [])))] [⟨0, 4, (.t 35)⟩]) (.pair (.int .i64) (.pair (.int .i64) (.pair (.int .i64) .str))),
  .p (.app 37 4 40 (.t 30) (.t 36)) (.pair (.int .i64) (.pair (.int .i64) (.pair (.int .i64) .str))),
  .p (.mvT 5 37) .unit]) .skip))))
 (.reg none [.p (.mv 12 (.t 6)) .unit,
  .p (.bin 13 false .add (.t 12) (.c (.int .i64 1))) .unit,
  .p (.mv 6 (.t 13)) .unit])))
noncomputable def L_spec_ItemsOf_1 : Nat → (List (Int × (Int × List (Int)) × (Int × Int × Int × List UInt8) × List (Int))) × (Int) × (List (Int × Int × Int × List UInt8)) × Int → Option ((List (Int × Int × Int × List UInt8)) ⊕ (List (Int × Int × Int × List UInt8))) := evL [] (finT [.t 4] [] [.cell (.sl true (.pair (.int .i64) (.pair (.int .i64) (.pair (.int .i64) .str))))]) 0 ⟨[(0, true), (1, true), (5, false), (6, false)], [.cell (.sl false (.pair (.int .i64) (.pair (.pair (.int .i64) (.sl false (.int .i64))) (.pair (.pair (.int .i64) (.pair (.int .i64) (.pair (.int .i64) .str))) (.sl false (.int .i64)))))), .cell (.int .i64), .cell (.sl true (.pair (.int .i64) (.pair (.int .i64) (.pair (.int .i64) .str)))), .cell (.int .i64)]⟩ ⟨[(5, false)], [.cell (.sl true (.pair (.int .i64) (.pair (.int .i64) (.pair (.int .i64) .str))))]⟩ B_spec_ItemsOf_1
def F_spec_ItemsOf : TF := ⟨(.seq (.reg none [.p (.mvN 4 4) .unit])
 (.seq (.reg none [.p (.bldS 7 0 [(.lit (.int .i64 0)), (.lit (.int .i64 0)), (.lit (.int .i64 0)), (.lit (.string (ba [])))] []) (.pair (.int .i64) (.pair (.int .i64) (.pair (.int .i64) .str))),
  .p (.mvT 5 7) .unit])
 (.seq (.seq (.reg none [.p (.mv 6 (.c (.int .i64 0))) .unit])
 (.jl 0 ⟨[(0, true), (1, true), (5, false), (6, false)], [.cell (.sl false (.pair (.int .i64) (.pair (.pair (.int .i64) (.sl false (.int .i64))) (.pair (.pair (.int .i64) (.pair (.int .i64) (.pair (.int .i64) .str))) (.sl false (.int .i64)))))), .cell (.int .i64), .cell (.sl true (.pair (.int .i64) (.pair (.int .i64) (.pair (.int .i64) .str)))), .cell (.int .i64)]⟩ ⟨[(5, false)], [.cell (.sl true (.pair (.int .i64) (.pair (.int .i64) (.pair (.int .i64) .str))))]⟩ B_spec_ItemsOf_1))
 (.seq (.reg none [.p (.mvT 38 5) .unit,
  .p (.mvT 4 38) .unit])
 .ret)))),
 39, 2, [.t 4]⟩
theorem m_spec_ItemsOf : mH Try.prog 58 [(1, 1, .t), (6, 0, .t), (6, 8, .t), (7, 0, .t), (7, 1, .t)] = some (F_spec_ItemsOf.code.x, F_spec_ItemsOf.N, F_spec_ItemsOf.np, F_spec_ItemsOf.res) := by kernel_rfl
noncomputable def T_spec_ItemsOf : (List (Int × (Int × List (Int)) × (Int × Int × Int × List UInt8) × List (Int))) × Int → Option (List (Int × Int × Int × List UInt8)) := evF [] F_spec_ItemsOf [.cell (.sl false (.pair (.int .i64) (.pair (.pair (.int .i64) (.sl false (.int .i64))) (.pair (.pair (.int .i64) (.pair (.int .i64) (.pair (.int .i64) .str))) (.sl false (.int .i64)))))), .cell (.int .i64)] [] [.cell (.sl true (.pair (.int .i64) (.pair (.int .i64) (.pair (.int .i64) .str))))] []
noncomputable def fn_spec_ItemsOf : TFn := ⟨58, [.cell (.sl false (.pair (.int .i64) (.pair (.pair (.int .i64) (.sl false (.int .i64))) (.pair (.pair (.int .i64) (.pair (.int .i64) (.pair (.int .i64) .str))) (.sl false (.int .i64)))))), .cell (.int .i64)], [], [.cell (.sl true (.pair (.int .i64) (.pair (.int .i64) (.pair (.int .i64) .str))))], [], T_spec_ItemsOf⟩
theorem ok_spec_ItemsOf : FnOk Try.prog fn_spec_ItemsOf := evF_ok mixed allOk_nil m_spec_ItemsOf (by decide)
def B_impl_ItemsOf_1 : TC := (.seq (.reg none [.p (.bin 11 false .lss (.t 10) (.t 9)) .unit])
 (.seq (.cond (.t 11) .skip (.exit 0))
 (.seq (.join ⟨[(1, true), (5, false), (8, false), (9, false), (10, false)], [.cell (.int .i64), .cell (.sl true (.pair (.int .i64) (.pair (.int .i64) (.pair (.int .i64) .str)))), .cell (.sl false (.pair (.int .i64) (.pair (.pair (.int .i64) (.sl false (.int .i64))) (.pair (.pair (.int .i64) (.pair (.int .i64) (.pair (.int .i64) .str))) (.sl false (.int .i64)))))), .cell (.int .i64), .cell (.int .i64)]⟩ (.block 1 (.seq (.reg none [.p (.iadr 12 8 (.t 8) (.t 10)) .unit,
  .p (.load 13 (.t 12) 8 true) .unit,
  .p (.alloc 7 [(.lit (.int .i64 0)), (.lit (.int .i64 0)), (.sl true 1 []), (.lit (.int .i64 0)), (.lit (.int .i64 0)), (.lit (.int .i64 0)), (.lit (.string (ba []))), (.sl true 1 [])]) .unit,
  .p (.store (.t 7) (.t 13) 8) .unit])
 (.seq (.join ⟨[(1, true), (5, false), (7, false), (8, false), (9, false), (10, false), (23, false)], [.cell (.int .i64), .cell (.sl true (.pair (.int .i64) (.pair (.int .i64) (.pair (.int .i64) .str)))), .box (.pair (.int .i64) (.pair (.pair (.int .i64) (.sl false (.int .i64))) (.pair (.pair (.int .i64) (.pair (.int .i64) (.pair (.int .i64) .str))) (.sl false (.int .i64))))), .cell (.sl false (.pair (.int .i64) (.pair (.pair (.int .i64) (.sl false (.int .i64))) (.pair (.pair (.int .i64) (.pair (.int .i64) (.pair (.int .i64) .str))) (.sl false (.int .i64)))))), .cell (.int .i64), .cell (.int .i64), .cell .bool]⟩ (.reg none [.p (.fadr 14 (.t 7) 0) .unit,
  .p (.load 15 (.t 14) 1 false) .unit,
  .p (.bin 16 false .eql (.t 15) (.c (.int .i64 1))) .unit,
  .p (.mv 17 (.t 16)) .unit,
  .g 17 true (some 18) (.fadr 18 (.t 7) 1) .unit,
  .g 17 true (some 19) (.fadr 19 (.t 18) 0) .unit,
  .g 17 true (some 20) (.load 20 (.t 19) 1 false) .unit,
  .g 17 true (some 21) (.mv 21 (.t 1)) .unit,
  .g 17 true (some 22) (.bin 22 false .eql (.t 20) (.t 21)) .unit,
  .p (.pick 23 (.t 17) (.t 22) (.c (.bool false))) .unit]))
 (.cond (.t 23) (.reg none [.p (.mvT 24 5) .unit,
  .p (.fadr 25 (.t 7) 3) .unit,
  .p (.load 26 (.t 25) 4 true) .unit,
  .p (.bldS 27 1 [(.lit (.int .i64 0)), (.lit (.int .i64 0)), (.lit (.int .i64 0)), (.lit (.string (ba [])))] [⟨0, 4, (.t 26)⟩]) (.pair (.int .i64) (.pair (.int .i64) (.pair (.int .i64) .str))),
  .p (.app 28 4 40 (.t 24) (.t 27)) (.pair (.int .i64) (.pair (.int .i64) (.pair (.int .i64) .str))),
  .p (.mvT 5 28) .unit]) .skip)))))
 (.reg none [.p (.bin 29 false .add (.t 10) (.c (.int .i64 1))) .unit,
  .p (.mv 10 (.t 29)) .unit]))))
noncomputable def L_impl_ItemsOf_1 : Nat → (Int) × (List (Int × Int × Int × List UInt8)) × (List (Int × (Int × List (Int)) × (Int × Int × Int × List UInt8) × List (Int))) × (Int) × Int → Option ((List (Int × Int × Int × List UInt8)) ⊕ (List (Int × Int × Int × List UInt8))) := evL [] (finT [.t 4] [] [.cell (.sl true (.pair (.int .i64) (.pair (.int .i64) (.pair (.int .i64) .str))))]) 0 ⟨[(1, true), (5, false), (8, false), (9, false), (10, false)], [.cell (.int .i64), .cell (.sl true (.pair (.int .i64) (.pair (.int .i64) (.pair (.int .i64) .str)))), .cell (.sl false (.pair (.int .i64) (.pair (.pair (.int .i64) (.sl false (.int .i64))) (.pair (.pair (.int .i64) (.pair (.int .i64) (.pair (.int .i64) .str))) (.sl false (.int .i64)))))), .cell (.int .i64), .cell (.int .i64)]⟩ ⟨[(5, false)], [.cell (.sl true (.pair (.int .i64) (.pair (.int .i64) (.pair (.int .i64) .str))))]⟩ B_impl_ItemsOf_1
def F_impl_ItemsOf : TF := ⟨(.seq (.reg none [.p (.mvN 4 4) .unit])
 (.seq (.reg none [.p (.mvN 5 4) .unit])
 (.seq (.seq (.reg none [.p (.mv 8 (.t 0)) .unit,
  .p (.lenB 9 (.t 8)) .unit,
  .p (.mv 10 (.c (.int .i64 0))) .unit])
 (.jl 0 ⟨[(1, true), (5, false), (8, false), (9, false), (10, false)], [.cell (.int .i64), .cell (.sl true (.pair (.int .i64) (.pair (.int .i64) (.pair (.int .i64) .str)))), .cell (.sl false (.pair (.int .i64) (.pair (.pair (.int .i64) (.sl false (.int .i64))) (.pair (.pair (.int .i64) (.pair (.int .i64) (.pair (.int .i64) .str))) (.sl false (.int .i64)))))), .cell (.int .i64), .cell (.int .i64)]⟩ ⟨[(5, false)], [.cell (.sl true (.pair (.int .i64) (.pair (.int .i64) (.pair (.int .i64) .str))))]⟩ B_impl_ItemsOf_1))
 (.seq (.reg none [.p (.mvT 30 5) .unit,
  .p (.mvT 4 30) .unit])
 .ret)))),
 31, 2, [.t 4]⟩
theorem m_impl_ItemsOf : mH Try.prog 60 [(6, 0, .t), (6, 5, .t), (8, 0, .t), (8, 1, .t)] = some (F_impl_ItemsOf.code.x, F_impl_ItemsOf.N, F_impl_ItemsOf.np, F_impl_ItemsOf.res) := by kernel_rfl
noncomputable def T_impl_ItemsOf : (List (Int × (Int × List (Int)) × (Int × Int × Int × List UInt8) × List (Int))) × Int → Option (List (Int × Int × Int × List UInt8)) := evF [] F_impl_ItemsOf [.cell (.sl false (.pair (.int .i64) (.pair (.pair (.int .i64) (.sl false (.int .i64))) (.pair (.pair (.int .i64) (.pair (.int .i64) (.pair (.int .i64) .str))) (.sl false (.int .i64)))))), .cell (.int .i64)] [] [.cell (.sl true (.pair (.int .i64) (.pair (.int .i64) (.pair (.int .i64) .str))))] []
noncomputable def fn_impl_ItemsOf : TFn := ⟨60, [.cell (.sl false (.pair (.int .i64) (.pair (.pair (.int .i64) (.sl false (.int .i64))) (.pair (.pair (.int .i64) (.pair (.int .i64) (.pair (.int .i64) .str))) (.sl false (.int .i64)))))), .cell (.int .i64)], [], [.cell (.sl true (.pair (.int .i64) (.pair (.int .i64) (.pair (.int .i64) .str))))], [], T_impl_ItemsOf⟩
theorem ok_impl_ItemsOf : FnOk Try.prog fn_impl_ItemsOf := evF_ok mixed allOk_nil m_impl_ItemsOf (by decide)
def F_laws_eqItem : TF := ⟨(.seq (.reg none [.p (.box 2 (.t 0)) .unit,
  .p (.box 3 (.t 1)) .unit,
  .p (.mv 4 (.c (.bool false))) .unit])
 (.seq (.seq (.reg none [.p (.fadr 5 (.t 2) 0) .unit,
  .p (.load 6 (.t 5) 1 false) .unit,
  .p (.fadr 7 (.t 3) 0) .unit,
  .p (.load 8 (.t 7) 1 false) .unit,
  .p (.bin 9 false .neq (.t 6) (.t 8)) .unit])
 (.cond (.t 9) (.seq (.reg none [.p (.mv 4 (.c (.bool false))) .unit])
 .ret) .skip))
 (.seq (.seq (.reg none [.p (.fadr 10 (.t 2) 1) .unit,
  .p (.load 11 (.t 10) 1 false) .unit,
  .p (.fadr 12 (.t 3) 1) .unit,
  .p (.load 13 (.t 12) 1 false) .unit,
  .p (.bin 14 false .neq (.t 11) (.t 13)) .unit])
 (.cond (.t 14) (.seq (.reg none [.p (.mv 4 (.c (.bool false))) .unit])
 .ret) .skip))
 (.seq (.seq (.reg none [.p (.fadr 15 (.t 2) 2) .unit,
  .p (.load 16 (.t 15) 1 false) .unit,
  .p (.fadr 17 (.t 3) 2) .unit,
  .p (.load 18 (.t 17) 1 false) .unit,
  .p (.bin 19 false .neq (.t 16) (.t 18)) .unit])
 (.cond (.t 19) (.seq (.reg none [.p (.mv 4 (.c (.bool false))) .unit])
 .ret) .skip))
 (.seq (.seq (.reg none [.p (.fadr 20 (.t 2) 3) .unit,
  .p (.load 21 (.t 20) 1 false) .unit,
  .p (.fadr 22 (.t 3) 3) .unit,
  .p (.load 23 (.t 22) 1 false) .unit,
  .p (.bin 24 false .neq (.t 21) (.t 23)) .unit])
 (.cond (.t 24) (.seq (.reg none [.p (.mv 4 (.c (.bool false))) .unit])
 .ret) .skip))
 (.seq (.reg none [.p (.mv 4 (.c (.bool true))) .unit])
 .ret)))))),
 25, 2, [.t 4]⟩
theorem m_laws_eqItem : mH Try.prog 40 [] = some (F_laws_eqItem.code.x, F_laws_eqItem.N, F_laws_eqItem.np, F_laws_eqItem.res) := by kernel_rfl
noncomputable def T_laws_eqItem : (Int × Int × Int × List UInt8) × Int × Int × Int × List UInt8 → Option (Bool) := evF [] F_laws_eqItem [.agg (.pair (.int .i64) (.pair (.int .i64) (.pair (.int .i64) .str))), .agg (.pair (.int .i64) (.pair (.int .i64) (.pair (.int .i64) .str)))] [] [.cell .bool] []
noncomputable def fn_laws_eqItem : TFn := ⟨40, [.agg (.pair (.int .i64) (.pair (.int .i64) (.pair (.int .i64) .str))), .agg (.pair (.int .i64) (.pair (.int .i64) (.pair (.int .i64) .str)))], [], [.cell .bool], [], T_laws_eqItem⟩
theorem ok_laws_eqItem : FnOk Try.prog fn_laws_eqItem := evF_ok mixed allOk_nil m_laws_eqItem (by decide)
def B_laws_eqItemS_1 : TC := (.seq (.seq (.reg none [.p (.mv 11 (.t 5)) .unit,
  .p (.mv 12 (.t 0)) .unit,
  .p (.lenB 13 (.t 12)) .unit,
  .p (.bin 14 false .lss (.t 11) (.t 13)) .unit])
 (.cond (.t 14) .skip (.exit 0)))
 (.seq (.block 1 (.seq (.reg (some [[], [], [0, 1], [2], [], [], [4, 5], [6], [3, 7], [8]]) [.p (.mv 17 (.t 0)) .unit,
  .p (.mv 18 (.t 5)) .unit,
  .p (.iadr 19 4 (.t 17) (.t 18)) .unit,
  .p (.load 20 (.t 19) 4 true) .unit,
  .p (.mv 21 (.t 1)) .unit,
  .p (.mv 22 (.t 5)) .unit,
  .p (.iadr 23 4 (.t 21) (.t 22)) .unit,
  .p (.load 24 (.t 23) 4 true) .unit,
  .p (.callB 25 n_laws_eqItem [((.t 20), 0), ((.t 24), 0)]) .unit,
  .p (.un 26 .not (.t 25)) .unit])
 (.cond (.t 26) (.seq (.reg none [.p (.mv 4 (.c (.bool false))) .unit])
 .ret) .skip)))
 (.reg none [.p (.mv 15 (.t 5)) .unit,
  .p (.bin 16 false .add (.t 15) (.c (.int .i64 1))) .unit,
  .p (.mv 5 (.t 16)) .unit])))
noncomputable def L_laws_eqItemS_1 : Nat → (List (Int × Int × Int × List UInt8)) × (List (Int × Int × Int × List UInt8)) × Int → Option ((Unit) ⊕ (Bool)) := evL [fn_laws_eqItem] (finT [.t 4] [] [.cell .bool]) 0 ⟨[(0, true), (1, true), (5, false)], [.cell (.sl false (.pair (.int .i64) (.pair (.int .i64) (.pair (.int .i64) .str)))), .cell (.sl false (.pair (.int .i64) (.pair (.int .i64) (.pair (.int .i64) .str)))), .cell (.int .i64)]⟩ ⟨[], []⟩ B_laws_eqItemS_1
def F_laws_eqItemS : TF := ⟨(.seq (.reg none [.p (.mv 4 (.c (.bool false))) .unit])
 (.seq (.seq (.reg none [.p (.mv 6 (.t 0)) .unit,
  .p (.lenB 7 (.t 6)) .unit,
  .p (.mv 8 (.t 1)) .unit,
  .p (.lenB 9 (.t 8)) .unit,
  .p (.bin 10 false .neq (.t 7) (.t 9)) .unit])
 (.cond (.t 10) (.seq (.reg none [.p (.mv 4 (.c (.bool false))) .unit])
 .ret) .skip))
 (.seq (.seq (.reg none [.p (.mv 5 (.c (.int .i64 0))) .unit])
 (.jl 0 ⟨[(0, true), (1, true), (5, false)], [.cell (.sl false (.pair (.int .i64) (.pair (.int .i64) (.pair (.int .i64) .str)))), .cell (.sl false (.pair (.int .i64) (.pair (.int .i64) (.pair (.int .i64) .str)))), .cell (.int .i64)]⟩ ⟨[], []⟩ B_laws_eqItemS_1))
 (.seq (.reg none [.p (.mv 4 (.c (.bool true))) .unit])
 .ret)))),
 27, 2, [.t 4]⟩
theorem m_laws_eqItemS : mH Try.prog 61 [] = some (F_laws_eqItemS.code.x, F_laws_eqItemS.N, F_laws_eqItemS.np, F_laws_eqItemS.res) := by kernel_rfl
noncomputable def T_laws_eqItemS : (List (Int × Int × Int × List UInt8)) × List (Int × Int × Int × List UInt8) → Option (Bool) := evF [fn_laws_eqItem] F_laws_eqItemS [.cell (.sl false (.pair (.int .i64) (.pair (.int .i64) (.pair (.int .i64) .str)))), .cell (.sl false (.pair (.int .i64) (.pair (.int .i64) (.pair (.int .i64) .str))))] [] [.cell .bool] []
noncomputable def fn_laws_eqItemS : TFn := ⟨61, [.cell (.sl false (.pair (.int .i64) (.pair (.int .i64) (.pair (.int .i64) .str)))), .cell (.sl false (.pair (.int .i64) (.pair (.int .i64) (.pair (.int .i64) .str))))], [], [.cell .bool], [], T_laws_eqItemS⟩
theorem ok_laws_eqItemS : FnOk Try.prog fn_laws_eqItemS := evF_ok mixed (allOk_cons ok_laws_eqItem allOk_nil) m_laws_eqItemS (by decide)
def B_laws_eqIntS_1 : TC := (.seq (.seq (.reg none [.p (.mv 11 (.t 5)) .unit,
  .p (.mv 12 (.t 0)) .unit,
  .p (.lenB 13 (.t 12)) .unit,
  .p (.bin 14 false .lss (.t 11) (.t 13)) .unit])
 (.cond (.t 14) .skip (.exit 0)))
 (.seq (.block 1 (.seq (.reg (some [[], [], [0, 1], [2], [], [], [4, 5], [6], [3, 7]]) [.p (.mv 17 (.t 0)) .unit,
  .p (.mv 18 (.t 5)) .unit,
  .p (.iadr 19 1 (.t 17) (.t 18)) .unit,
  .p (.load 20 (.t 19) 1 false) .unit,
  .p (.mv 21 (.t 1)) .unit,
  .p (.mv 22 (.t 5)) .unit,
  .p (.iadr 23 1 (.t 21) (.t 22)) .unit,
  .p (.load 24 (.t 23) 1 false) .unit,
  .p (.bin 25 false .neq (.t 20) (.t 24)) .unit])
 (.cond (.t 25) (.seq (.reg none [.p (.mv 4 (.c (.bool false))) .unit])
 .ret) .skip)))
 (.reg none [.p (.mv 15 (.t 5)) .unit,
  .p (.bin 16 false .add (.t 15) (.c (.int .i64 1))) .unit,
  .p (.mv 5 (.t 16)) .unit])))
noncomputable def L_laws_eqIntS_1 : Nat → (List (Int)) × (List (Int)) × Int → Option ((Unit) ⊕ (Bool)) := evL [] (finT [.t 4] [] [.cell .bool]) 0 ⟨[(0, true), (1, true), (5, false)], [.cell (.sl false (.int .i64)), .cell (.sl false (.int .i64)), .cell (.int .i64)]⟩ ⟨[], []⟩ B_laws_eqIntS_1
def F_laws_eqIntS : TF := ⟨(.seq (.reg none [.p (.mv 4 (.c (.bool false))) .unit])
 (.seq (.seq (.reg none [.p (.mv 6 (.t 0)) .unit,
  .p (.lenB 7 (.t 6)) .unit,
  .p (.mv 8 (.t 1)) .unit,
  .p (.lenB 9 (.t 8)) .unit,
  .p (.bin 10 false .neq (.t 7) (.t 9)) .unit])
 (.cond (.t 10) (.seq (.reg none [.p (.mv 4 (.c (.bool false))) .unit])
 .ret) .skip))
 (.seq (.seq (.reg none [.p (.mv 5 (.c (.int .i64 0))) .unit])
 (.jl 0 ⟨[(0, true), (1, true), (5, false)], [.cell (.sl false (.int .i64)), .cell (.sl false (.int .i64)), .cell (.int .i64)]⟩ ⟨[], []⟩ B_laws_eqIntS_1))
 (.seq (.reg none [.p (.mv 4 (.c (.bool true))) .unit])
 .ret)))),
 26, 2, [.t 4]⟩
theorem m_laws_eqIntS : mH Try.prog 142 [] = some (F_laws_eqIntS.code.x, F_laws_eqIntS.N, F_laws_eqIntS.np, F_laws_eqIntS.res) := by kernel_rfl
noncomputable def T_laws_eqIntS : (List (Int)) × List (Int) → Option (Bool) := evF [] F_laws_eqIntS [.cell (.sl false (.int .i64)), .cell (.sl false (.int .i64))] [] [.cell .bool] []
noncomputable def fn_laws_eqIntS : TFn := ⟨142, [.cell (.sl false (.int .i64)), .cell (.sl false (.int .i64))], [], [.cell .bool], [], T_laws_eqIntS⟩
theorem ok_laws_eqIntS : FnOk Try.prog fn_laws_eqIntS := evF_ok mixed allOk_nil m_laws_eqIntS (by decide)
def F_laws_eqRing : TF := ⟨(.seq (.reg none [.p (.box 2 (.t 0)) .unit,
  .p (.box 3 (.t 1)) .unit,
  .p (.mv 4 (.c (.bool false))) .unit])
 (.seq (.seq (.reg none [.p (.fadr 5 (.t 2) 0) .unit,
  .p (.load 6 (.t 5) 1 false) .unit,
  .p (.fadr 7 (.t 3) 0) .unit,
  .p (.load 8 (.t 7) 1 false) .unit,
  .p (.bin 9 false .neq (.t 6) (.t 8)) .unit])
 (.cond (.t 9) (.seq (.reg none [.p (.mv 4 (.c (.bool false))) .unit])
 .ret) .skip))
 (.seq (.seq (.reg none [.p (.fadr 10 (.t 2) 1) .unit,
  .p (.load 11 (.t 10) 1 false) .unit,
  .p (.fadr 12 (.t 3) 1) .unit,
  .p (.load 13 (.t 12) 1 false) .unit,
  .p (.callB 14 n_laws_eqIntS [((.t 11), 0), ((.t 13), 0)]) .unit,
  .p (.un 15 .not (.t 14)) .unit])
 (.cond (.t 15) (.seq (.reg none [.p (.mv 4 (.c (.bool false))) .unit])
 .ret) .skip))
 (.seq (.reg none [.p (.mv 4 (.c (.bool true))) .unit])
 .ret)))),
 16, 2, [.t 4]⟩
theorem m_laws_eqRing : mH Try.prog 141 [] = some (F_laws_eqRing.code.x, F_laws_eqRing.N, F_laws_eqRing.np, F_laws_eqRing.res) := by kernel_rfl
noncomputable def T_laws_eqRing : (Int × List (Int)) × Int × List (Int) → Option (Bool) := evF [fn_laws_eqIntS] F_laws_eqRing [.agg (.pair (.int .i64) (.sl false (.int .i64))), .agg (.pair (.int .i64) (.sl false (.int .i64)))] [] [.cell .bool] []
noncomputable def fn_laws_eqRing : TFn := ⟨141, [.agg (.pair (.int .i64) (.sl false (.int .i64))), .agg (.pair (.int .i64) (.sl false (.int .i64)))], [], [.cell .bool], [], T_laws_eqRing⟩
theorem ok_laws_eqRing : FnOk Try.prog fn_laws_eqRing := evF_ok mixed (allOk_cons ok_laws_eqIntS allOk_nil) m_laws_eqRing (by decide)
def F_laws_eqEvent : TF := ⟨(.seq (.reg none [.p (.box 2 (.t 0)) .unit,
  .p (.box 3 (.t 1)) .unit,
  .p (.mv 4 (.c (.bool false))) .unit])
 (.seq (.seq (.reg none [.p (.fadr 5 (.t 2) 0) .unit,
  .p (.load 6 (.t 5) 1 false) .unit,
  .p (.fadr 7 (.t 3) 0) .unit,
  .p (.load 8 (.t 7) 1 false) .unit,
  .p (.bin 9 false .neq (.t 6) (.t 8)) .unit])
 (.cond (.t 9) (.seq (.reg none [.p (.mv 4 (.c (.bool false))) .unit])
 .ret) .skip))
 (.seq (.seq (.reg none [.p (.fadr 10 (.t 2) 1) .unit,
  .p (.load 11 (.t 10) 2 true) .unit,
  .p (.fadr 12 (.t 3) 1) .unit,
  .p (.load 13 (.t 12) 2 true) .unit,
  .p (.callB 14 n_laws_eqRing [((.t 11), 0), ((.t 13), 0)]) .unit,
  .p (.un 15 .not (.t 14)) .unit])
 (.cond (.t 15) (.seq (.reg none [.p (.mv 4 (.c (.bool false))) .unit])
 .ret) .skip))
 (.seq (.seq (.reg none [.p (.fadr 16 (.t 2) 3) .unit,
  .p (.load 17 (.t 16) 4 true) .unit,
  .p (.fadr 18 (.t 3) 3) .unit,
  .p (.load 19 (.t 18) 4 true) .unit,
  .p (.callB 20 n_laws_eqItem [((.t 17), 0), ((.t 19), 0)]) .unit,
  .p (.un 21 .not (.t 20)) .unit])
 (.cond (.t 21) (.seq (.reg none [.p (.mv 4 (.c (.bool false))) .unit])
 .ret) .skip))
 (.seq (.seq (.reg none [.p (.fadr 22 (.t 2) 7) .unit,
  .p (.load 23 (.t 22) 1 false) .unit,
  .p (.fadr 24 (.t 3) 7) .unit,
  .p (.load 25 (.t 24) 1 false) .unit,
  .p (.callB 26 n_laws_eqIntS [((.t 23), 0), ((.t 25), 0)]) .unit,
  .p (.un 27 .not (.t 26)) .unit])
 (.cond (.t 27) (.seq (.reg none [.p (.mv 4 (.c (.bool false))) .unit])
 .ret) .skip))
 (.seq (.reg none [.p (.mv 4 (.c (.bool true))) .unit])
 .ret)))))),
 28, 2, [.t 4]⟩
theorem m_laws_eqEvent : mH Try.prog 118 [] = some (F_laws_eqEvent.code.x, F_laws_eqEvent.N, F_laws_eqEvent.np, F_laws_eqEvent.res) := by kernel_rfl
noncomputable def T_laws_eqEvent : (Int × (Int × List (Int)) × (Int × Int × Int × List UInt8) × List (Int)) × Int × (Int × List (Int)) × (Int × Int × Int × List UInt8) × List (Int) → Option (Bool) := evF [fn_laws_eqRing, fn_laws_eqItem, fn_laws_eqIntS] F_laws_eqEvent [.agg (.pair (.int .i64) (.pair (.pair (.int .i64) (.sl false (.int .i64))) (.pair (.pair (.int .i64) (.pair (.int .i64) (.pair (.int .i64) .str))) (.sl false (.int .i64))))), .agg (.pair (.int .i64) (.pair (.pair (.int .i64) (.sl false (.int .i64))) (.pair (.pair (.int .i64) (.pair (.int .i64) (.pair (.int .i64) .str))) (.sl false (.int .i64)))))] [] [.cell .bool] []
noncomputable def fn_laws_eqEvent : TFn := ⟨118, [.agg (.pair (.int .i64) (.pair (.pair (.int .i64) (.sl false (.int .i64))) (.pair (.pair (.int .i64) (.pair (.int .i64) (.pair (.int .i64) .str))) (.sl false (.int .i64))))), .agg (.pair (.int .i64) (.pair (.pair (.int .i64) (.sl false (.int .i64))) (.pair (.pair (.int .i64) (.pair (.int .i64) (.pair (.int .i64) .str))) (.sl false (.int .i64)))))], [], [.cell .bool], [], T_laws_eqEvent⟩
theorem ok_laws_eqEvent : FnOk Try.prog fn_laws_eqEvent := evF_ok mixed (allOk_cons ok_laws_eqRing (allOk_cons ok_laws_eqItem (allOk_cons ok_laws_eqIntS allOk_nil))) m_laws_eqEvent (by decide)
def B_laws_eqEventS_1 : TC := (.seq (.seq (.reg none [.p (.mv 11 (.t 5)) .unit,
  .p (.mv 12 (.t 0)) .unit,
  .p (.lenB 13 (.t 12)) .unit,
  .p (.bin 14 false .lss (.t 11) (.t 13)) .unit])
 (.cond (.t 14) .skip (.exit 0)))
 (.seq (.block 1 (.seq (.reg (some [[], [], [0, 1], [2], [], [], [4, 5], [6], [3, 7], [8]]) [.p (.mv 17 (.t 0)) .unit,
  .p (.mv 18 (.t 5)) .unit,
  .p (.iadr 19 8 (.t 17) (.t 18)) .unit,
  .p (.load 20 (.t 19) 8 true) .unit,
  .p (.mv 21 (.t 1)) .unit,
  .p (.mv 22 (.t 5)) .unit,
  .p (.iadr 23 8 (.t 21) (.t 22)) .unit,
  .p (.load 24 (.t 23) 8 true) .unit,
  .p (.callB 25 n_laws_eqEvent [((.t 20), 0), ((.t 24), 0)]) .unit,
  .p (.un 26 .not (.t 25)) .unit])
 (.cond (.t 26) (.seq (.reg none [.p (.mv 4 (.c (.bool false))) .unit])
 .ret) .skip)))
 (.reg none [.p (.mv 15 (.t 5)) .unit,
  .p (.bin 16 false .add (.t 15) (.c (.int .i64 1))) .unit,
  .p (.mv 5 (.t 16)) .unit])))
noncomputable def L_laws_eqEventS_1 : Nat → (List (Int × (Int × List (Int)) × (Int × Int × Int × List UInt8) × List (Int))) × (List (Int × (Int × List (Int)) × (Int × Int × Int × List UInt8) × List (Int))) × Int → Option ((Unit) ⊕ (Bool)) := evL [fn_laws_eqEvent] (finT [.t 4] [] [.cell .bool]) 0 ⟨[(0, true), (1, true), (5, false)], [.cell (.sl false (.pair (.int .i64) (.pair (.pair (.int .i64) (.sl false (.int .i64))) (.pair (.pair (.int .i64) (.pair (.int .i64) (.pair (.int .i64) .str))) (.sl false (.int .i64)))))), .cell (.sl false (.pair (.int .i64) (.pair (.pair (.int .i64) (.sl false (.int .i64))) (.pair (.pair (.int .i64) (.pair (.int .i64) (.pair (.int .i64) .str))) (.sl false (.int .i64)))))), .cell (.int .i64)]⟩ ⟨[], []⟩ B_laws_eqEventS_1
def F_laws_eqEventS : TF := ⟨(.seq (.reg none [.p (.mv 4 (.c (.bool false))) .unit])
 (.seq (.seq (.reg none [.p (.mv 6 (.t 0)) .unit,
  .p (.lenB 7 (.t 6)) .unit,
  .p (.mv 8 (.t 1)) .unit,
  .p (.lenB 9 (.t 8)) .unit,
  .p (.bin 10 false .neq (.t 7) (.t 9)) .unit])
 (.cond (.t 10) (.seq (.reg none [.p (.mv 4 (.c (.bool false))) .unit])
 .ret) .skip))
 (.seq (.seq (.reg none [.p (.mv 5 (.c (.int .i64 0))) .unit])
 (.jl 0 ⟨[(0, true), (1, true), (5, false)], [.cell (.sl false (.pair (.int .i64) (.pair (.pair (.int .i64) (.sl false (.int .i64))) (.pair (.pair (.int .i64) (.pair (.int .i64) (.pair (.int .i64) .str))) (.sl false (.int .i64)))))), .cell (.sl false (.pair (.int .i64) (.pair (.pair (.int .i64) (.sl false (.int .i64))) (.pair (.pair (.int .i64) (.pair (.int .i64) (.pair (.int .i64) .str))) (.sl false (.int .i64)))))), .cell (.int .i64)]⟩ ⟨[], []⟩ B_laws_eqEventS_1))
 (.seq (.reg none [.p (.mv 4 (.c (.bool true))) .unit])
 .ret)))),
 27, 2, [.t 4]⟩
theorem m_laws_eqEventS : mH Try.prog 62 [] = some (F_laws_eqEventS.code.x, F_laws_eqEventS.N, F_laws_eqEventS.np, F_laws_eqEventS.res) := by kernel_rfl
noncomputable def T_laws_eqEventS : (List (Int × (Int × List (Int)) × (Int × Int × Int × List UInt8) × List (Int))) × List (Int × (Int × List (Int)) × (Int × Int × Int × List UInt8) × List (Int)) → Option (Bool) := evF [fn_laws_eqEvent] F_laws_eqEventS [.cell (.sl false (.pair (.int .i64) (.pair (.pair (.int .i64) (.sl false (.int .i64))) (.pair (.pair (.int .i64) (.pair (.int .i64) (.pair (.int .i64) .str))) (.sl false (.int .i64)))))), .cell (.sl false (.pair (.int .i64) (.pair (.pair (.int .i64) (.sl false (.int .i64))) (.pair (.pair (.int .i64) (.pair (.int .i64) (.pair (.int .i64) .str))) (.sl false (.int .i64))))))] [] [.cell .bool] []
noncomputable def fn_laws_eqEventS : TFn := ⟨62, [.cell (.sl false (.pair (.int .i64) (.pair (.pair (.int .i64) (.sl false (.int .i64))) (.pair (.pair (.int .i64) (.pair (.int .i64) (.pair (.int .i64) .str))) (.sl false (.int .i64)))))), .cell (.sl false (.pair (.int .i64) (.pair (.pair (.int .i64) (.sl false (.int .i64))) (.pair (.pair (.int .i64) (.pair (.int .i64) (.pair (.int .i64) .str))) (.sl false (.int .i64))))))], [], [.cell .bool], [], T_laws_eqEventS⟩
theorem ok_laws_eqEventS : FnOk Try.prog fn_laws_eqEventS := evF_ok mixed (allOk_cons ok_laws_eqEvent allOk_nil) m_laws_eqEventS (by decide)
def B_laws_markIntS_1 : TC := (.seq (.seq (.reg none [.p (.mv 6 (.t 5)) .unit,
  .p (.mvA 7 0) .unit,
  .p (.lenB 8 (.t 7)) .unit,
  .p (.bin 9 false .lss (.t 6) (.t 8)) .unit])
 (.cond (.t 9) .skip (.exit 0)))
 (.seq (.block 1 (.seq (.reg none [.p (.mvA 12 0) .unit,
  .p (.mv 13 (.t 5)) .unit,
  .p (.mv 14 (.t 1)) .unit,
  .p (.iadr 15 1 (.t 12) (.t 13)) .unit,
  .p (.store (.t 15) (.t 14) 1) .unit])
 (.reg none [.p (.mv 16 (.t 1)) .unit,
  .p (.bin 17 false .add (.t 16) (.c (.int .i64 1))) .unit,
  .p (.mv 1 (.t 17)) .unit])))
 (.reg none [.p (.mv 10 (.t 5)) .unit,
  .p (.bin 11 false .add (.t 10) (.c (.int .i64 1))) .unit,
  .p (.mv 5 (.t 11)) .unit])))
noncomputable def L_laws_markIntS_1 : Nat → (List (Int)) × (Int) × Int → Option (((List (Int)) × Int) ⊕ ((Int) × List (Int))) := evL [] (finT [.t 4] [0] [.cell (.int .i64), .cell (.sl true (.int .i64))]) 0 ⟨[(0, true), (1, false), (5, false)], [.cell (.sl true (.int .i64)), .cell (.int .i64), .cell (.int .i64)]⟩ ⟨[(0, true), (1, false)], [.cell (.sl true (.int .i64)), .cell (.int .i64)]⟩ B_laws_markIntS_1
def F_laws_markIntS : TF := ⟨(.seq (.reg none [.p (.mv 4 (.c (.int .i64 0))) .unit])
 (.seq (.seq (.reg none [.p (.mv 5 (.c (.int .i64 0))) .unit])
 (.jl 0 ⟨[(0, true), (1, false), (5, false)], [.cell (.sl true (.int .i64)), .cell (.int .i64), .cell (.int .i64)]⟩ ⟨[(0, true), (1, false)], [.cell (.sl true (.int .i64)), .cell (.int .i64)]⟩ B_laws_markIntS_1))
 (.seq (.reg none [.p (.mv 18 (.t 1)) .unit,
  .p (.mv 4 (.t 18)) .unit])
 .ret))),
 19, 2, [.t 4]⟩
theorem m_laws_markIntS : mH Try.prog 119 [(2, 1, .v), (4, 0, .v)] = some (F_laws_markIntS.code.x, F_laws_markIntS.N, F_laws_markIntS.np, F_laws_markIntS.res) := by kernel_rfl
noncomputable def T_laws_markIntS : (List (Int)) × Int → Option ((Int) × List (Int)) := evF [] F_laws_markIntS [.cell (.sl true (.int .i64)), .cell (.int .i64)] [0] [.cell (.int .i64)] [.cell (.sl true (.int .i64))]
noncomputable def fn_laws_markIntS : TFn := ⟨119, [.cell (.sl true (.int .i64)), .cell (.int .i64)], [0], [.cell (.int .i64)], [.cell (.sl true (.int .i64))], T_laws_markIntS⟩
theorem ok_laws_markIntS : FnOk Try.prog fn_laws_markIntS := evF_ok mixed allOk_nil m_laws_markIntS (by decide)
def B_laws_markText_1 : TC := (.seq (.seq (.reg none [.p (.mv 6 (.t 0)) .unit,
  .p (.bin 7 false .gtr (.t 6) (.c (.int .i64 0))) .unit])
 (.cond (.t 7) .skip (.exit 0)))
 (.block 1 (.seq (.reg none [.p (.mv 8 (.t 0)) .unit,
  .p (.bin 9 false .rem (.t 8) (.c (.int .i64 10))) .unit,
  .p (.bin 10 false .add (.c (.int .i64 48)) (.t 9)) .unit,
  .p (.cvi 11 .u8 .i64 (.t 10)) .unit,
  .p (.bldS 12 1 [(.lit (.int .u8 0))] [⟨0, 1, (.t 11)⟩]) (.int .u8),
  .p (.b2s 13 (.t 12)) .unit,
  .p (.mv 14 (.t 3)) .unit,
  .p (.bin 15 false .add (.t 13) (.t 14)) .unit,
  .p (.mv 3 (.t 15)) .unit])
 (.reg none [.p (.mv 16 (.t 0)) .unit,
  .p (.bin 17 false .quo (.t 16) (.c (.int .i64 10))) .unit,
  .p (.mv 0 (.t 17)) .unit]))))
noncomputable def L_laws_markText_1 : Nat → (Int) × List UInt8 → Option ((List UInt8) ⊕ (List UInt8)) := evL [] (finT [.t 2] [] [.cell .str]) 0 ⟨[(0, false), (3, false)], [.cell (.int .i64), .cell .str]⟩ ⟨[(3, false)], [.cell .str]⟩ B_laws_markText_1
def F_laws_markText : TF := ⟨(.seq (.reg none [.p (.mv 2 (.c (.string (ba [])))) .unit])
 (.seq (.seq (.reg none [.p (.mv 4 (.t 0)) .unit,
  .p (.bin 5 false .leq (.t 4) (.c (.int .i64 0))) .unit])
 (.cond (.t 5) (.seq (.reg none [.p (.mv 2 (.c (.string (ba [109, 48])))) .unit])
 .ret) .skip))
 (.seq (.reg none [.p (.mv 3 (.c (.string (ba [])))) .unit])
 (.seq (.jl 0 ⟨[(0, false), (3, false)], [.cell (.int .i64), .cell .str]⟩ ⟨[(3, false)], [.cell .str]⟩ B_laws_markText_1)
 (.seq (.reg none [.p (.mv 18 (.t 3)) .unit,
  .p (.bin 19 false .add (.c (.string (ba [109]))) (.t 18)) .unit,
  .p (.mv 2 (.t 19)) .unit])
 .ret))))),
 20, 1, [.t 2]⟩
theorem m_laws_markText : mH Try.prog 104 [] = some (F_laws_markText.code.x, F_laws_markText.N, F_laws_markText.np, F_laws_markText.res) := by kernel_rfl
noncomputable def T_laws_markText : Int → Option (List UInt8) := evF [] F_laws_markText [.cell (.int .i64)] [] [.cell .str] []
noncomputable def fn_laws_markText : TFn := ⟨104, [.cell (.int .i64)], [], [.cell .str], [], T_laws_markText⟩
theorem ok_laws_markText : FnOk Try.prog fn_laws_markText := evF_ok mixed allOk_nil m_laws_markText (by decide)
def B_laws_markEventS_1 : TC := (.seq (.seq (.reg none [.p (.mv 6 (.t 5)) .unit,
  .p (.mvA 7 0) .unit,
  .p (.lenB 8 (.t 7)) .unit,
  .p (.bin 9 false .lss (.t 6) (.t 8)) .unit])
 (.cond (.t 9) .skip (.exit 0)))
 (.seq (.block 1 (.seq (.reg none [.p (.mvA 12 0) .unit,
  .p (.mv 13 (.t 5)) .unit,
  .p (.mv 14 (.t 1)) .unit,
  .p (.iadr 15 8 (.t 12) (.t 13)) .unit,
  .p (.fadr 16 (.t 15) 0) .unit,
  .p (.store (.t 16) (.t 14) 1) .unit])
 (.seq (.reg none [.p (.mv 17 (.t 1)) .unit,
  .p (.bin 18 false .add (.t 17) (.c (.int .i64 1))) .unit,
  .p (.mv 1 (.t 18)) .unit])
 (.seq (.reg none [.p (.mvA 19 0) .unit,
  .p (.mv 20 (.t 5)) .unit,
  .p (.mv 21 (.t 1)) .unit,
  .p (.iadr 22 8 (.t 19) (.t 20)) .unit,
  .p (.fadr 23 (.t 22) 1) .unit,
  .p (.fadr 24 (.t 23) 0) .unit,
  .p (.store (.t 24) (.t 21) 1) .unit])
 (.seq (.reg none [.p (.mv 25 (.t 1)) .unit,
  .p (.bin 26 false .add (.t 25) (.c (.int .i64 1))) .unit,
  .p (.mv 1 (.t 26)) .unit])
 (.seq (.reg none [.p (.mvA 27 0) .unit,
  .p (.mv 28 (.t 5)) .unit,
  .p (.iadr 29 8 (.t 27) (.t 28)) .unit,
  .p (.fadr 30 (.t 29) 1) .unit,
  .p (.fadr 31 (.t 30) 1) .unit,
  .p (.load 32 (.t 31) 1 false) .unit,
  .p (.mv 33 (.t 1)) .unit,
  .p (.callM 34 n_laws_markIntS [] (.agg (.t 32) 0) [((.t 33), 0)]) .unit,
  .p (.mv 1 (.t 34)) .unit])
 (.seq (.reg none [.p (.mvA 35 0) .unit,
  .p (.mv 36 (.t 5)) .unit,
  .p (.mv 37 (.t 1)) .unit,
  .p (.iadr 38 8 (.t 35) (.t 36)) .unit,
  .p (.fadr 39 (.t 38) 3) .unit,
  .p (.fadr 40 (.t 39) 0) .unit,
  .p (.store (.t 40) (.t 37) 1) .unit])
 (.seq (.reg none [.p (.mv 41 (.t 1)) .unit,
  .p (.bin 42 false .add (.t 41) (.c (.int .i64 1))) .unit,
  .p (.mv 1 (.t 42)) .unit])
 (.seq (.reg none [.p (.mvA 43 0) .unit,
  .p (.mv 44 (.t 5)) .unit,
  .p (.mv 45 (.t 1)) .unit,
  .p (.iadr 46 8 (.t 43) (.t 44)) .unit,
  .p (.fadr 47 (.t 46) 3) .unit,
  .p (.fadr 48 (.t 47) 1) .unit,
  .p (.store (.t 48) (.t 45) 1) .unit])
 (.seq (.reg none [.p (.mv 49 (.t 1)) .unit,
  .p (.bin 50 false .add (.t 49) (.c (.int .i64 1))) .unit,
  .p (.mv 1 (.t 50)) .unit])
 (.seq (.reg none [.p (.mvA 51 0) .unit,
  .p (.mv 52 (.t 5)) .unit,
  .p (.mv 53 (.t 1)) .unit,
  .p (.iadr 54 8 (.t 51) (.t 52)) .unit,
  .p (.fadr 55 (.t 54) 3) .unit,
  .p (.fadr 56 (.t 55) 2) .unit,
  .p (.store (.t 56) (.t 53) 1) .unit])
 (.seq (.reg none [.p (.mv 57 (.t 1)) .unit,
  .p (.bin 58 false .add (.t 57) (.c (.int .i64 1))) .unit,
  .p (.mv 1 (.t 58)) .unit])
 (.seq (.reg none [.p (.mvA 59 0) .unit,
  .p (.mv 60 (.t 5)) .unit,
  .p (.mv 61 (.t 1)) .unit,
  .p (.callB 62 n_laws_markText [((.t 61), 0)]) .unit,
  .p (.iadr 63 8 (.t 59) (.t 60)) .unit,
  .p (.fadr 64 (.t 63) 3) .unit,
  .p (.fadr 65 (.t 64) 3) .unit,
  .p (.store (.t 65) (.t 62) 1) .unit])
 (.seq (.reg none [.p (.mv 66 (.t 1)) .unit,
  .p (.bin 67 false .add (.t 66) (.c (.int .i64 1))) .unit,
  .p (.mv 1 (.t 67)) .unit])
 (.reg none [.p (.mvA 68 0) .unit,
  .p (.mv 69 (.t 5)) .unit,
  .p (.iadr 70 8 (.t 68) (.t 69)) .unit,
  .p (.fadr 71 (.t 70) 7) .unit,
  .p (.load 72 (.t 71) 1 false) .unit,
  .p (.mv 73 (.t 1)) .unit,
  .p (.callM 74 n_laws_markIntS [] (.agg (.t 72) 0) [((.t 73), 0)]) .unit,
  .p (.mv 1 (.t 74)) .unit])))))))))))))))
 (.reg none [.p (.mv 10 (.t 5)) .unit,
  .p (.bin 11 false .add (.t 10) (.c (.int .i64 1))) .unit,
  .p (.mv 5 (.t 11)) .unit])))
noncomputable def L_laws_markEventS_1 : Nat → (List (Int × (Int × List (Int)) × (Int × Int × Int × List UInt8) × List (Int))) × (Int) × Int → Option (((List (Int × (Int × List (Int)) × (Int × Int × Int × List UInt8) × List (Int))) × Int) ⊕ ((Int) × List (Int × (Int × List (Int)) × (Int × Int × Int × List UInt8) × List (Int)))) := evL [fn_laws_markIntS, fn_laws_markText] (finT [.t 4] [0] [.cell (.int .i64), .cell (.sl true (.pair (.int .i64) (.pair (.pair (.int .i64) (.sl true (.int .i64))) (.pair (.pair (.int .i64) (.pair (.int .i64) (.pair (.int .i64) .str))) (.sl true (.int .i64))))))]) 0 ⟨[(0, true), (1, false), (5, false)], [.cell (.sl true (.pair (.int .i64) (.pair (.pair (.int .i64) (.sl true (.int .i64))) (.pair (.pair (.int .i64) (.pair (.int .i64) (.pair (.int .i64) .str))) (.sl true (.int .i64)))))), .cell (.int .i64), .cell (.int .i64)]⟩ ⟨[(0, true), (1, false)], [.cell (.sl true (.pair (.int .i64) (.pair (.pair (.int .i64) (.sl true (.int .i64))) (.pair (.pair (.int .i64) (.pair (.int .i64) (.pair (.int .i64) .str))) (.sl true (.int .i64)))))), .cell (.int .i64)]⟩ B_laws_markEventS_1
def F_laws_markEventS : TF := ⟨(.seq (.reg none [.p (.mv 4 (.c (.int .i64 0))) .unit])
 (.seq (.seq (.reg none [.p (.mv 5 (.c (.int .i64 0))) .unit])
 (.jl 0 ⟨[(0, true), (1, false), (5, false)], [.cell (.sl true (.pair (.int .i64) (.pair (.pair (.int .i64) (.sl true (.int .i64))) (.pair (.pair (.int .i64) (.pair (.int .i64) (.pair (.int .i64) .str))) (.sl true (.int .i64)))))), .cell (.int .i64), .cell (.int .i64)]⟩ ⟨[(0, true), (1, false)], [.cell (.sl true (.pair (.int .i64) (.pair (.pair (.int .i64) (.sl true (.int .i64))) (.pair (.pair (.int .i64) (.pair (.int .i64) (.pair (.int .i64) .str))) (.sl true (.int .i64)))))), .cell (.int .i64)]⟩ B_laws_markEventS_1))
 (.seq (.reg none [.p (.mv 75 (.t 1)) .unit,
  .p (.mv 4 (.t 75)) .unit])
 .ret))),
 76, 2, [.t 4]⟩
theorem m_laws_markEventS : mH Try.prog 63 [(2, 1, .v), (4, 0, .v), (6, 0, .v), (8, 0, .v), (8, 7, (.g 0 0)), (9, 0, .v), (11, 0, .v), (13, 0, .v), (15, 0, .v), (17, 0, .v), (17, 6, (.g 0 0))] = some (F_laws_markEventS.code.x, F_laws_markEventS.N, F_laws_markEventS.np, F_laws_markEventS.res) := by kernel_rfl
noncomputable def T_laws_markEventS : (List (Int × (Int × List (Int)) × (Int × Int × Int × List UInt8) × List (Int))) × Int → Option ((Int) × List (Int × (Int × List (Int)) × (Int × Int × Int × List UInt8) × List (Int))) := evF [fn_laws_markIntS, fn_laws_markText] F_laws_markEventS [.cell (.sl true (.pair (.int .i64) (.pair (.pair (.int .i64) (.sl true (.int .i64))) (.pair (.pair (.int .i64) (.pair (.int .i64) (.pair (.int .i64) .str))) (.sl true (.int .i64)))))), .cell (.int .i64)] [0] [.cell (.int .i64)] [.cell (.sl true (.pair (.int .i64) (.pair (.pair (.int .i64) (.sl true (.int .i64))) (.pair (.pair (.int .i64) (.pair (.int .i64) (.pair (.int .i64) .str))) (.sl true (.int .i64))))))]
noncomputable def fn_laws_markEventS : TFn := ⟨63, [.cell (.sl true (.pair (.int .i64) (.pair (.pair (.int .i64) (.sl true (.int .i64))) (.pair (.pair (.int .i64) (.pair (.int .i64) (.pair (.int .i64) .str))) (.sl true (.int .i64)))))), .cell (.int .i64)], [0], [.cell (.int .i64)], [.cell (.sl true (.pair (.int .i64) (.pair (.pair (.int .i64) (.sl true (.int .i64))) (.pair (.pair (.int .i64) (.pair (.int .i64) (.pair (.int .i64) .str))) (.sl true (.int .i64))))))], T_laws_markEventS⟩
theorem ok_laws_markEventS : FnOk Try.prog fn_laws_markEventS := evF_ok mixed (allOk_cons ok_laws_markIntS (allOk_cons ok_laws_markText allOk_nil)) m_laws_markEventS (by decide)
def B_laws_markItemS_1 : TC := (.seq (.seq (.reg none [.p (.mv 6 (.t 5)) .unit,
  .p (.mvA 7 0) .unit,
  .p (.lenB 8 (.t 7)) .unit,
  .p (.bin 9 false .lss (.t 6) (.t 8)) .unit])
 (.cond (.t 9) .skip (.exit 0)))
 (.seq (.block 1 (.seq (.reg none [.p (.mvA 12 0) .unit,
  .p (.mv 13 (.t 5)) .unit,
  .p (.mv 14 (.t 1)) .unit,
  .p (.iadr 15 4 (.t 12) (.t 13)) .unit,
  .p (.fadr 16 (.t 15) 0) .unit,
  .p (.store (.t 16) (.t 14) 1) .unit])
 (.seq (.reg none [.p (.mv 17 (.t 1)) .unit,
  .p (.bin 18 false .add (.t 17) (.c (.int .i64 1))) .unit,
  .p (.mv 1 (.t 18)) .unit])
 (.seq (.reg none [.p (.mvA 19 0) .unit,
  .p (.mv 20 (.t 5)) .unit,
  .p (.mv 21 (.t 1)) .unit,
  .p (.iadr 22 4 (.t 19) (.t 20)) .unit,
  .p (.fadr 23 (.t 22) 1) .unit,
  .p (.store (.t 23) (.t 21) 1) .unit])
 (.seq (.reg none [.p (.mv 24 (.t 1)) .unit,
  .p (.bin 25 false .add (.t 24) (.c (.int .i64 1))) .unit,
  .p (.mv 1 (.t 25)) .unit])
 (.seq (.reg none [.p (.mvA 26 0) .unit,
  .p (.mv 27 (.t 5)) .unit,
  .p (.mv 28 (.t 1)) .unit,
  .p (.iadr 29 4 (.t 26) (.t 27)) .unit,
  .p (.fadr 30 (.t 29) 2) .unit,
  .p (.store (.t 30) (.t 28) 1) .unit])
 (.seq (.reg none [.p (.mv 31 (.t 1)) .unit,
  .p (.bin 32 false .add (.t 31) (.c (.int .i64 1))) .unit,
  .p (.mv 1 (.t 32)) .unit])
 (.seq (.reg none [.p (.mvA 33 0) .unit,
  .p (.mv 34 (.t 5)) .unit,
  .p (.mv 35 (.t 1)) .unit,
  .p (.callB 36 n_laws_markText [((.t 35), 0)]) .unit,
  .p (.iadr 37 4 (.t 33) (.t 34)) .unit,
  .p (.fadr 38 (.t 37) 3) .unit,
  .p (.store (.t 38) (.t 36) 1) .unit])
 (.reg none [.p (.mv 39 (.t 1)) .unit,
  .p (.bin 40 false .add (.t 39) (.c (.int .i64 1))) .unit,
  .p (.mv 1 (.t 40)) .unit])))))))))
 (.reg none [.p (.mv 10 (.t 5)) .unit,
  .p (.bin 11 false .add (.t 10) (.c (.int .i64 1))) .unit,
  .p (.mv 5 (.t 11)) .unit])))
noncomputable def L_laws_markItemS_1 : Nat → (List (Int × Int × Int × List UInt8)) × (Int) × Int → Option (((List (Int × Int × Int × List UInt8)) × Int) ⊕ ((Int) × List (Int × Int × Int × List UInt8))) := evL [fn_laws_markText] (finT [.t 4] [0] [.cell (.int .i64), .cell (.sl true (.pair (.int .i64) (.pair (.int .i64) (.pair (.int .i64) .str))))]) 0 ⟨[(0, true), (1, false), (5, false)], [.cell (.sl true (.pair (.int .i64) (.pair (.int .i64) (.pair (.int .i64) .str)))), .cell (.int .i64), .cell (.int .i64)]⟩ ⟨[(0, true), (1, false)], [.cell (.sl true (.pair (.int .i64) (.pair (.int .i64) (.pair (.int .i64) .str)))), .cell (.int .i64)]⟩ B_laws_markItemS_1
def F_laws_markItemS : TF := ⟨(.seq (.reg none [.p (.mv 4 (.c (.int .i64 0))) .unit])
 (.seq (.seq (.reg none [.p (.mv 5 (.c (.int .i64 0))) .unit])
 (.jl 0 ⟨[(0, true), (1, false), (5, false)], [.cell (.sl true (.pair (.int .i64) (.pair (.int .i64) (.pair (.int .i64) .str)))), .cell (.int .i64), .cell (.int .i64)]⟩ ⟨[(0, true), (1, false)], [.cell (.sl true (.pair (.int .i64) (.pair (.int .i64) (.pair (.int .i64) .str)))), .cell (.int .i64)]⟩ B_laws_markItemS_1))
 (.seq (.reg none [.p (.mv 41 (.t 1)) .unit,
  .p (.mv 4 (.t 41)) .unit])
 .ret))),
 42, 2, [.t 4]⟩
theorem m_laws_markItemS : mH Try.prog 64 [(2, 1, .v), (4, 0, .v), (6, 0, .v), (8, 0, .v), (10, 0, .v)] = some (F_laws_markItemS.code.x, F_laws_markItemS.N, F_laws_markItemS.np, F_laws_markItemS.res) := by kernel_rfl
noncomputable def T_laws_markItemS : (List (Int × Int × Int × List UInt8)) × Int → Option ((Int) × List (Int × Int × Int × List UInt8)) := evF [fn_laws_markText] F_laws_markItemS [.cell (.sl true (.pair (.int .i64) (.pair (.int .i64) (.pair (.int .i64) .str)))), .cell (.int .i64)] [0] [.cell (.int .i64)] [.cell (.sl true (.pair (.int .i64) (.pair (.int .i64) (.pair (.int .i64) .str))))]
noncomputable def fn_laws_markItemS : TFn := ⟨64, [.cell (.sl true (.pair (.int .i64) (.pair (.int .i64) (.pair (.int .i64) .str)))), .cell (.int .i64)], [0], [.cell (.int .i64)], [.cell (.sl true (.pair (.int .i64) (.pair (.int .i64) (.pair (.int .i64) .str))))], T_laws_markItemS⟩
theorem ok_laws_markItemS : FnOk Try.prog fn_laws_markItemS := evF_ok mixed (allOk_cons ok_laws_markText allOk_nil) m_laws_markItemS (by decide)
def B_laws_heldItemS_1 : TC := (.seq (.seq (.reg none [.p (.mv 6 (.t 5)) .unit,
  .p (.mv 7 (.t 0)) .unit,
  .p (.lenB 8 (.t 7)) .unit,
  .p (.bin 9 false .lss (.t 6) (.t 8)) .unit])
 (.cond (.t 9) .skip (.exit 0)))
 (.seq (.block 1 (.seq (.seq (.reg none [.p (.mv 12 (.t 0)) .unit,
  .p (.mv 13 (.t 5)) .unit,
  .p (.iadr 14 4 (.t 12) (.t 13)) .unit,
  .p (.fadr 15 (.t 14) 0) .unit,
  .p (.load 16 (.t 15) 1 false) .unit,
  .p (.mv 17 (.t 1)) .unit,
  .p (.bin 18 false .neq (.t 16) (.t 17)) .unit])
 (.cond (.t 18) (.seq (.reg none [.p (.mv 4 (.c (.int .i64 (-1)))) .unit])
 .ret) .skip))
 (.seq (.reg none [.p (.mv 19 (.t 1)) .unit,
  .p (.bin 20 false .add (.t 19) (.c (.int .i64 1))) .unit,
  .p (.mv 1 (.t 20)) .unit])
 (.seq (.seq (.reg none [.p (.mv 21 (.t 0)) .unit,
  .p (.mv 22 (.t 5)) .unit,
  .p (.iadr 23 4 (.t 21) (.t 22)) .unit,
  .p (.fadr 24 (.t 23) 1) .unit,
  .p (.load 25 (.t 24) 1 false) .unit,
  .p (.mv 26 (.t 1)) .unit,
  .p (.bin 27 false .neq (.t 25) (.t 26)) .unit])
 (.cond (.t 27) (.seq (.reg none [.p (.mv 4 (.c (.int .i64 (-1)))) .unit])
 .ret) .skip))
 (.seq (.reg none [.p (.mv 28 (.t 1)) .unit,
  .p (.bin 29 false .add (.t 28) (.c (.int .i64 1))) .unit,
  .p (.mv 1 (.t 29)) .unit])
 (.seq (.seq (.reg none [.p (.mv 30 (.t 0)) .unit,
  .p (.mv 31 (.t 5)) .unit,
  .p (.iadr 32 4 (.t 30) (.t 31)) .unit,
  .p (.fadr 33 (.t 32) 2) .unit,
  .p (.load 34 (.t 33) 1 false) .unit,
  .p (.mv 35 (.t 1)) .unit,
  .p (.bin 36 false .neq (.t 34) (.t 35)) .unit])
 (.cond (.t 36) (.seq (.reg none [.p (.mv 4 (.c (.int .i64 (-1)))) .unit])
 .ret) .skip))
 (.seq (.reg none [.p (.mv 37 (.t 1)) .unit,
  .p (.bin 38 false .add (.t 37) (.c (.int .i64 1))) .unit,
  .p (.mv 1 (.t 38)) .unit])
 (.seq (.seq (.reg (some [[], [], [0, 1], [2], [3], [], [5], [4, 6]]) [.p (.mv 39 (.t 0)) .unit,
  .p (.mv 40 (.t 5)) .unit,
  .p (.iadr 41 4 (.t 39) (.t 40)) .unit,
  .p (.fadr 42 (.t 41) 3) .unit,
  .p (.load 43 (.t 42) 1 false) .unit,
  .p (.mv 44 (.t 1)) .unit,
  .p (.callB 45 n_laws_markText [((.t 44), 0)]) .unit,
  .p (.bin 46 false .neq (.t 43) (.t 45)) .unit])
 (.cond (.t 46) (.seq (.reg none [.p (.mv 4 (.c (.int .i64 (-1)))) .unit])
 .ret) .skip))
 (.reg none [.p (.mv 47 (.t 1)) .unit,
  .p (.bin 48 false .add (.t 47) (.c (.int .i64 1))) .unit,
  .p (.mv 1 (.t 48)) .unit])))))))))
 (.reg none [.p (.mv 10 (.t 5)) .unit,
  .p (.bin 11 false .add (.t 10) (.c (.int .i64 1))) .unit,
  .p (.mv 5 (.t 11)) .unit])))
noncomputable def L_laws_heldItemS_1 : Nat → (List (Int × Int × Int × List UInt8)) × (Int) × Int → Option ((Int) ⊕ (Int)) := evL [fn_laws_markText] (finT [.t 4] [] [.cell (.int .i64)]) 0 ⟨[(0, true), (1, false), (5, false)], [.cell (.sl false (.pair (.int .i64) (.pair (.int .i64) (.pair (.int .i64) .str)))), .cell (.int .i64), .cell (.int .i64)]⟩ ⟨[(1, false)], [.cell (.int .i64)]⟩ B_laws_heldItemS_1
def F_laws_heldItemS : TF := ⟨(.seq (.reg none [.p (.mv 4 (.c (.int .i64 0))) .unit])
 (.seq (.seq (.reg none [.p (.mv 5 (.c (.int .i64 0))) .unit])
 (.jl 0 ⟨[(0, true), (1, false), (5, false)], [.cell (.sl false (.pair (.int .i64) (.pair (.int .i64) (.pair (.int .i64) .str)))), .cell (.int .i64), .cell (.int .i64)]⟩ ⟨[(1, false)], [.cell (.int .i64)]⟩ B_laws_heldItemS_1))
 (.seq (.reg none [.p (.mv 49 (.t 1)) .unit,
  .p (.mv 4 (.t 49)) .unit])
 .ret))),
 50, 2, [.t 4]⟩
theorem m_laws_heldItemS : mH Try.prog 65 [] = some (F_laws_heldItemS.code.x, F_laws_heldItemS.N, F_laws_heldItemS.np, F_laws_heldItemS.res) := by kernel_rfl
noncomputable def T_laws_heldItemS : (List (Int × Int × Int × List UInt8)) × Int → Option (Int) := evF [fn_laws_markText] F_laws_heldItemS [.cell (.sl false (.pair (.int .i64) (.pair (.int .i64) (.pair (.int .i64) .str)))), .cell (.int .i64)] [] [.cell (.int .i64)] []
noncomputable def fn_laws_heldItemS : TFn := ⟨65, [.cell (.sl false (.pair (.int .i64) (.pair (.int .i64) (.pair (.int .i64) .str)))), .cell (.int .i64)], [], [.cell (.int .i64)], [], T_laws_heldItemS⟩
theorem ok_laws_heldItemS : FnOk Try.prog fn_laws_heldItemS := evF_ok mixed (allOk_cons ok_laws_markText allOk_nil) m_laws_heldItemS (by decide)
def F_laws_FnExactItemsOf : TF := ⟨(.seq (.reg none [.p (.mv 4 (.c (.bool false))) .unit])
 (.seq (.reg none [.p (.mv 5 (.c (.int .i64 1048576))) .unit])
 (.seq (.reg none [.p (.mv 13 (.t 0)) .unit,
  .p (.mv 14 (.t 5)) .unit,
  .p (.callB 15 n_laws_szEventS [((.t 13), 0), ((.t 14), 0)]) .unit,
  .p (.mv 5 (.t 15)) .unit])
 (.seq (.seq (.reg none [.p (.mv 16 (.t 5)) .unit,
  .p (.bin 17 false .lss (.t 16) (.c (.int .i64 0))) .unit])
 (.cond (.t 17) (.seq (.reg none [.p (.mv 4 (.c (.bool true))) .unit])
 .ret) .skip))
 (.seq (.reg none [.p (.mv 18 (.t 0)) .unit,
  .p (.callB 19 n_laws_toEventS [((.t 18), 0)]) .unit,
  .p (.mv 20 (.t 1)) .unit,
  .p (.callB 21 n_spec_ItemsOf [((.t 19), 0), ((.t 20), 0)]) .unit,
  .p (.mvT 6 21) .unit])
 (.seq (.reg none [.p (.mv 22 (.t 0)) .unit,
  .p (.callB 23 n_laws_toEventS [((.t 22), 0)]) .unit,
  .p (.mvT 7 23) .unit])
 (.seq (.reg none [.p (.mvA 24 7) .unit,
  .p (.mv 25 (.t 1)) .unit,
  .p (.callB 26 n_impl_ItemsOf [((.t 24), 0), ((.t 25), 0)]) .unit,
  .p (.mvT 8 26) .unit])
 (.seq (.seq (.reg none [.p (.mvA 27 8) .unit,
  .p (.mvA 28 6) .unit,
  .p (.callB 29 n_laws_eqItemS [((.t 27), 0), ((.t 28), 0)]) .unit,
  .p (.un 30 .not (.t 29)) .unit])
 (.cond (.t 30) (.seq (.reg none [.p (.mv 4 (.c (.bool false))) .unit])
 .ret) .skip))
 (.seq (.seq (.reg none [.p (.mvA 31 7) .unit,
  .p (.mv 32 (.t 0)) .unit,
  .p (.callB 33 n_laws_toEventS [((.t 32), 0)]) .unit,
  .p (.callB 34 n_laws_eqEventS [((.t 31), 0), ((.t 33), 0)]) .unit,
  .p (.un 35 .not (.t 34)) .unit])
 (.cond (.t 35) (.seq (.reg none [.p (.mv 4 (.c (.bool false))) .unit])
 .ret) .skip))
 (.seq (.reg none [.p (.mv 9 (.c (.int .i64 1))) .unit])
 (.seq (.reg none [.p (.mvT 36 7) .unit,
  .p (.mv 37 (.t 9)) .unit,
  .p (.callM 38 n_laws_markEventS [] (.tmp 36) [((.t 37), 0)]) .unit,
  .p (.mv 9 (.t 38)) .unit])
 (.seq (.seq (.join ⟨[(0, true), (1, true), (6, false), (8, false), (46, false)], [.cell (.sl false (.pair (.int .i64) (.pair (.pair (.int .i64) (.sl false (.int .i64))) (.pair (.pair (.int .i64) (.pair (.int .i64) (.pair (.int .i64) .str))) (.sl false (.int .i64)))))), .cell (.int .i64), .cell (.sl true (.pair (.int .i64) (.pair (.int .i64) (.pair (.int .i64) .str)))), .cell (.sl true (.pair (.int .i64) (.pair (.int .i64) (.pair (.int .i64) .str)))), .cell .bool]⟩ (.reg none [.p (.mv 39 (.t 9)) .unit,
  .p (.bin 40 false .lss (.t 39) (.c (.int .i64 0))) .unit,
  .p (.mv 41 (.t 40)) .unit,
  .g 41 false (some 42) (.mvA 42 8) .unit,
  .g 41 false (some 43) (.mvA 43 6) .unit,
  .g 41 false (some 44) (.callB 44 n_laws_eqItemS [((.t 42), 0), ((.t 43), 0)]) .unit,
  .g 41 false (some 45) (.un 45 .not (.t 44)) .unit,
  .p (.pick 46 (.t 41) (.c (.bool true)) (.t 45)) .unit]))
 (.cond (.t 46) (.seq (.reg none [.p (.mv 4 (.c (.bool false))) .unit])
 .ret) .skip))
 (.seq (.reg none [.p (.mv 10 (.c (.int .i64 1))) .unit])
 (.seq (.reg none [.p (.mvA 47 8) .unit,
  .p (.mv 48 (.t 10)) .unit,
  .p (.callM 49 n_laws_markItemS [] (.ptr (.t 47) 8) [((.t 48), 0)]) .unit,
  .p (.mv 10 (.t 49)) .unit])
 (.seq (.reg none [.p (.mv 11 (.c (.int .i64 1))) .unit])
 (.seq (.reg none [.p (.mvA 50 8) .unit,
  .p (.mv 51 (.t 11)) .unit,
  .p (.callB 52 n_laws_heldItemS [((.t 50), 0), ((.t 51), 0)]) .unit,
  .p (.mv 11 (.t 52)) .unit])
 (.seq (.seq (.reg none [.p (.mv 53 (.t 11)) .unit,
  .p (.bin 54 false .lss (.t 53) (.c (.int .i64 0))) .unit])
 (.cond (.t 54) (.seq (.reg none [.p (.mv 4 (.c (.bool false))) .unit])
 .ret) .skip))
 (.seq (.seq (.reg none [.p (.mv 55 (.t 11)) .unit,
  .p (.mv 56 (.t 10)) .unit,
  .p (.bin 57 false .neq (.t 55) (.t 56)) .unit])
 (.cond (.t 57) (.seq (.reg none [.p (.mv 4 (.c (.bool false))) .unit])
 .ret) .skip))
 (.seq (.reg none [.p (.mv 58 (.t 0)) .unit,
  .p (.callB 59 n_laws_toEventS [((.t 58), 0)]) .unit,
  .p (.mv 60 (.t 1)) .unit,
  .p (.callB 61 n_impl_ItemsOf [((.t 59), 0), ((.t 60), 0)]) .unit,
  .p (.mvT 12 61) .unit])
 (.seq (.seq (.reg none [.p (.mvT 62 12) .unit,
  .p (.mvT 63 6) .unit,
  .p (.callB 64 n_laws_eqItemS [((.t 62), 0), ((.t 63), 0)]) .unit,
  .p (.un 65 .not (.t 64)) .unit])
 (.cond (.t 65) (.seq (.reg none [.p (.mv 4 (.c (.bool false))) .unit])
 .ret) .skip))
 (.seq (.reg none [.p (.mv 11 (.c (.int .i64 1))) .unit])
 (.seq (.reg none [.p (.mvT 66 8) .unit,
  .p (.mv 67 (.t 11)) .unit,
  .p (.callB 68 n_laws_heldItemS [((.t 66), 0), ((.t 67), 0)]) .unit,
  .p (.mv 11 (.t 68)) .unit])
 (.seq (.seq (.reg none [.p (.mv 69 (.t 11)) .unit,
  .p (.bin 70 false .lss (.t 69) (.c (.int .i64 0))) .unit])
 (.cond (.t 70) (.seq (.reg none [.p (.mv 4 (.c (.bool false))) .unit])
 .ret) .skip))
 (.seq (.seq (.reg none [.p (.mv 71 (.t 11)) .unit,
  .p (.mv 72 (.t 10)) .unit,
  .p (.bin 73 false .neq (.t 71) (.t 72)) .unit])
 (.cond (.t 73) (.seq (.reg none [.p (.mv 4 (.c (.bool false))) .unit])
 .ret) .skip))
 (.seq (.reg none [.p (.mv 4 (.c (.bool true))) .unit])
 .ret))))))))))))))))))))))))),
 74, 2, [.t 4]⟩
theorem m_laws_FnExactItemsOf : mH Try.prog 14 [(5, 4, .t), (6, 2, .t), (7, 0, .v), (7, 3, .t), (8, 0, .v), (8, 1, .v), (10, 0, .v), (13, 0, .t), (13, 2, (.m 0)), (14, 3, .v), (14, 4, .v), (17, 0, .v), (17, 2, (.p 0 8)), (19, 0, .v), (24, 4, .t), (25, 0, .t), (25, 1, .t), (28, 0, .t)] = some (F_laws_FnExactItemsOf.code.x, F_laws_FnExactItemsOf.N, F_laws_FnExactItemsOf.np, F_laws_FnExactItemsOf.res) := by kernel_rfl
noncomputable def T_laws_FnExactItemsOf : (List (Int × (Int × List (Int)) × (Int × Int × Int × List UInt8) × List (Int))) × Int → Option (Bool) := evF [fn_laws_szEventS, fn_laws_toEventS, fn_spec_ItemsOf, fn_impl_ItemsOf, fn_laws_eqItemS, fn_laws_eqEventS, fn_laws_markEventS, fn_laws_markItemS, fn_laws_heldItemS] F_laws_FnExactItemsOf [.cell (.sl false (.pair (.int .i64) (.pair (.pair (.int .i64) (.sl false (.int .i64))) (.pair (.pair (.int .i64) (.pair (.int .i64) (.pair (.int .i64) .str))) (.sl false (.int .i64)))))), .cell (.int .i64)] [] [.cell .bool] []
noncomputable def fn_laws_FnExactItemsOf : TFn := ⟨14, [.cell (.sl false (.pair (.int .i64) (.pair (.pair (.int .i64) (.sl false (.int .i64))) (.pair (.pair (.int .i64) (.pair (.int .i64) (.pair (.int .i64) .str))) (.sl false (.int .i64)))))), .cell (.int .i64)], [], [.cell .bool], [], T_laws_FnExactItemsOf⟩
theorem ok_laws_FnExactItemsOf : FnOk Try.prog fn_laws_FnExactItemsOf := evF_ok mixed (allOk_cons ok_laws_szEventS (allOk_cons ok_laws_toEventS (allOk_cons ok_spec_ItemsOf (allOk_cons ok_impl_ItemsOf (allOk_cons ok_laws_eqItemS (allOk_cons ok_laws_eqEventS (allOk_cons ok_laws_markEventS (allOk_cons ok_laws_markItemS (allOk_cons ok_laws_heldItemS allOk_nil))))))))) m_laws_FnExactItemsOf (by decide)

end Xs
end Go.Proofs.Ytfepabohinkpgaa
