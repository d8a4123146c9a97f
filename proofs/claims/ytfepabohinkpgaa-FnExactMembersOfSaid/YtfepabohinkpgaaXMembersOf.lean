/- The typed code of the functions, printed by program. -/
import Derived.Test.YtfepabohinkpgaaT7
import Derived.Test.YtfepabohinkpgaaProg
import Derived.KernelRfl
namespace Go.Proofs.Ytfepabohinkpgaa
open Go Vm
namespace Xs
theorem mixed : Try.prog.follows .mixedOrders = true := by kernel_rfl
abbrev n_laws_FnExactMembersOf : Nat := 9
abbrev n_laws_szTable : Nat := 41
abbrev n_spec_MembersOf : Nat := 42
abbrev n_laws_toTable : Nat := 43
abbrev n_impl_MembersOf : Nat := 44
abbrev n_laws_eqStringS : Nat := 45
abbrev n_laws_eqTable : Nat := 46
abbrev n_laws_markTable : Nat := 47
abbrev n_laws_markStringS : Nat := 48
abbrev n_laws_heldStringS : Nat := 49
abbrev n_laws_szStringS : Nat := 73
abbrev n_laws_toStringS : Nat := 75
abbrev n_laws_szGroupS : Nat := 99
abbrev n_laws_toGroupS : Nat := 100
abbrev n_slices_Clone___string_string_ : Nat := 101
abbrev n_laws_eqGroupS : Nat := 102
abbrev n_laws_markGroupS : Nat := 103
abbrev n_laws_markText : Nat := 104
abbrev n_laws_szGroup : Nat := 127
abbrev n_laws_toGroup : Nat := 128
abbrev n_laws_eqGroup : Nat := 129
def B_laws_szStringS_1 : TC := (.seq (.seq (.reg none [.p (.mv 12 (.t 5)) .unit,
  .p (.mv 13 (.t 0)) .unit,
  .p (.lenB 14 (.t 13)) .unit,
  .p (.bin 15 false .lss (.t 12) (.t 14)) .unit])
 (.cond (.t 15) .skip (.exit 0)))
 (.seq (.block 1 (.seq (.reg none [.p (.mv 18 (.t 1)) .unit,
  .p (.mv 19 (.t 0)) .unit,
  .p (.mv 20 (.t 5)) .unit,
  .p (.iadr 21 1 (.t 19) (.t 20)) .unit,
  .p (.load 22 (.t 21) 1 false) .unit,
  .p (.lenS 23 (.t 22)) .unit,
  .p (.bin 24 false .sub (.t 18) (.t 23)) .unit,
  .p (.mv 1 (.t 24)) .unit])
 (.seq (.reg none [.p (.mv 25 (.t 1)) .unit,
  .p (.bin 26 false .lss (.t 25) (.c (.int .i64 0))) .unit])
 (.cond (.t 26) (.seq (.reg none [.p (.mv 4 (.c (.int .i64 (-1)))) .unit])
 .ret) .skip))))
 (.reg none [.p (.mv 16 (.t 5)) .unit,
  .p (.bin 17 false .add (.t 16) (.c (.int .i64 1))) .unit,
  .p (.mv 5 (.t 17)) .unit])))
noncomputable def L_laws_szStringS_1 : Nat → (List (List UInt8)) × (Int) × Int → Option ((Int) ⊕ (Int)) := evL [] (finT [.t 4] [] [.cell (.int .i64)]) 0 ⟨[(0, true), (1, false), (5, false)], [.cell (.sl false .str), .cell (.int .i64), .cell (.int .i64)]⟩ ⟨[(1, false)], [.cell (.int .i64)]⟩ B_laws_szStringS_1
def F_laws_szStringS : TF := ⟨(.seq (.reg none [.p (.mv 4 (.c (.int .i64 0))) .unit])
 (.seq (.reg none [.p (.mv 6 (.t 1)) .unit,
  .p (.mv 7 (.t 0)) .unit,
  .p (.lenB 8 (.t 7)) .unit,
  .p (.bin 9 false .sub (.t 6) (.t 8)) .unit,
  .p (.mv 1 (.t 9)) .unit])
 (.seq (.seq (.reg none [.p (.mv 10 (.t 1)) .unit,
  .p (.bin 11 false .lss (.t 10) (.c (.int .i64 0))) .unit])
 (.cond (.t 11) (.seq (.reg none [.p (.mv 4 (.c (.int .i64 (-1)))) .unit])
 .ret) .skip))
 (.seq (.seq (.reg none [.p (.mv 5 (.c (.int .i64 0))) .unit])
 (.jl 0 ⟨[(0, true), (1, false), (5, false)], [.cell (.sl false .str), .cell (.int .i64), .cell (.int .i64)]⟩ ⟨[(1, false)], [.cell (.int .i64)]⟩ B_laws_szStringS_1))
 (.seq (.reg none [.p (.mv 27 (.t 1)) .unit,
  .p (.mv 4 (.t 27)) .unit])
 .ret))))),
 28, 2, [.t 4]⟩
theorem m_laws_szStringS : mH Try.prog 73 [] = some (F_laws_szStringS.code.x, F_laws_szStringS.N, F_laws_szStringS.np, F_laws_szStringS.res) := by kernel_rfl
noncomputable def T_laws_szStringS : (List (List UInt8)) × Int → Option (Int) := evF [] F_laws_szStringS [.cell (.sl false .str), .cell (.int .i64)] [] [.cell (.int .i64)] []
noncomputable def fn_laws_szStringS : TFn := ⟨73, [.cell (.sl false .str), .cell (.int .i64)], [], [.cell (.int .i64)], [], T_laws_szStringS⟩
theorem ok_laws_szStringS : FnOk Try.prog fn_laws_szStringS := evF_ok mixed allOk_nil m_laws_szStringS (by decide)
def F_laws_szGroup : TF := ⟨(.seq (.reg none [.p (.box 2 (.t 0)) .unit,
  .p (.mv 4 (.c (.int .i64 0))) .unit])
 (.seq (.reg none [.p (.mv 5 (.t 1)) .unit,
  .p (.fadr 6 (.t 2) 0) .unit,
  .p (.load 7 (.t 6) 1 false) .unit,
  .p (.lenS 8 (.t 7)) .unit,
  .p (.bin 9 false .sub (.t 5) (.t 8)) .unit,
  .p (.mv 1 (.t 9)) .unit])
 (.seq (.seq (.reg none [.p (.mv 10 (.t 1)) .unit,
  .p (.bin 11 false .lss (.t 10) (.c (.int .i64 0))) .unit])
 (.cond (.t 11) (.seq (.reg none [.p (.mv 4 (.c (.int .i64 (-1)))) .unit])
 .ret) .skip))
 (.seq (.reg none [.p (.fadr 12 (.t 2) 1) .unit,
  .p (.load 13 (.t 12) 1 false) .unit,
  .p (.mv 14 (.t 1)) .unit,
  .p (.callB 15 n_laws_szStringS [((.t 13), 0), ((.t 14), 0)]) .unit,
  .p (.mv 1 (.t 15)) .unit])
 (.seq (.seq (.reg none [.p (.mv 16 (.t 1)) .unit,
  .p (.bin 17 false .lss (.t 16) (.c (.int .i64 0))) .unit])
 (.cond (.t 17) (.seq (.reg none [.p (.mv 4 (.c (.int .i64 (-1)))) .unit])
 .ret) .skip))
 (.seq (.reg none [.p (.mv 18 (.t 1)) .unit,
  .p (.mv 4 (.t 18)) .unit])
 .ret)))))),
 19, 2, [.t 4]⟩
theorem m_laws_szGroup : mH Try.prog 127 [] = some (F_laws_szGroup.code.x, F_laws_szGroup.N, F_laws_szGroup.np, F_laws_szGroup.res) := by kernel_rfl
noncomputable def T_laws_szGroup : (List UInt8 × List (List UInt8)) × Int → Option (Int) := evF [fn_laws_szStringS] F_laws_szGroup [.agg (.pair .str (.sl false .str)), .cell (.int .i64)] [] [.cell (.int .i64)] []
noncomputable def fn_laws_szGroup : TFn := ⟨127, [.agg (.pair .str (.sl false .str)), .cell (.int .i64)], [], [.cell (.int .i64)], [], T_laws_szGroup⟩
theorem ok_laws_szGroup : FnOk Try.prog fn_laws_szGroup := evF_ok mixed (allOk_cons ok_laws_szStringS allOk_nil) m_laws_szGroup (by decide)
def B_laws_szGroupS_1 : TC := (.seq (.seq (.reg none [.p (.mv 12 (.t 5)) .unit,
  .p (.mv 13 (.t 0)) .unit,
  .p (.lenB 14 (.t 13)) .unit,
  .p (.bin 15 false .lss (.t 12) (.t 14)) .unit])
 (.cond (.t 15) .skip (.exit 0)))
 (.seq (.block 1 (.seq (.reg none [.p (.mv 18 (.t 0)) .unit,
  .p (.mv 19 (.t 5)) .unit,
  .p (.iadr 20 2 (.t 18) (.t 19)) .unit,
  .p (.load 21 (.t 20) 2 true) .unit,
  .p (.mv 22 (.t 1)) .unit,
  .p (.callB 23 n_laws_szGroup [((.t 21), 0), ((.t 22), 0)]) .unit,
  .p (.mv 1 (.t 23)) .unit])
 (.seq (.reg none [.p (.mv 24 (.t 1)) .unit,
  .p (.bin 25 false .lss (.t 24) (.c (.int .i64 0))) .unit])
 (.cond (.t 25) (.seq (.reg none [.p (.mv 4 (.c (.int .i64 (-1)))) .unit])
 .ret) .skip))))
 (.reg none [.p (.mv 16 (.t 5)) .unit,
  .p (.bin 17 false .add (.t 16) (.c (.int .i64 1))) .unit,
  .p (.mv 5 (.t 17)) .unit])))
noncomputable def L_laws_szGroupS_1 : Nat → (List (List UInt8 × List (List UInt8))) × (Int) × Int → Option ((Int) ⊕ (Int)) := evL [fn_laws_szGroup] (finT [.t 4] [] [.cell (.int .i64)]) 0 ⟨[(0, true), (1, false), (5, false)], [.cell (.sl false (.pair .str (.sl false .str))), .cell (.int .i64), .cell (.int .i64)]⟩ ⟨[(1, false)], [.cell (.int .i64)]⟩ B_laws_szGroupS_1
def F_laws_szGroupS : TF := ⟨(.seq (.reg none [.p (.mv 4 (.c (.int .i64 0))) .unit])
 (.seq (.reg none [.p (.mv 6 (.t 1)) .unit,
  .p (.mv 7 (.t 0)) .unit,
  .p (.lenB 8 (.t 7)) .unit,
  .p (.bin 9 false .sub (.t 6) (.t 8)) .unit,
  .p (.mv 1 (.t 9)) .unit])
 (.seq (.seq (.reg none [.p (.mv 10 (.t 1)) .unit,
  .p (.bin 11 false .lss (.t 10) (.c (.int .i64 0))) .unit])
 (.cond (.t 11) (.seq (.reg none [.p (.mv 4 (.c (.int .i64 (-1)))) .unit])
 .ret) .skip))
 (.seq (.seq (.reg none [.p (.mv 5 (.c (.int .i64 0))) .unit])
 (.jl 0 ⟨[(0, true), (1, false), (5, false)], [.cell (.sl false (.pair .str (.sl false .str))), .cell (.int .i64), .cell (.int .i64)]⟩ ⟨[(1, false)], [.cell (.int .i64)]⟩ B_laws_szGroupS_1))
 (.seq (.reg none [.p (.mv 26 (.t 1)) .unit,
  .p (.mv 4 (.t 26)) .unit])
 .ret))))),
 27, 2, [.t 4]⟩
theorem m_laws_szGroupS : mH Try.prog 99 [] = some (F_laws_szGroupS.code.x, F_laws_szGroupS.N, F_laws_szGroupS.np, F_laws_szGroupS.res) := by kernel_rfl
noncomputable def T_laws_szGroupS : (List (List UInt8 × List (List UInt8))) × Int → Option (Int) := evF [fn_laws_szGroup] F_laws_szGroupS [.cell (.sl false (.pair .str (.sl false .str))), .cell (.int .i64)] [] [.cell (.int .i64)] []
noncomputable def fn_laws_szGroupS : TFn := ⟨99, [.cell (.sl false (.pair .str (.sl false .str))), .cell (.int .i64)], [], [.cell (.int .i64)], [], T_laws_szGroupS⟩
theorem ok_laws_szGroupS : FnOk Try.prog fn_laws_szGroupS := evF_ok mixed (allOk_cons ok_laws_szGroup allOk_nil) m_laws_szGroupS (by decide)
def F_laws_szTable : TF := ⟨(.seq (.reg none [.p (.box 2 (.t 0)) .unit,
  .p (.mv 4 (.c (.int .i64 0))) .unit])
 (.seq (.reg none [.p (.fadr 5 (.t 2) 0) .unit,
  .p (.load 6 (.t 5) 1 false) .unit,
  .p (.mv 7 (.t 1)) .unit,
  .p (.callB 8 n_laws_szGroupS [((.t 6), 0), ((.t 7), 0)]) .unit,
  .p (.mv 1 (.t 8)) .unit])
 (.seq (.seq (.reg none [.p (.mv 9 (.t 1)) .unit,
  .p (.bin 10 false .lss (.t 9) (.c (.int .i64 0))) .unit])
 (.cond (.t 10) (.seq (.reg none [.p (.mv 4 (.c (.int .i64 (-1)))) .unit])
 .ret) .skip))
 (.seq (.reg none [.p (.mv 11 (.t 1)) .unit,
  .p (.mv 4 (.t 11)) .unit])
 .ret)))),
 12, 2, [.t 4]⟩
theorem m_laws_szTable : mH Try.prog 41 [] = some (F_laws_szTable.code.x, F_laws_szTable.N, F_laws_szTable.np, F_laws_szTable.res) := by kernel_rfl
noncomputable def T_laws_szTable : (List (List UInt8 × List (List UInt8))) × Int → Option (Int) := evF [fn_laws_szGroupS] F_laws_szTable [.agg (.sl false (.pair .str (.sl false .str))), .cell (.int .i64)] [] [.cell (.int .i64)] []
noncomputable def fn_laws_szTable : TFn := ⟨41, [.agg (.sl false (.pair .str (.sl false .str))), .cell (.int .i64)], [], [.cell (.int .i64)], [], T_laws_szTable⟩
theorem ok_laws_szTable : FnOk Try.prog fn_laws_szTable := evF_ok mixed (allOk_cons ok_laws_szGroupS allOk_nil) m_laws_szTable (by decide)
def B_laws_toStringS_1 : TC := (.seq (.seq (.reg none [.p (.mv 8 (.t 4)) .unit,
  .p (.mv 9 (.t 0)) .unit,
  .p (.lenB 10 (.t 9)) .unit,
  .p (.bin 11 false .lss (.t 8) (.t 10)) .unit])
 (.cond (.t 11) .skip (.exit 0)))
 (.seq (.block 1 (.reg none [.p (.mvA 14 3) .unit,
  .p (.mv 15 (.t 4)) .unit,
  .p (.mv 16 (.t 0)) .unit,
  .p (.mv 17 (.t 4)) .unit,
  .p (.iadr 18 1 (.t 16) (.t 17)) .unit,
  .p (.load 19 (.t 18) 1 false) .unit,
  .p (.iadr 20 1 (.t 14) (.t 15)) .unit,
  .p (.store (.t 20) (.t 19) 1) .unit]))
 (.reg none [.p (.mv 12 (.t 4)) .unit,
  .p (.bin 13 false .add (.t 12) (.c (.int .i64 1))) .unit,
  .p (.mv 4 (.t 13)) .unit])))
noncomputable def L_laws_toStringS_1 : Nat → (List (List UInt8)) × (List (List UInt8)) × Int → Option ((List (List UInt8)) ⊕ (List (List UInt8))) := evL [] (finT [.t 2] [] [.cell (.sl true .str)]) 0 ⟨[(0, true), (3, false), (4, false)], [.cell (.sl false .str), .cell (.sl true .str), .cell (.int .i64)]⟩ ⟨[(3, false)], [.cell (.sl true .str)]⟩ B_laws_toStringS_1
def F_laws_toStringS : TF := ⟨(.seq (.reg none [.p (.mvN 2 1) .unit])
 (.seq (.reg none [.p (.mv 5 (.t 0)) .unit,
  .p (.lenB 6 (.t 5)) .unit,
  .p (.mkS 7 16 [(.lit (.string (ba [])))] (.t 6) (.t 6)) .str,
  .p (.mvT 3 7) .unit])
 (.seq (.seq (.reg none [.p (.mv 4 (.c (.int .i64 0))) .unit])
 (.jl 0 ⟨[(0, true), (3, false), (4, false)], [.cell (.sl false .str), .cell (.sl true .str), .cell (.int .i64)]⟩ ⟨[(3, false)], [.cell (.sl true .str)]⟩ B_laws_toStringS_1))
 (.seq (.reg none [.p (.mvT 21 3) .unit,
  .p (.mvT 2 21) .unit])
 .ret)))),
 22, 1, [.t 2]⟩
theorem m_laws_toStringS : mH Try.prog 75 [(1, 3, .t), (5, 0, .v), (6, 0, .t), (6, 1, .t)] = some (F_laws_toStringS.code.x, F_laws_toStringS.N, F_laws_toStringS.np, F_laws_toStringS.res) := by kernel_rfl
noncomputable def T_laws_toStringS : List (List UInt8) → Option (List (List UInt8)) := evF [] F_laws_toStringS [.cell (.sl false .str)] [] [.cell (.sl true .str)] []
noncomputable def fn_laws_toStringS : TFn := ⟨75, [.cell (.sl false .str)], [], [.cell (.sl true .str)], [], T_laws_toStringS⟩
theorem ok_laws_toStringS : FnOk Try.prog fn_laws_toStringS := evF_ok mixed allOk_nil m_laws_toStringS (by decide)
def F_laws_toGroup : TF := ⟨(.seq (.reg none [.p (.box 1 (.t 0)) .unit,
  .p (.alloc 2 [(.lit (.string (ba []))), (.sl true 1 [])]) .unit])
 (.seq (.reg none [.p (.alloc 3 [(.lit (.string (ba []))), (.sl true 1 [])]) .unit])
 (.seq (.reg none [.p (.fadr 4 (.t 1) 0) .unit,
  .p (.load 5 (.t 4) 1 false) .unit,
  .p (.fadr 6 (.t 3) 0) .unit,
  .p (.store (.t 6) (.t 5) 1) .unit])
 (.seq (.reg none [.p (.fadr 7 (.t 1) 1) .unit,
  .p (.load 8 (.t 7) 1 false) .unit,
  .p (.callB 9 n_laws_toStringS [((.t 8), 0)]) .unit,
  .p (.fadr 10 (.t 3) 1) .unit,
  .p (.storeT (.t 10) 9 1) .unit])
 (.seq (.reg none [.p (.loadT 11 (.t 3) 2 true) .unit,
  .p (.storeT (.t 2) 11 2) .unit])
 .ret))))),
 12, 1, [.c 2 2 true]⟩
theorem m_laws_toGroup : mH Try.prog 128 [(3, 4, .t), (4, 0, .t), (4, 1, .t)] = some (F_laws_toGroup.code.x, F_laws_toGroup.N, F_laws_toGroup.np, F_laws_toGroup.res) := by kernel_rfl
noncomputable def T_laws_toGroup : List UInt8 × List (List UInt8) → Option (List UInt8 × List (List UInt8)) := evF [fn_laws_toStringS] F_laws_toGroup [.agg (.pair .str (.sl false .str))] [] [.agg (.pair .str (.sl true .str))] []
noncomputable def fn_laws_toGroup : TFn := ⟨128, [.agg (.pair .str (.sl false .str))], [], [.agg (.pair .str (.sl true .str))], [], T_laws_toGroup⟩
theorem ok_laws_toGroup : FnOk Try.prog fn_laws_toGroup := evF_ok mixed (allOk_cons ok_laws_toStringS allOk_nil) m_laws_toGroup (by decide)
def B_laws_toGroupS_1 : TC := (.seq (.seq (.reg none [.p (.mv 8 (.t 4)) .unit,
  .p (.mv 9 (.t 0)) .unit,
  .p (.lenB 10 (.t 9)) .unit,
  .p (.bin 11 false .lss (.t 8) (.t 10)) .unit])
 (.cond (.t 11) .skip (.exit 0)))
 (.seq (.block 1 (.reg none [.p (.mvA 14 3) .unit,
  .p (.mv 15 (.t 4)) .unit,
  .p (.mv 16 (.t 0)) .unit,
  .p (.mv 17 (.t 4)) .unit,
  .p (.iadr 18 2 (.t 16) (.t 17)) .unit,
  .p (.load 19 (.t 18) 2 true) .unit,
  .p (.callB 20 n_laws_toGroup [((.t 19), 0)]) .unit,
  .p (.iadr 21 2 (.t 14) (.t 15)) .unit,
  .p (.storeT (.t 21) 20 2) .unit]))
 (.reg none [.p (.mv 12 (.t 4)) .unit,
  .p (.bin 13 false .add (.t 12) (.c (.int .i64 1))) .unit,
  .p (.mv 4 (.t 13)) .unit])))
noncomputable def L_laws_toGroupS_1 : Nat → (List (List UInt8 × List (List UInt8))) × (List (List UInt8 × List (List UInt8))) × Int → Option ((List (List UInt8 × List (List UInt8))) ⊕ (List (List UInt8 × List (List UInt8)))) := evL [fn_laws_toGroup] (finT [.t 2] [] [.cell (.sl true (.pair .str (.sl true .str)))]) 0 ⟨[(0, true), (3, false), (4, false)], [.cell (.sl false (.pair .str (.sl false .str))), .cell (.sl true (.pair .str (.sl true .str))), .cell (.int .i64)]⟩ ⟨[(3, false)], [.cell (.sl true (.pair .str (.sl true .str)))]⟩ B_laws_toGroupS_1
def F_laws_toGroupS : TF := ⟨(.seq (.reg none [.p (.mvN 2 2) .unit])
 (.seq (.reg none [.p (.mv 5 (.t 0)) .unit,
  .p (.lenB 6 (.t 5)) .unit,
  .p (.mkS 7 40 [(.lit (.string (ba []))), (.sl true 1 [])] (.t 6) (.t 6)) (.pair .str (.sl true .str)),
  .p (.mvT 3 7) .unit])
 (.seq (.seq (.reg none [.p (.mv 4 (.c (.int .i64 0))) .unit])
 (.jl 0 ⟨[(0, true), (3, false), (4, false)], [.cell (.sl false (.pair .str (.sl false .str))), .cell (.sl true (.pair .str (.sl true .str))), .cell (.int .i64)]⟩ ⟨[(3, false)], [.cell (.sl true (.pair .str (.sl true .str)))]⟩ B_laws_toGroupS_1))
 (.seq (.reg none [.p (.mvT 22 3) .unit,
  .p (.mvT 2 22) .unit])
 .ret)))),
 23, 1, [.t 2]⟩
theorem m_laws_toGroupS : mH Try.prog 100 [(1, 3, .t), (5, 0, .v), (5, 8, .t), (6, 0, .t), (6, 1, .t)] = some (F_laws_toGroupS.code.x, F_laws_toGroupS.N, F_laws_toGroupS.np, F_laws_toGroupS.res) := by kernel_rfl
noncomputable def T_laws_toGroupS : List (List UInt8 × List (List UInt8)) → Option (List (List UInt8 × List (List UInt8))) := evF [fn_laws_toGroup] F_laws_toGroupS [.cell (.sl false (.pair .str (.sl false .str)))] [] [.cell (.sl true (.pair .str (.sl true .str)))] []
noncomputable def fn_laws_toGroupS : TFn := ⟨100, [.cell (.sl false (.pair .str (.sl false .str)))], [], [.cell (.sl true (.pair .str (.sl true .str)))], [], T_laws_toGroupS⟩
theorem ok_laws_toGroupS : FnOk Try.prog fn_laws_toGroupS := evF_ok mixed (allOk_cons ok_laws_toGroup allOk_nil) m_laws_toGroupS (by decide)
def F_laws_toTable : TF := ⟨(.seq (.reg none [.p (.box 1 (.t 0)) .unit,
  .p (.alloc 2 [(.sl true 2 [])]) .unit])
 (.seq (.reg none [.p (.alloc 3 [(.sl true 2 [])]) .unit])
 (.seq (.reg none [.p (.fadr 4 (.t 1) 0) .unit,
  .p (.load 5 (.t 4) 1 false) .unit,
  .p (.callB 6 n_laws_toGroupS [((.t 5), 0)]) .unit,
  .p (.fadr 7 (.t 3) 0) .unit,
  .p (.storeT (.t 7) 6 1) .unit])
 (.seq (.reg none [.p (.loadT 8 (.t 3) 1 true) .unit,
  .p (.storeT (.t 2) 8 1) .unit])
 .ret)))),
 9, 1, [.c 2 1 true]⟩
theorem m_laws_toTable : mH Try.prog 43 [(2, 4, .t), (3, 0, .t), (3, 1, .t)] = some (F_laws_toTable.code.x, F_laws_toTable.N, F_laws_toTable.np, F_laws_toTable.res) := by kernel_rfl
noncomputable def T_laws_toTable : List (List UInt8 × List (List UInt8)) → Option (List (List UInt8 × List (List UInt8))) := evF [fn_laws_toGroupS] F_laws_toTable [.agg (.sl false (.pair .str (.sl false .str)))] [] [.agg (.sl true (.pair .str (.sl true .str)))] []
noncomputable def fn_laws_toTable : TFn := ⟨43, [.agg (.sl false (.pair .str (.sl false .str)))], [], [.agg (.sl true (.pair .str (.sl true .str)))], [], T_laws_toTable⟩
theorem ok_laws_toTable : FnOk Try.prog fn_laws_toTable := evF_ok mixed (allOk_cons ok_laws_toGroupS allOk_nil) m_laws_toTable (by decide)
def B_spec_MembersOf_1 : TC := (.seq (.seq (.reg none [.p (.mv 6 (.t 5)) .unit,
  .p (.fadr 7 (.t 2) 0) .unit,
  .p (.load 8 (.t 7) 1 false) .unit,
  .p (.lenB 9 (.t 8)) .unit,
  .p (.bin 10 false .lss (.t 6) (.t 9)) .unit])
 (.cond (.t 10) .skip (.exit 0)))
 (.seq (.block 1 (.seq (.reg none [.p (.fadr 13 (.t 2) 0) .unit,
  .p (.load 14 (.t 13) 1 false) .unit,
  .p (.mv 15 (.t 5)) .unit,
  .p (.iadr 16 2 (.t 14) (.t 15)) .unit,
  .p (.fadr 17 (.t 16) 0) .unit,
  .p (.load 18 (.t 17) 1 false) .unit,
  .p (.mv 19 (.t 1)) .unit,
  .p (.bin 20 false .eql (.t 18) (.t 19)) .unit])
 (.cond (.t 20) (.seq (.reg none [.p (.bldS 21 0 [(.lit (.string (ba [])))] []) .str,
  .p (.fadr 22 (.t 2) 0) .unit,
  .p (.load 23 (.t 22) 1 false) .unit,
  .p (.mv 24 (.t 5)) .unit,
  .p (.iadr 25 2 (.t 23) (.t 24)) .unit,
  .p (.fadr 26 (.t 25) 1) .unit,
  .p (.load 27 (.t 26) 1 false) .unit,
  .p (.app 28 1 16 (.t 21) (.t 27)) .str,
  .p (.mvT 4 28) .unit])
 .ret) .skip)))
 (.reg none [.p (.mv 11 (.t 5)) .unit,
  .p (.bin 12 false .add (.t 11) (.c (.int .i64 1))) .unit,
  .p (.mv 5 (.t 12)) .unit])))
noncomputable def L_spec_MembersOf_1 : Nat → (List UInt8) × (List (List UInt8 × List (List UInt8))) × Int → Option ((Unit) ⊕ (List (List UInt8))) := evL [] (finT [.t 4] [] [.cell (.sl true .str)]) 0 ⟨[(1, true), (2, false), (5, false)], [.cell .str, .box (.sl false (.pair .str (.sl false .str))), .cell (.int .i64)]⟩ ⟨[], []⟩ B_spec_MembersOf_1
def F_spec_MembersOf : TF := ⟨(.seq (.reg none [.p (.box 2 (.t 0)) .unit,
  .p (.mvN 4 1) .unit])
 (.seq (.seq (.reg none [.p (.mv 5 (.c (.int .i64 0))) .unit])
 (.jl 0 ⟨[(1, true), (2, false), (5, false)], [.cell .str, .box (.sl false (.pair .str (.sl false .str))), .cell (.int .i64)]⟩ ⟨[], []⟩ B_spec_MembersOf_1))
 (.seq (.reg none [.p (.bldS 29 0 [(.lit (.string (ba [])))] []) .str,
  .p (.mvT 4 29) .unit])
 .ret))),
 30, 2, [.t 4]⟩
theorem m_spec_MembersOf : mH Try.prog 42 [(5, 8, .t), (6, 1, .t)] = some (F_spec_MembersOf.code.x, F_spec_MembersOf.N, F_spec_MembersOf.np, F_spec_MembersOf.res) := by kernel_rfl
noncomputable def T_spec_MembersOf : (List (List UInt8 × List (List UInt8))) × List UInt8 → Option (List (List UInt8)) := evF [] F_spec_MembersOf [.agg (.sl false (.pair .str (.sl false .str))), .cell .str] [] [.cell (.sl true .str)] []
noncomputable def fn_spec_MembersOf : TFn := ⟨42, [.agg (.sl false (.pair .str (.sl false .str))), .cell .str], [], [.cell (.sl true .str)], [], T_spec_MembersOf⟩
theorem ok_spec_MembersOf : FnOk Try.prog fn_spec_MembersOf := evF_ok mixed allOk_nil m_spec_MembersOf (by decide)
def F_slices_Clone___string_string_ : TF := ⟨(.seq (.reg none [.p (.mvN 2 1) .unit])
 (.seq (.seq (.nq [.p (.mv 3 (.t 0)) .unit] 4 false (.t 3))
 (.cond (.t 4) (.seq (.reg none [.p (.mvN 2 1) .unit])
 .ret) .skip))
 (.seq (.reg none [.p (.bldS 5 0 [(.lit (.string (ba [])))] []) .str,
  .p (.mv 6 (.t 0)) .unit,
  .p (.app 7 1 16 (.t 5) (.t 6)) .str,
  .p (.mvT 2 7) .unit])
 .ret))),
 8, 1, [.t 2]⟩
theorem m_slices_Clone___string_string_ : mH Try.prog 101 [(3, 3, .t)] = some (F_slices_Clone___string_string_.code.x, F_slices_Clone___string_string_.N, F_slices_Clone___string_string_.np, F_slices_Clone___string_string_.res) := by kernel_rfl
noncomputable def T_slices_Clone___string_string_ : List (List UInt8) → Option (List (List UInt8)) := evF [] F_slices_Clone___string_string_ [.cell (.sl false .str)] [] [.cell (.sl true .str)] []
noncomputable def fn_slices_Clone___string_string_ : TFn := ⟨101, [.cell (.sl false .str)], [], [.cell (.sl true .str)], [], T_slices_Clone___string_string_⟩
theorem ok_slices_Clone___string_string_ : FnOk Try.prog fn_slices_Clone___string_string_ := evF_ok mixed allOk_nil m_slices_Clone___string_string_ (by decide)
def B_impl_MembersOf_1 : TC := (.seq (.reg none [.p (.bin 11 false .lss (.t 10) (.t 9)) .unit])
 (.seq (.cond (.t 11) .skip (.exit 0))
 (.seq (.block 1 (.seq (.reg none [.p (.iadr 12 2 (.t 8) (.t 10)) .unit,
  .p (.load 13 (.t 12) 2 true) .unit,
  .p (.alloc 6 [(.lit (.string (ba []))), (.sl true 1 [])]) .unit,
  .p (.store (.t 6) (.t 13) 2) .unit])
 (.seq (.reg none [.p (.fadr 14 (.t 6) 0) .unit,
  .p (.load 15 (.t 14) 1 false) .unit,
  .p (.mv 16 (.t 1)) .unit,
  .p (.bin 17 false .eql (.t 15) (.t 16)) .unit])
 (.cond (.t 17) (.seq (.reg none [.p (.fadr 18 (.t 6) 1) .unit,
  .p (.load 19 (.t 18) 1 false) .unit,
  .p (.callB 20 n_slices_Clone___string_string_ [((.t 19), 0)]) .unit,
  .p (.mvT 4 20) .unit])
 .ret) .skip))))
 (.reg none [.p (.bin 21 false .add (.t 10) (.c (.int .i64 1))) .unit,
  .p (.mv 10 (.t 21)) .unit]))))
noncomputable def L_impl_MembersOf_1 : Nat → (List UInt8) × (List (List UInt8 × List (List UInt8))) × (Int) × Int → Option ((Unit) ⊕ (List (List UInt8))) := evL [fn_slices_Clone___string_string_] (finT [.t 4] [] [.cell (.sl true .str)]) 0 ⟨[(1, true), (8, false), (9, false), (10, false)], [.cell .str, .cell (.sl false (.pair .str (.sl false .str))), .cell (.int .i64), .cell (.int .i64)]⟩ ⟨[], []⟩ B_impl_MembersOf_1
def F_impl_MembersOf : TF := ⟨(.seq (.reg none [.p (.box 2 (.t 0)) .unit,
  .p (.mvN 4 1) .unit])
 (.seq (.seq (.reg none [.p (.fadr 7 (.t 2) 0) .unit,
  .p (.load 8 (.t 7) 1 false) .unit,
  .p (.lenB 9 (.t 8)) .unit,
  .p (.mv 10 (.c (.int .i64 0))) .unit])
 (.jl 0 ⟨[(1, true), (8, false), (9, false), (10, false)], [.cell .str, .cell (.sl false (.pair .str (.sl false .str))), .cell (.int .i64), .cell (.int .i64)]⟩ ⟨[], []⟩ B_impl_MembersOf_1))
 (.seq (.reg none [.p (.mvN 4 1) .unit])
 .ret))),
 22, 2, [.t 4]⟩
theorem m_impl_MembersOf : mH Try.prog 44 [(5, 3, .t)] = some (F_impl_MembersOf.code.x, F_impl_MembersOf.N, F_impl_MembersOf.np, F_impl_MembersOf.res) := by kernel_rfl
noncomputable def T_impl_MembersOf : (List (List UInt8 × List (List UInt8))) × List UInt8 → Option (List (List UInt8)) := evF [fn_slices_Clone___string_string_] F_impl_MembersOf [.agg (.sl false (.pair .str (.sl false .str))), .cell .str] [] [.cell (.sl true .str)] []
noncomputable def fn_impl_MembersOf : TFn := ⟨44, [.agg (.sl false (.pair .str (.sl false .str))), .cell .str], [], [.cell (.sl true .str)], [], T_impl_MembersOf⟩
theorem ok_impl_MembersOf : FnOk Try.prog fn_impl_MembersOf := evF_ok mixed (allOk_cons ok_slices_Clone___string_string_ allOk_nil) m_impl_MembersOf (by decide)
def B_laws_eqStringS_1 : TC := (.seq (.seq (.reg none [.p (.mv 11 (.t 5)) .unit,
  .p (.mv 12 (.t 0)) .unit,
  .p (.lenB 13 (.t 12)) .unit,
  .p (.bin 14 false .lss (.t 11) (.t 13)) .unit])
 (.cond (.t 14) .skip (.exit 0)))
 (.seq (.block 1 (.seq (.reg (some [[], [], [0, 1], [2], [], [], [4, 5], [6], [3, 7]]) [.p (.mv 17 (.t 0)) .unit,
  .p (.mv 18 (.t 5)) .unit,
  .p (.iadr 19 1 (.t 17) (.t 18)) .unit,
  .p (.load 20 (.t 19) 1 false) .unit,
  .p (.mv 21 (.t 1)) .unit,
  .p (.mv 22 (.t 5)) .unit,
  .p (.iadr 23 1 (.t 21) (.t 22)) .unit,
  .p (.load 24 (.t 23) 1 false) .unit,
  .p (.bin 25 false .neq (.t 20) (.t 24)) .unit])
 (.cond (.t 25) (.seq (.reg none [.p (.mv 4 (.c (.bool false))) .unit])
 .ret) .skip)))
 (.reg none [.p (.mv 15 (.t 5)) .unit,
  .p (.bin 16 false .add (.t 15) (.c (.int .i64 1))) .unit,
  .p (.mv 5 (.t 16)) .unit])))
noncomputable def L_laws_eqStringS_1 : Nat → (List (List UInt8)) × (List (List UInt8)) × Int → Option ((Unit) ⊕ (Bool)) := evL [] (finT [.t 4] [] [.cell .bool]) 0 ⟨[(0, true), (1, true), (5, false)], [.cell (.sl false .str), .cell (.sl false .str), .cell (.int .i64)]⟩ ⟨[], []⟩ B_laws_eqStringS_1
def F_laws_eqStringS : TF := ⟨(.seq (.reg none [.p (.mv 4 (.c (.bool false))) .unit])
 (.seq (.seq (.reg none [.p (.mv 6 (.t 0)) .unit,
  .p (.lenB 7 (.t 6)) .unit,
  .p (.mv 8 (.t 1)) .unit,
  .p (.lenB 9 (.t 8)) .unit,
  .p (.bin 10 false .neq (.t 7) (.t 9)) .unit])
 (.cond (.t 10) (.seq (.reg none [.p (.mv 4 (.c (.bool false))) .unit])
 .ret) .skip))
 (.seq (.seq (.reg none [.p (.mv 5 (.c (.int .i64 0))) .unit])
 (.jl 0 ⟨[(0, true), (1, true), (5, false)], [.cell (.sl false .str), .cell (.sl false .str), .cell (.int .i64)]⟩ ⟨[], []⟩ B_laws_eqStringS_1))
 (.seq (.reg none [.p (.mv 4 (.c (.bool true))) .unit])
 .ret)))),
 26, 2, [.t 4]⟩
theorem m_laws_eqStringS : mH Try.prog 45 [] = some (F_laws_eqStringS.code.x, F_laws_eqStringS.N, F_laws_eqStringS.np, F_laws_eqStringS.res) := by kernel_rfl
noncomputable def T_laws_eqStringS : (List (List UInt8)) × List (List UInt8) → Option (Bool) := evF [] F_laws_eqStringS [.cell (.sl false .str), .cell (.sl false .str)] [] [.cell .bool] []
noncomputable def fn_laws_eqStringS : TFn := ⟨45, [.cell (.sl false .str), .cell (.sl false .str)], [], [.cell .bool], [], T_laws_eqStringS⟩
theorem ok_laws_eqStringS : FnOk Try.prog fn_laws_eqStringS := evF_ok mixed allOk_nil m_laws_eqStringS (by decide)
def F_laws_eqGroup : TF := ⟨(.seq (.reg none [.p (.box 2 (.t 0)) .unit,
  .p (.box 3 (.t 1)) .unit,
  .p (.mv 4 (.c (.bool false))) .unit])
 (.seq (.seq (.reg none [.p (.fadr 5 (.t 2) 0) .unit,
  .p (.load 6 (.t 5) 1 false) .unit,
  .p (.fadr 7 (.t 3) 0) .unit,
  .p (.load 8 (.t 7) 1 false) .unit,
  .p (.bin 9 false .neq (.t 6) (.t 8)) .unit])
 (.cond (.t 9) (.seq (.reg none [.p (.mv 4 (.c (.bool false))) .unit])
 .ret) .skip))
 (.seq (.seq (.reg none [.p (.fadr 10 (.t 2) 1) .unit,
  .p (.load 11 (.t 10) 1 false) .unit,
  .p (.fadr 12 (.t 3) 1) .unit,
  .p (.load 13 (.t 12) 1 false) .unit,
  .p (.callB 14 n_laws_eqStringS [((.t 11), 0), ((.t 13), 0)]) .unit,
  .p (.un 15 .not (.t 14)) .unit])
 (.cond (.t 15) (.seq (.reg none [.p (.mv 4 (.c (.bool false))) .unit])
 .ret) .skip))
 (.seq (.reg none [.p (.mv 4 (.c (.bool true))) .unit])
 .ret)))),
 16, 2, [.t 4]⟩
theorem m_laws_eqGroup : mH Try.prog 129 [] = some (F_laws_eqGroup.code.x, F_laws_eqGroup.N, F_laws_eqGroup.np, F_laws_eqGroup.res) := by kernel_rfl
noncomputable def T_laws_eqGroup : (List UInt8 × List (List UInt8)) × List UInt8 × List (List UInt8) → Option (Bool) := evF [fn_laws_eqStringS] F_laws_eqGroup [.agg (.pair .str (.sl false .str)), .agg (.pair .str (.sl false .str))] [] [.cell .bool] []
noncomputable def fn_laws_eqGroup : TFn := ⟨129, [.agg (.pair .str (.sl false .str)), .agg (.pair .str (.sl false .str))], [], [.cell .bool], [], T_laws_eqGroup⟩
theorem ok_laws_eqGroup : FnOk Try.prog fn_laws_eqGroup := evF_ok mixed (allOk_cons ok_laws_eqStringS allOk_nil) m_laws_eqGroup (by decide)
def B_laws_eqGroupS_1 : TC := (.seq (.seq (.reg none [.p (.mv 11 (.t 5)) .unit,
  .p (.mv 12 (.t 0)) .unit,
  .p (.lenB 13 (.t 12)) .unit,
  .p (.bin 14 false .lss (.t 11) (.t 13)) .unit])
 (.cond (.t 14) .skip (.exit 0)))
 (.seq (.block 1 (.seq (.reg (some [[], [], [0, 1], [2], [], [], [4, 5], [6], [3, 7], [8]]) [.p (.mv 17 (.t 0)) .unit,
  .p (.mv 18 (.t 5)) .unit,
  .p (.iadr 19 2 (.t 17) (.t 18)) .unit,
  .p (.load 20 (.t 19) 2 true) .unit,
  .p (.mv 21 (.t 1)) .unit,
  .p (.mv 22 (.t 5)) .unit,
  .p (.iadr 23 2 (.t 21) (.t 22)) .unit,
  .p (.load 24 (.t 23) 2 true) .unit,
  .p (.callB 25 n_laws_eqGroup [((.t 20), 0), ((.t 24), 0)]) .unit,
  .p (.un 26 .not (.t 25)) .unit])
 (.cond (.t 26) (.seq (.reg none [.p (.mv 4 (.c (.bool false))) .unit])
 .ret) .skip)))
 (.reg none [.p (.mv 15 (.t 5)) .unit,
  .p (.bin 16 false .add (.t 15) (.c (.int .i64 1))) .unit,
  .p (.mv 5 (.t 16)) .unit])))
noncomputable def L_laws_eqGroupS_1 : Nat → (List (List UInt8 × List (List UInt8))) × (List (List UInt8 × List (List UInt8))) × Int → Option ((Unit) ⊕ (Bool)) := evL [fn_laws_eqGroup] (finT [.t 4] [] [.cell .bool]) 0 ⟨[(0, true), (1, true), (5, false)], [.cell (.sl false (.pair .str (.sl false .str))), .cell (.sl false (.pair .str (.sl false .str))), .cell (.int .i64)]⟩ ⟨[], []⟩ B_laws_eqGroupS_1
def F_laws_eqGroupS : TF := ⟨(.seq (.reg none [.p (.mv 4 (.c (.bool false))) .unit])
 (.seq (.seq (.reg none [.p (.mv 6 (.t 0)) .unit,
  .p (.lenB 7 (.t 6)) .unit,
  .p (.mv 8 (.t 1)) .unit,
  .p (.lenB 9 (.t 8)) .unit,
  .p (.bin 10 false .neq (.t 7) (.t 9)) .unit])
 (.cond (.t 10) (.seq (.reg none [.p (.mv 4 (.c (.bool false))) .unit])
 .ret) .skip))
 (.seq (.seq (.reg none [.p (.mv 5 (.c (.int .i64 0))) .unit])
 (.jl 0 ⟨[(0, true), (1, true), (5, false)], [.cell (.sl false (.pair .str (.sl false .str))), .cell (.sl false (.pair .str (.sl false .str))), .cell (.int .i64)]⟩ ⟨[], []⟩ B_laws_eqGroupS_1))
 (.seq (.reg none [.p (.mv 4 (.c (.bool true))) .unit])
 .ret)))),
 27, 2, [.t 4]⟩
theorem m_laws_eqGroupS : mH Try.prog 102 [] = some (F_laws_eqGroupS.code.x, F_laws_eqGroupS.N, F_laws_eqGroupS.np, F_laws_eqGroupS.res) := by kernel_rfl
noncomputable def T_laws_eqGroupS : (List (List UInt8 × List (List UInt8))) × List (List UInt8 × List (List UInt8)) → Option (Bool) := evF [fn_laws_eqGroup] F_laws_eqGroupS [.cell (.sl false (.pair .str (.sl false .str))), .cell (.sl false (.pair .str (.sl false .str)))] [] [.cell .bool] []
noncomputable def fn_laws_eqGroupS : TFn := ⟨102, [.cell (.sl false (.pair .str (.sl false .str))), .cell (.sl false (.pair .str (.sl false .str)))], [], [.cell .bool], [], T_laws_eqGroupS⟩
theorem ok_laws_eqGroupS : FnOk Try.prog fn_laws_eqGroupS := evF_ok mixed (allOk_cons ok_laws_eqGroup allOk_nil) m_laws_eqGroupS (by decide)
def F_laws_eqTable : TF := ⟨(.seq (.reg none [.p (.box 2 (.t 0)) .unit,
  .p (.box 3 (.t 1)) .unit,
  .p (.mv 4 (.c (.bool false))) .unit])
 (.seq (.seq (.reg none [.p (.fadr 5 (.t 2) 0) .unit,
  .p (.load 6 (.t 5) 1 false) .unit,
  .p (.fadr 7 (.t 3) 0) .unit,
  .p (.load 8 (.t 7) 1 false) .unit,
  .p (.callB 9 n_laws_eqGroupS [((.t 6), 0), ((.t 8), 0)]) .unit,
  .p (.un 10 .not (.t 9)) .unit])
 (.cond (.t 10) (.seq (.reg none [.p (.mv 4 (.c (.bool false))) .unit])
 .ret) .skip))
 (.seq (.reg none [.p (.mv 4 (.c (.bool true))) .unit])
 .ret))),
 11, 2, [.t 4]⟩
theorem m_laws_eqTable : mH Try.prog 46 [] = some (F_laws_eqTable.code.x, F_laws_eqTable.N, F_laws_eqTable.np, F_laws_eqTable.res) := by kernel_rfl
noncomputable def T_laws_eqTable : (List (List UInt8 × List (List UInt8))) × List (List UInt8 × List (List UInt8)) → Option (Bool) := evF [fn_laws_eqGroupS] F_laws_eqTable [.agg (.sl false (.pair .str (.sl false .str))), .agg (.sl false (.pair .str (.sl false .str)))] [] [.cell .bool] []
noncomputable def fn_laws_eqTable : TFn := ⟨46, [.agg (.sl false (.pair .str (.sl false .str))), .agg (.sl false (.pair .str (.sl false .str)))], [], [.cell .bool], [], T_laws_eqTable⟩
theorem ok_laws_eqTable : FnOk Try.prog fn_laws_eqTable := evF_ok mixed (allOk_cons ok_laws_eqGroupS allOk_nil) m_laws_eqTable (by decide)
def B_laws_markText_1 : TC := (.seq (.seq (.reg none [.p (.mv 6 (.t 0)) .unit,
  .p (.bin 7 false .gtr (.t 6) (.c (.int .i64 0))) .unit])
 (.cond (.t 7) .skip (.exit 0)))
 (.block 1 (.seq (.reg none [.p (.mv 8 (.t 0)) .unit,
  .p (.bin 9 false .rem (.t 8) (.c (.int .i64 10))) .unit,
  .p (.bin 10 false .add (.c (.int .i64 48)) (.t 9)) .unit,
  .p (.cvi 11 .u8 .i64 (.t 10)) .unit,
  .p (.bldS 12 1 [(.lit (.int .u8 0))] [⟨0, 1, (.t 11)⟩]) (.int .u8),
  .p (.b2s 13 (.t 12)) .unit,
  .p (.mv 14 (.t 3)) .unit,
  .p (.bin 15 false .add (.t 13) (.t 14)) .unit,
  .p (.mv 3 (.t 15)) .unit])
 (.reg none [.p (.mv 16 (.t 0)) .unit,
  .p (.bin 17 false .quo (.t 16) (.c (.int .i64 10))) .unit,
  .p (.mv 0 (.t 17)) .unit]))))
noncomputable def L_laws_markText_1 : Nat → (Int) × List UInt8 → Option ((List UInt8) ⊕ (List UInt8)) := evL [] (finT [.t 2] [] [.cell .str]) 0 ⟨[(0, false), (3, false)], [.cell (.int .i64), .cell .str]⟩ ⟨[(3, false)], [.cell .str]⟩ B_laws_markText_1
def F_laws_markText : TF := ⟨(.seq (.reg none [.p (.mv 2 (.c (.string (ba [])))) .unit])
 (.seq (.seq (.reg none [.p (.mv 4 (.t 0)) .unit,
  .p (.bin 5 false .leq (.t 4) (.c (.int .i64 0))) .unit])
 (.cond (.t 5) (.seq (.reg none [.p (.mv 2 (.c (.string (ba [109, 48])))) .unit])
 .ret) .skip))
 (.seq (.reg none [.p (.mv 3 (.c (.string (ba [])))) .unit])
 (.seq (.jl 0 ⟨[(0, false), (3, false)], [.cell (.int .i64), .cell .str]⟩ ⟨[(3, false)], [.cell .str]⟩ B_laws_markText_1)
 (.seq (.reg none [.p (.mv 18 (.t 3)) .unit,
  .p (.bin 19 false .add (.c (.string (ba [109]))) (.t 18)) .unit,
  .p (.mv 2 (.t 19)) .unit])
 .ret))))),
 20, 1, [.t 2]⟩
theorem m_laws_markText : mH Try.prog 104 [] = some (F_laws_markText.code.x, F_laws_markText.N, F_laws_markText.np, F_laws_markText.res) := by kernel_rfl
noncomputable def T_laws_markText : Int → Option (List UInt8) := evF [] F_laws_markText [.cell (.int .i64)] [] [.cell .str] []
noncomputable def fn_laws_markText : TFn := ⟨104, [.cell (.int .i64)], [], [.cell .str], [], T_laws_markText⟩
theorem ok_laws_markText : FnOk Try.prog fn_laws_markText := evF_ok mixed allOk_nil m_laws_markText (by decide)
def B_laws_markStringS_1 : TC := (.seq (.seq (.reg none [.p (.mv 6 (.t 5)) .unit,
  .p (.mvA 7 0) .unit,
  .p (.lenB 8 (.t 7)) .unit,
  .p (.bin 9 false .lss (.t 6) (.t 8)) .unit])
 (.cond (.t 9) .skip (.exit 0)))
 (.seq (.block 1 (.seq (.reg none [.p (.mvA 12 0) .unit,
  .p (.mv 13 (.t 5)) .unit,
  .p (.mv 14 (.t 1)) .unit,
  .p (.callB 15 n_laws_markText [((.t 14), 0)]) .unit,
  .p (.iadr 16 1 (.t 12) (.t 13)) .unit,
  .p (.store (.t 16) (.t 15) 1) .unit])
 (.reg none [.p (.mv 17 (.t 1)) .unit,
  .p (.bin 18 false .add (.t 17) (.c (.int .i64 1))) .unit,
  .p (.mv 1 (.t 18)) .unit])))
 (.reg none [.p (.mv 10 (.t 5)) .unit,
  .p (.bin 11 false .add (.t 10) (.c (.int .i64 1))) .unit,
  .p (.mv 5 (.t 11)) .unit])))
noncomputable def L_laws_markStringS_1 : Nat → (List (List UInt8)) × (Int) × Int → Option (((List (List UInt8)) × Int) ⊕ ((Int) × List (List UInt8))) := evL [fn_laws_markText] (finT [.t 4] [0] [.cell (.int .i64), .cell (.sl true .str)]) 0 ⟨[(0, true), (1, false), (5, false)], [.cell (.sl true .str), .cell (.int .i64), .cell (.int .i64)]⟩ ⟨[(0, true), (1, false)], [.cell (.sl true .str), .cell (.int .i64)]⟩ B_laws_markStringS_1
def F_laws_markStringS : TF := ⟨(.seq (.reg none [.p (.mv 4 (.c (.int .i64 0))) .unit])
 (.seq (.seq (.reg none [.p (.mv 5 (.c (.int .i64 0))) .unit])
 (.jl 0 ⟨[(0, true), (1, false), (5, false)], [.cell (.sl true .str), .cell (.int .i64), .cell (.int .i64)]⟩ ⟨[(0, true), (1, false)], [.cell (.sl true .str), .cell (.int .i64)]⟩ B_laws_markStringS_1))
 (.seq (.reg none [.p (.mv 19 (.t 1)) .unit,
  .p (.mv 4 (.t 19)) .unit])
 .ret))),
 20, 2, [.t 4]⟩
theorem m_laws_markStringS : mH Try.prog 48 [(2, 1, .v), (4, 0, .v)] = some (F_laws_markStringS.code.x, F_laws_markStringS.N, F_laws_markStringS.np, F_laws_markStringS.res) := by kernel_rfl
noncomputable def T_laws_markStringS : (List (List UInt8)) × Int → Option ((Int) × List (List UInt8)) := evF [fn_laws_markText] F_laws_markStringS [.cell (.sl true .str), .cell (.int .i64)] [0] [.cell (.int .i64)] [.cell (.sl true .str)]
noncomputable def fn_laws_markStringS : TFn := ⟨48, [.cell (.sl true .str), .cell (.int .i64)], [0], [.cell (.int .i64)], [.cell (.sl true .str)], T_laws_markStringS⟩
theorem ok_laws_markStringS : FnOk Try.prog fn_laws_markStringS := evF_ok mixed (allOk_cons ok_laws_markText allOk_nil) m_laws_markStringS (by decide)
def B_laws_markGroupS_1 : TC := (.seq (.seq (.reg none [.p (.mv 6 (.t 5)) .unit,
  .p (.mvA 7 0) .unit,
  .p (.lenB 8 (.t 7)) .unit,
  .p (.bin 9 false .lss (.t 6) (.t 8)) .unit])
 (.cond (.t 9) .skip (.exit 0)))
 (.seq (.block 1 (.seq (.reg none [.p (.mvA 12 0) .unit,
  .p (.mv 13 (.t 5)) .unit,
  .p (.mv 14 (.t 1)) .unit,
  .p (.callB 15 n_laws_markText [((.t 14), 0)]) .unit,
  .p (.iadr 16 2 (.t 12) (.t 13)) .unit,
  .p (.fadr 17 (.t 16) 0) .unit,
  .p (.store (.t 17) (.t 15) 1) .unit])
 (.seq (.reg none [.p (.mv 18 (.t 1)) .unit,
  .p (.bin 19 false .add (.t 18) (.c (.int .i64 1))) .unit,
  .p (.mv 1 (.t 19)) .unit])
 (.reg none [.p (.mvA 20 0) .unit,
  .p (.mv 21 (.t 5)) .unit,
  .p (.iadr 22 2 (.t 20) (.t 21)) .unit,
  .p (.fadr 23 (.t 22) 1) .unit,
  .p (.load 24 (.t 23) 1 false) .unit,
  .p (.mv 25 (.t 1)) .unit,
  .p (.callM 26 n_laws_markStringS [] (.agg (.t 24) 0) [((.t 25), 0)]) .unit,
  .p (.mv 1 (.t 26)) .unit]))))
 (.reg none [.p (.mv 10 (.t 5)) .unit,
  .p (.bin 11 false .add (.t 10) (.c (.int .i64 1))) .unit,
  .p (.mv 5 (.t 11)) .unit])))
noncomputable def L_laws_markGroupS_1 : Nat → (List (List UInt8 × List (List UInt8))) × (Int) × Int → Option (((List (List UInt8 × List (List UInt8))) × Int) ⊕ ((Int) × List (List UInt8 × List (List UInt8)))) := evL [fn_laws_markText, fn_laws_markStringS] (finT [.t 4] [0] [.cell (.int .i64), .cell (.sl true (.pair .str (.sl true .str)))]) 0 ⟨[(0, true), (1, false), (5, false)], [.cell (.sl true (.pair .str (.sl true .str))), .cell (.int .i64), .cell (.int .i64)]⟩ ⟨[(0, true), (1, false)], [.cell (.sl true (.pair .str (.sl true .str))), .cell (.int .i64)]⟩ B_laws_markGroupS_1
def F_laws_markGroupS : TF := ⟨(.seq (.reg none [.p (.mv 4 (.c (.int .i64 0))) .unit])
 (.seq (.seq (.reg none [.p (.mv 5 (.c (.int .i64 0))) .unit])
 (.jl 0 ⟨[(0, true), (1, false), (5, false)], [.cell (.sl true (.pair .str (.sl true .str))), .cell (.int .i64), .cell (.int .i64)]⟩ ⟨[(0, true), (1, false)], [.cell (.sl true (.pair .str (.sl true .str))), .cell (.int .i64)]⟩ B_laws_markGroupS_1))
 (.seq (.reg none [.p (.mv 27 (.t 1)) .unit,
  .p (.mv 4 (.t 27)) .unit])
 .ret))),
 28, 2, [.t 4]⟩
theorem m_laws_markGroupS : mH Try.prog 103 [(2, 1, .v), (4, 0, .v), (6, 0, .v), (6, 6, (.g 0 0))] = some (F_laws_markGroupS.code.x, F_laws_markGroupS.N, F_laws_markGroupS.np, F_laws_markGroupS.res) := by kernel_rfl
noncomputable def T_laws_markGroupS : (List (List UInt8 × List (List UInt8))) × Int → Option ((Int) × List (List UInt8 × List (List UInt8))) := evF [fn_laws_markText, fn_laws_markStringS] F_laws_markGroupS [.cell (.sl true (.pair .str (.sl true .str))), .cell (.int .i64)] [0] [.cell (.int .i64)] [.cell (.sl true (.pair .str (.sl true .str)))]
noncomputable def fn_laws_markGroupS : TFn := ⟨103, [.cell (.sl true (.pair .str (.sl true .str))), .cell (.int .i64)], [0], [.cell (.int .i64)], [.cell (.sl true (.pair .str (.sl true .str)))], T_laws_markGroupS⟩
theorem ok_laws_markGroupS : FnOk Try.prog fn_laws_markGroupS := evF_ok mixed (allOk_cons ok_laws_markText (allOk_cons ok_laws_markStringS allOk_nil)) m_laws_markGroupS (by decide)
def F_laws_markTable : TF := ⟨(.seq (.reg none [.p (.boxL 2 0) .unit,
  .p (.mv 4 (.c (.int .i64 0))) .unit])
 (.seq (.reg none [.p (.fadr 5 (.t 2) 0) .unit,
  .p (.load 6 (.t 5) 1 false) .unit,
  .p (.mv 7 (.t 1)) .unit,
  .p (.callM 8 n_laws_markGroupS [] (.aggS (.t 6) 2 0) [((.t 7), 0)]) .unit,
  .p (.mv 1 (.t 8)) .unit])
 (.seq (.reg none [.p (.mv 9 (.t 1)) .unit,
  .p (.mv 4 (.t 9)) .unit])
 .ret))),
 10, 2, [.t 4]⟩
theorem m_laws_markTable : mH Try.prog 47 [(0, 0, .v), (1, 3, (.gs 0 2 0))] = some (F_laws_markTable.code.x, F_laws_markTable.N, F_laws_markTable.np, F_laws_markTable.res) := by kernel_rfl
noncomputable def T_laws_markTable : (List (List UInt8 × List (List UInt8))) × Int → Option ((Int) × List (List UInt8 × List (List UInt8))) := evF [fn_laws_markGroupS] F_laws_markTable [.agg (.sl true (.pair .str (.sl true .str))), .cell (.int .i64)] [0] [.cell (.int .i64)] [.agg (.sl true (.pair .str (.sl true .str)))]
noncomputable def fn_laws_markTable : TFn := ⟨47, [.agg (.sl true (.pair .str (.sl true .str))), .cell (.int .i64)], [0], [.cell (.int .i64)], [.agg (.sl true (.pair .str (.sl true .str)))], T_laws_markTable⟩
theorem ok_laws_markTable : FnOk Try.prog fn_laws_markTable := evF_ok mixed (allOk_cons ok_laws_markGroupS allOk_nil) m_laws_markTable (by decide)
def B_laws_heldStringS_1 : TC := (.seq (.seq (.reg none [.p (.mv 6 (.t 5)) .unit,
  .p (.mv 7 (.t 0)) .unit,
  .p (.lenB 8 (.t 7)) .unit,
  .p (.bin 9 false .lss (.t 6) (.t 8)) .unit])
 (.cond (.t 9) .skip (.exit 0)))
 (.seq (.block 1 (.seq (.seq (.reg (some [[], [], [0, 1], [2], [], [4], [3, 5]]) [.p (.mv 12 (.t 0)) .unit,
  .p (.mv 13 (.t 5)) .unit,
  .p (.iadr 14 1 (.t 12) (.t 13)) .unit,
  .p (.load 15 (.t 14) 1 false) .unit,
  .p (.mv 16 (.t 1)) .unit,
  .p (.callB 17 n_laws_markText [((.t 16), 0)]) .unit,
  .p (.bin 18 false .neq (.t 15) (.t 17)) .unit])
 (.cond (.t 18) (.seq (.reg none [.p (.mv 4 (.c (.int .i64 (-1)))) .unit])
 .ret) .skip))
 (.reg none [.p (.mv 19 (.t 1)) .unit,
  .p (.bin 20 false .add (.t 19) (.c (.int .i64 1))) .unit,
  .p (.mv 1 (.t 20)) .unit])))
 (.reg none [.p (.mv 10 (.t 5)) .unit,
  .p (.bin 11 false .add (.t 10) (.c (.int .i64 1))) .unit,
  .p (.mv 5 (.t 11)) .unit])))
noncomputable def L_laws_heldStringS_1 : Nat → (List (List UInt8)) × (Int) × Int → Option ((Int) ⊕ (Int)) := evL [fn_laws_markText] (finT [.t 4] [] [.cell (.int .i64)]) 0 ⟨[(0, true), (1, false), (5, false)], [.cell (.sl false .str), .cell (.int .i64), .cell (.int .i64)]⟩ ⟨[(1, false)], [.cell (.int .i64)]⟩ B_laws_heldStringS_1
def F_laws_heldStringS : TF := ⟨(.seq (.reg none [.p (.mv 4 (.c (.int .i64 0))) .unit])
 (.seq (.seq (.reg none [.p (.mv 5 (.c (.int .i64 0))) .unit])
 (.jl 0 ⟨[(0, true), (1, false), (5, false)], [.cell (.sl false .str), .cell (.int .i64), .cell (.int .i64)]⟩ ⟨[(1, false)], [.cell (.int .i64)]⟩ B_laws_heldStringS_1))
 (.seq (.reg none [.p (.mv 21 (.t 1)) .unit,
  .p (.mv 4 (.t 21)) .unit])
 .ret))),
 22, 2, [.t 4]⟩
theorem m_laws_heldStringS : mH Try.prog 49 [] = some (F_laws_heldStringS.code.x, F_laws_heldStringS.N, F_laws_heldStringS.np, F_laws_heldStringS.res) := by kernel_rfl
noncomputable def T_laws_heldStringS : (List (List UInt8)) × Int → Option (Int) := evF [fn_laws_markText] F_laws_heldStringS [.cell (.sl false .str), .cell (.int .i64)] [] [.cell (.int .i64)] []
noncomputable def fn_laws_heldStringS : TFn := ⟨49, [.cell (.sl false .str), .cell (.int .i64)], [], [.cell (.int .i64)], [], T_laws_heldStringS⟩
theorem ok_laws_heldStringS : FnOk Try.prog fn_laws_heldStringS := evF_ok mixed (allOk_cons ok_laws_markText allOk_nil) m_laws_heldStringS (by decide)
def F_laws_FnExactMembersOf : TF := ⟨(.seq (.reg none [.p (.box 2 (.t 0)) .unit,
  .p (.mv 4 (.c (.bool false))) .unit])
 (.seq (.seq (.reg none [.p (.mv 13 (.t 1)) .unit,
  .p (.lenS 14 (.t 13)) .unit,
  .p (.bin 15 false .gtr (.t 14) (.c (.int .i64 1048576))) .unit])
 (.cond (.t 15) (.seq (.reg none [.p (.mv 4 (.c (.bool true))) .unit])
 .ret) .skip))
 (.seq (.reg none [.p (.mv 5 (.c (.int .i64 1048576))) .unit])
 (.seq (.reg none [.p (.load 16 (.t 2) 1 true) .unit,
  .p (.mv 17 (.t 5)) .unit,
  .p (.callB 18 n_laws_szTable [((.t 16), 0), ((.t 17), 0)]) .unit,
  .p (.mv 5 (.t 18)) .unit])
 (.seq (.seq (.reg none [.p (.mv 19 (.t 5)) .unit,
  .p (.bin 20 false .lss (.t 19) (.c (.int .i64 0))) .unit])
 (.cond (.t 20) (.seq (.reg none [.p (.mv 4 (.c (.bool true))) .unit])
 .ret) .skip))
 (.seq (.reg none [.p (.load 21 (.t 2) 1 true) .unit,
  .p (.callB 22 n_laws_toTable [((.t 21), 0)]) .unit,
  .p (.mv 23 (.t 1)) .unit,
  .p (.callB 24 n_spec_MembersOf [((.t 22), 0), ((.t 23), 0)]) .unit,
  .p (.mvT 6 24) .unit])
 (.seq (.reg none [.p (.load 25 (.t 2) 1 true) .unit,
  .p (.callB 26 n_laws_toTable [((.t 25), 0)]) .unit,
  .p (.alloc 7 [(.sl true 2 [])]) .unit,
  .p (.storeT (.t 7) 26 1) .unit])
 (.seq (.reg none [.p (.load 27 (.t 7) 1 true) .unit,
  .p (.mv 28 (.t 1)) .unit,
  .p (.callB 29 n_impl_MembersOf [((.t 27), 0), ((.t 28), 0)]) .unit,
  .p (.mvT 8 29) .unit])
 (.seq (.seq (.reg none [.p (.mvA 30 8) .unit,
  .p (.mvA 31 6) .unit,
  .p (.callB 32 n_laws_eqStringS [((.t 30), 0), ((.t 31), 0)]) .unit,
  .p (.un 33 .not (.t 32)) .unit])
 (.cond (.t 33) (.seq (.reg none [.p (.mv 4 (.c (.bool false))) .unit])
 .ret) .skip))
 (.seq (.seq (.reg (some [[], [], [1], [0, 2, 2], [3]]) [.p (.load 34 (.t 7) 1 true) .unit,
  .p (.load 35 (.t 2) 1 true) .unit,
  .p (.callB 36 n_laws_toTable [((.t 35), 0)]) .unit,
  .p (.callB 37 n_laws_eqTable [((.t 34), 0), ((.t 36), 0)]) .unit,
  .p (.un 38 .not (.t 37)) .unit])
 (.cond (.t 38) (.seq (.reg none [.p (.mv 4 (.c (.bool false))) .unit])
 .ret) .skip))
 (.seq (.reg none [.p (.mv 9 (.c (.int .i64 1))) .unit])
 (.seq (.reg none [.p (.load 39 (.t 7) 1 true) .unit,
  .p (.mv 40 (.t 9)) .unit,
  .p (.callM 41 n_laws_markTable [] (.agg (.t 39) 7) [((.t 40), 0)]) .unit,
  .p (.mv 9 (.t 41)) .unit])
 (.seq (.seq (.join ⟨[(1, true), (2, false), (6, false), (8, false), (49, false)], [.cell .str, .box (.sl false (.pair .str (.sl false .str))), .cell (.sl true .str), .cell (.sl true .str), .cell .bool]⟩ (.reg none [.p (.mv 42 (.t 9)) .unit,
  .p (.bin 43 false .lss (.t 42) (.c (.int .i64 0))) .unit,
  .p (.mv 44 (.t 43)) .unit,
  .g 44 false (some 45) (.mvA 45 8) .unit,
  .g 44 false (some 46) (.mvA 46 6) .unit,
  .g 44 false (some 47) (.callB 47 n_laws_eqStringS [((.t 45), 0), ((.t 46), 0)]) .unit,
  .g 44 false (some 48) (.un 48 .not (.t 47)) .unit,
  .p (.pick 49 (.t 44) (.c (.bool true)) (.t 48)) .unit]))
 (.cond (.t 49) (.seq (.reg none [.p (.mv 4 (.c (.bool false))) .unit])
 .ret) .skip))
 (.seq (.reg none [.p (.mv 10 (.c (.int .i64 1))) .unit])
 (.seq (.reg none [.p (.mvA 50 8) .unit,
  .p (.mv 51 (.t 10)) .unit,
  .p (.callM 52 n_laws_markStringS [] (.ptr (.t 50) 8) [((.t 51), 0)]) .unit,
  .p (.mv 10 (.t 52)) .unit])
 (.seq (.reg none [.p (.mv 11 (.c (.int .i64 1))) .unit])
 (.seq (.reg none [.p (.mvA 53 8) .unit,
  .p (.mv 54 (.t 11)) .unit,
  .p (.callB 55 n_laws_heldStringS [((.t 53), 0), ((.t 54), 0)]) .unit,
  .p (.mv 11 (.t 55)) .unit])
 (.seq (.seq (.reg none [.p (.mv 56 (.t 11)) .unit,
  .p (.bin 57 false .lss (.t 56) (.c (.int .i64 0))) .unit])
 (.cond (.t 57) (.seq (.reg none [.p (.mv 4 (.c (.bool false))) .unit])
 .ret) .skip))
 (.seq (.seq (.reg none [.p (.mv 58 (.t 11)) .unit,
  .p (.mv 59 (.t 10)) .unit,
  .p (.bin 60 false .neq (.t 58) (.t 59)) .unit])
 (.cond (.t 60) (.seq (.reg none [.p (.mv 4 (.c (.bool false))) .unit])
 .ret) .skip))
 (.seq (.reg none [.p (.load 61 (.t 2) 1 true) .unit,
  .p (.callB 62 n_laws_toTable [((.t 61), 0)]) .unit,
  .p (.mv 63 (.t 1)) .unit,
  .p (.callB 64 n_impl_MembersOf [((.t 62), 0), ((.t 63), 0)]) .unit,
  .p (.mvT 12 64) .unit])
 (.seq (.seq (.reg none [.p (.mvT 65 12) .unit,
  .p (.mvT 66 6) .unit,
  .p (.callB 67 n_laws_eqStringS [((.t 65), 0), ((.t 66), 0)]) .unit,
  .p (.un 68 .not (.t 67)) .unit])
 (.cond (.t 68) (.seq (.reg none [.p (.mv 4 (.c (.bool false))) .unit])
 .ret) .skip))
 (.seq (.reg none [.p (.mv 11 (.c (.int .i64 1))) .unit])
 (.seq (.reg none [.p (.mvT 69 8) .unit,
  .p (.mv 70 (.t 11)) .unit,
  .p (.callB 71 n_laws_heldStringS [((.t 69), 0), ((.t 70), 0)]) .unit,
  .p (.mv 11 (.t 71)) .unit])
 (.seq (.seq (.reg none [.p (.mv 72 (.t 11)) .unit,
  .p (.bin 73 false .lss (.t 72) (.c (.int .i64 0))) .unit])
 (.cond (.t 73) (.seq (.reg none [.p (.mv 4 (.c (.bool false))) .unit])
 .ret) .skip))
 (.seq (.seq (.reg none [.p (.mv 74 (.t 11)) .unit,
  .p (.mv 75 (.t 10)) .unit,
  .p (.bin 76 false .neq (.t 74) (.t 75)) .unit])
 (.cond (.t 76) (.seq (.reg none [.p (.mv 4 (.c (.bool false))) .unit])
 .ret) .skip))
 (.seq (.reg none [.p (.mv 4 (.c (.bool true))) .unit])
 .ret)))))))))))))))))))))))))),
 77, 2, [.t 4]⟩
theorem m_laws_FnExactMembersOf : mH Try.prog 9 [(7, 4, .t), (8, 3, .t), (9, 3, .t), (10, 0, .v), (10, 1, .v), (15, 2, (.g 0 7)), (16, 3, .v), (16, 4, .v), (19, 0, .v), (19, 2, (.p 0 8)), (21, 0, .v), (26, 4, .t), (27, 0, .t), (27, 1, .t), (30, 0, .t)] = some (F_laws_FnExactMembersOf.code.x, F_laws_FnExactMembersOf.N, F_laws_FnExactMembersOf.np, F_laws_FnExactMembersOf.res) := by kernel_rfl
noncomputable def T_laws_FnExactMembersOf : (List (List UInt8 × List (List UInt8))) × List UInt8 → Option (Bool) := evF [fn_laws_szTable, fn_laws_toTable, fn_spec_MembersOf, fn_impl_MembersOf, fn_laws_eqStringS, fn_laws_eqTable, fn_laws_markTable, fn_laws_markStringS, fn_laws_heldStringS] F_laws_FnExactMembersOf [.agg (.sl false (.pair .str (.sl false .str))), .cell .str] [] [.cell .bool] []
noncomputable def fn_laws_FnExactMembersOf : TFn := ⟨9, [.agg (.sl false (.pair .str (.sl false .str))), .cell .str], [], [.cell .bool], [], T_laws_FnExactMembersOf⟩
theorem ok_laws_FnExactMembersOf : FnOk Try.prog fn_laws_FnExactMembersOf := evF_ok mixed (allOk_cons ok_laws_szTable (allOk_cons ok_laws_toTable (allOk_cons ok_spec_MembersOf (allOk_cons ok_impl_MembersOf (allOk_cons ok_laws_eqStringS (allOk_cons ok_laws_eqTable (allOk_cons ok_laws_markTable (allOk_cons ok_laws_markStringS (allOk_cons ok_laws_heldStringS allOk_nil))))))))) m_laws_FnExactMembersOf (by decide)

end Xs
end Go.Proofs.Ytfepabohinkpgaa
