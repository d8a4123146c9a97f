/- The typed code of the functions, printed by program. -/
import Derived.Test.YtfepabohinkpgaaT7
import Derived.Test.YtfepabohinkpgaaProg
import Derived.KernelRfl
namespace Go.Proofs.Ytfepabohinkpgaa
open Go Vm
namespace Xs
theorem mixed : Try.prog.follows .mixedOrders = true := by kernel_rfl
abbrev n_laws_FnExactDrop : Nat := 10
abbrev n_laws_szBox : Nat := 19
abbrev n_spec_BoxOk : Nat := 20
abbrev n_laws_toBox : Nat := 21
abbrev n_impl_BoxOk : Nat := 22
abbrev n_laws_eqBox : Nat := 23
abbrev n_impl_Drop : Nat := 26
abbrev n_laws_eqStringS : Nat := 45
abbrev n_laws_markStringS : Nat := 48
abbrev n_laws_heldStringS : Nat := 49
abbrev n_spec_Drop : Nat := 50
abbrev n_laws_markBox : Nat := 51
abbrev n_laws_heldBox : Nat := 52
abbrev n_spec_l01In : Nat := 67
abbrev n_impl_inRange : Nat := 71
abbrev n_laws_szStringS : Nat := 73
abbrev n_spec_NameOk : Nat := 74
abbrev n_laws_toStringS : Nat := 75
abbrev n_impl_NameOk : Nat := 76
abbrev n_impl_areShort : Nat := 77
abbrev n_impl_copyBox : Nat := 81
abbrev n_slices_Clone___string_string_ : Nat := 101
abbrev n_laws_markText : Nat := 104
abbrev n_spec_l18Copy : Nat := 105
def B_laws_szStringS_1 : TC := (.seq (.seq (.reg none [.p (.mv 12 (.t 5)) .unit,
  .p (.mv 13 (.t 0)) .unit,
  .p (.lenB 14 (.t 13)) .unit,
  .p (.bin 15 false .lss (.t 12) (.t 14)) .unit])
 (.cond (.t 15) .skip (.exit 0)))
 (.seq (.block 1 (.seq (.reg none [.p (.mv 18 (.t 1)) .unit,
  .p (.mv 19 (.t 0)) .unit,
  .p (.mv 20 (.t 5)) .unit,
  .p (.iadr 21 1 (.t 19) (.t 20)) .unit,
  .p (.load 22 (.t 21) 1 false) .unit,
  .p (.lenS 23 (.t 22)) .unit,
  .p (.bin 24 false .sub (.t 18) (.t 23)) .unit,
  .p (.mv 1 (.t 24)) .unit])
 (.seq (.reg none [.p (.mv 25 (.t 1)) .unit,
  .p (.bin 26 false .lss (.t 25) (.c (.int .i64 0))) .unit])
 (.cond (.t 26) (.seq (.reg none [.p (.mv 4 (.c (.int .i64 (-1)))) .unit])
 .ret) .skip))))
 (.reg none [.p (.mv 16 (.t 5)) .unit,
  .p (.bin 17 false .add (.t 16) (.c (.int .i64 1))) .unit,
  .p (.mv 5 (.t 17)) .unit])))
noncomputable def L_laws_szStringS_1 : Nat → (List (List UInt8)) × (Int) × Int → Option ((Int) ⊕ (Int)) := evL [] (finT [.t 4] [] [.cell (.int .i64)]) 0 ⟨[(0, true), (1, false), (5, false)], [.cell (.sl false .str), .cell (.int .i64), .cell (.int .i64)]⟩ ⟨[(1, false)], [.cell (.int .i64)]⟩ B_laws_szStringS_1
def F_laws_szStringS : TF := ⟨(.seq (.reg none [.p (.mv 4 (.c (.int .i64 0))) .unit])
 (.seq (.reg none [.p (.mv 6 (.t 1)) .unit,
  .p (.mv 7 (.t 0)) .unit,
  .p (.lenB 8 (.t 7)) .unit,
  .p (.bin 9 false .sub (.t 6) (.t 8)) .unit,
  .p (.mv 1 (.t 9)) .unit])
 (.seq (.seq (.reg none [.p (.mv 10 (.t 1)) .unit,
  .p (.bin 11 false .lss (.t 10) (.c (.int .i64 0))) .unit])
 (.cond (.t 11) (.seq (.reg none [.p (.mv 4 (.c (.int .i64 (-1)))) .unit])
 .ret) .skip))
 (.seq (.seq (.reg none [.p (.mv 5 (.c (.int .i64 0))) .unit])
 (.jl 0 ⟨[(0, true), (1, false), (5, false)], [.cell (.sl false .str), .cell (.int .i64), .cell (.int .i64)]⟩ ⟨[(1, false)], [.cell (.int .i64)]⟩ B_laws_szStringS_1))
 (.seq (.reg none [.p (.mv 27 (.t 1)) .unit,
  .p (.mv 4 (.t 27)) .unit])
 .ret))))),
 28, 2, [.t 4]⟩
theorem m_laws_szStringS : mH Try.prog 73 [] = some (F_laws_szStringS.code.x, F_laws_szStringS.N, F_laws_szStringS.np, F_laws_szStringS.res) := by kernel_rfl
noncomputable def T_laws_szStringS : (List (List UInt8)) × Int → Option (Int) := evF [] F_laws_szStringS [.cell (.sl false .str), .cell (.int .i64)] [] [.cell (.int .i64)] []
noncomputable def fn_laws_szStringS : TFn := ⟨73, [.cell (.sl false .str), .cell (.int .i64)], [], [.cell (.int .i64)], [], T_laws_szStringS⟩
theorem ok_laws_szStringS : FnOk Try.prog fn_laws_szStringS := evF_ok mixed allOk_nil m_laws_szStringS (by decide)
def F_laws_szBox : TF := ⟨(.seq (.reg none [.p (.box 2 (.t 0)) .unit,
  .p (.mv 4 (.c (.int .i64 0))) .unit])
 (.seq (.reg none [.p (.mv 5 (.t 1)) .unit,
  .p (.fadr 6 (.t 2) 0) .unit,
  .p (.load 7 (.t 6) 1 false) .unit,
  .p (.lenS 8 (.t 7)) .unit,
  .p (.bin 9 false .sub (.t 5) (.t 8)) .unit,
  .p (.mv 1 (.t 9)) .unit])
 (.seq (.seq (.reg none [.p (.mv 10 (.t 1)) .unit,
  .p (.bin 11 false .lss (.t 10) (.c (.int .i64 0))) .unit])
 (.cond (.t 11) (.seq (.reg none [.p (.mv 4 (.c (.int .i64 (-1)))) .unit])
 .ret) .skip))
 (.seq (.reg none [.p (.fadr 12 (.t 2) 1) .unit,
  .p (.load 13 (.t 12) 1 false) .unit,
  .p (.mv 14 (.t 1)) .unit,
  .p (.callB 15 n_laws_szStringS [((.t 13), 0), ((.t 14), 0)]) .unit,
  .p (.mv 1 (.t 15)) .unit])
 (.seq (.seq (.reg none [.p (.mv 16 (.t 1)) .unit,
  .p (.bin 17 false .lss (.t 16) (.c (.int .i64 0))) .unit])
 (.cond (.t 17) (.seq (.reg none [.p (.mv 4 (.c (.int .i64 (-1)))) .unit])
 .ret) .skip))
 (.seq (.reg none [.p (.mv 18 (.t 1)) .unit,
  .p (.mv 4 (.t 18)) .unit])
 .ret)))))),
 19, 2, [.t 4]⟩
theorem m_laws_szBox : mH Try.prog 19 [] = some (F_laws_szBox.code.x, F_laws_szBox.N, F_laws_szBox.np, F_laws_szBox.res) := by kernel_rfl
noncomputable def T_laws_szBox : (List UInt8 × List (List UInt8) × Bool) × Int → Option (Int) := evF [fn_laws_szStringS] F_laws_szBox [.agg (.pair .str (.pair (.sl false .str) .bool)), .cell (.int .i64)] [] [.cell (.int .i64)] []
noncomputable def fn_laws_szBox : TFn := ⟨19, [.agg (.pair .str (.pair (.sl false .str) .bool)), .cell (.int .i64)], [], [.cell (.int .i64)], [], T_laws_szBox⟩
theorem ok_laws_szBox : FnOk Try.prog fn_laws_szBox := evF_ok mixed (allOk_cons ok_laws_szStringS allOk_nil) m_laws_szBox (by decide)
def B_laws_toStringS_1 : TC := (.seq (.seq (.reg none [.p (.mv 8 (.t 4)) .unit,
  .p (.mv 9 (.t 0)) .unit,
  .p (.lenB 10 (.t 9)) .unit,
  .p (.bin 11 false .lss (.t 8) (.t 10)) .unit])
 (.cond (.t 11) .skip (.exit 0)))
 (.seq (.block 1 (.reg none [.p (.mvA 14 3) .unit,
  .p (.mv 15 (.t 4)) .unit,
  .p (.mv 16 (.t 0)) .unit,
  .p (.mv 17 (.t 4)) .unit,
  .p (.iadr 18 1 (.t 16) (.t 17)) .unit,
  .p (.load 19 (.t 18) 1 false) .unit,
  .p (.iadr 20 1 (.t 14) (.t 15)) .unit,
  .p (.store (.t 20) (.t 19) 1) .unit]))
 (.reg none [.p (.mv 12 (.t 4)) .unit,
  .p (.bin 13 false .add (.t 12) (.c (.int .i64 1))) .unit,
  .p (.mv 4 (.t 13)) .unit])))
noncomputable def L_laws_toStringS_1 : Nat → (List (List UInt8)) × (List (List UInt8)) × Int → Option ((List (List UInt8)) ⊕ (List (List UInt8))) := evL [] (finT [.t 2] [] [.cell (.sl true .str)]) 0 ⟨[(0, true), (3, false), (4, false)], [.cell (.sl false .str), .cell (.sl true .str), .cell (.int .i64)]⟩ ⟨[(3, false)], [.cell (.sl true .str)]⟩ B_laws_toStringS_1
def F_laws_toStringS : TF := ⟨(.seq (.reg none [.p (.mvN 2 1) .unit])
 (.seq (.reg none [.p (.mv 5 (.t 0)) .unit,
  .p (.lenB 6 (.t 5)) .unit,
  .p (.mkS 7 16 [(.lit (.string (ba [])))] (.t 6) (.t 6)) .str,
  .p (.mvT 3 7) .unit])
 (.seq (.seq (.reg none [.p (.mv 4 (.c (.int .i64 0))) .unit])
 (.jl 0 ⟨[(0, true), (3, false), (4, false)], [.cell (.sl false .str), .cell (.sl true .str), .cell (.int .i64)]⟩ ⟨[(3, false)], [.cell (.sl true .str)]⟩ B_laws_toStringS_1))
 (.seq (.reg none [.p (.mvT 21 3) .unit,
  .p (.mvT 2 21) .unit])
 .ret)))),
 22, 1, [.t 2]⟩
theorem m_laws_toStringS : mH Try.prog 75 [(1, 3, .t), (5, 0, .v), (6, 0, .t), (6, 1, .t)] = some (F_laws_toStringS.code.x, F_laws_toStringS.N, F_laws_toStringS.np, F_laws_toStringS.res) := by kernel_rfl
noncomputable def T_laws_toStringS : List (List UInt8) → Option (List (List UInt8)) := evF [] F_laws_toStringS [.cell (.sl false .str)] [] [.cell (.sl true .str)] []
noncomputable def fn_laws_toStringS : TFn := ⟨75, [.cell (.sl false .str)], [], [.cell (.sl true .str)], [], T_laws_toStringS⟩
theorem ok_laws_toStringS : FnOk Try.prog fn_laws_toStringS := evF_ok mixed allOk_nil m_laws_toStringS (by decide)
def F_laws_toBox : TF := ⟨(.seq (.reg none [.p (.box 1 (.t 0)) .unit,
  .p (.alloc 2 [(.lit (.string (ba []))), (.sl true 1 []), (.lit (.bool false))]) .unit])
 (.seq (.reg none [.p (.alloc 3 [(.lit (.string (ba []))), (.sl true 1 []), (.lit (.bool false))]) .unit])
 (.seq (.reg none [.p (.fadr 4 (.t 1) 0) .unit,
  .p (.load 5 (.t 4) 1 false) .unit,
  .p (.fadr 6 (.t 3) 0) .unit,
  .p (.store (.t 6) (.t 5) 1) .unit])
 (.seq (.reg none [.p (.fadr 7 (.t 1) 1) .unit,
  .p (.load 8 (.t 7) 1 false) .unit,
  .p (.callB 9 n_laws_toStringS [((.t 8), 0)]) .unit,
  .p (.fadr 10 (.t 3) 1) .unit,
  .p (.storeT (.t 10) 9 1) .unit])
 (.seq (.reg none [.p (.fadr 11 (.t 1) 2) .unit,
  .p (.load 12 (.t 11) 1 false) .unit,
  .p (.fadr 13 (.t 3) 2) .unit,
  .p (.store (.t 13) (.t 12) 1) .unit])
 (.seq (.reg none [.p (.loadT 14 (.t 3) 3 true) .unit,
  .p (.storeT (.t 2) 14 3) .unit])
 .ret)))))),
 15, 1, [.c 2 3 true]⟩
theorem m_laws_toBox : mH Try.prog 21 [(3, 4, .t), (5, 0, .t), (5, 1, .t)] = some (F_laws_toBox.code.x, F_laws_toBox.N, F_laws_toBox.np, F_laws_toBox.res) := by kernel_rfl
noncomputable def T_laws_toBox : List UInt8 × List (List UInt8) × Bool → Option (List UInt8 × List (List UInt8) × Bool) := evF [fn_laws_toStringS] F_laws_toBox [.agg (.pair .str (.pair (.sl false .str) .bool))] [] [.agg (.pair .str (.pair (.sl true .str) .bool))] []
noncomputable def fn_laws_toBox : TFn := ⟨21, [.agg (.pair .str (.pair (.sl false .str) .bool))], [], [.agg (.pair .str (.pair (.sl true .str) .bool))], [], T_laws_toBox⟩
theorem ok_laws_toBox : FnOk Try.prog fn_laws_toBox := evF_ok mixed (allOk_cons ok_laws_toStringS allOk_nil) m_laws_toBox (by decide)
def F_spec_l18Copy : TF := ⟨(.seq (.reg none [.p (.box 1 (.t 0)) .unit,
  .p (.alloc 2 [(.lit (.string (ba []))), (.sl true 1 []), (.lit (.bool false))]) .unit])
 (.seq (.reg none [.p (.bldS 3 0 [(.lit (.string (ba [])))] []) .str,
  .p (.fadr 4 (.t 1) 1) .unit,
  .p (.load 5 (.t 4) 1 false) .unit,
  .p (.app 6 1 16 (.t 3) (.t 5)) .str,
  .p (.fadr 7 (.t 1) 1) .unit,
  .p (.storeT (.t 7) 6 1) .unit])
 (.seq (.reg none [.p (.loadT 8 (.t 1) 3 true) .unit,
  .p (.storeT (.t 2) 8 3) .unit])
 .ret))),
 9, 1, [.c 2 3 true]⟩
theorem m_spec_l18Copy : mH Try.prog 105 [(1, 5, .t), (2, 0, .t), (2, 1, .t)] = some (F_spec_l18Copy.code.x, F_spec_l18Copy.N, F_spec_l18Copy.np, F_spec_l18Copy.res) := by kernel_rfl
noncomputable def T_spec_l18Copy : List UInt8 × List (List UInt8) × Bool → Option (List UInt8 × List (List UInt8) × Bool) := evF [] F_spec_l18Copy [.agg (.pair .str (.pair (.sl false .str) .bool))] [] [.agg (.pair .str (.pair (.sl true .str) .bool))] []
noncomputable def fn_spec_l18Copy : TFn := ⟨105, [.agg (.pair .str (.pair (.sl false .str) .bool))], [], [.agg (.pair .str (.pair (.sl true .str) .bool))], [], T_spec_l18Copy⟩
theorem ok_spec_l18Copy : FnOk Try.prog fn_spec_l18Copy := evF_ok mixed allOk_nil m_spec_l18Copy (by decide)
def F_spec_l01In : TF := ⟨(.seq (.reg none [.p (.mv 6 (.c (.bool false))) .unit])
 (.seq (.reg none [.p (.mv 7 (.t 0)) .unit,
  .p (.mv 8 (.t 1)) .unit,
  .p (.bin 9 false .geq (.t 7) (.t 8)) .unit,
  .p (.mv 10 (.t 9)) .unit,
  .g 10 true (some 11) (.mv 11 (.t 0)) .unit,
  .g 10 true (some 12) (.mv 12 (.t 2)) .unit,
  .g 10 true (some 13) (.bin 13 false .leq (.t 11) (.t 12)) .unit,
  .p (.pick 14 (.t 10) (.t 13) (.c (.bool false))) .unit,
  .p (.mv 6 (.t 14)) .unit])
 .ret)),
 15, 3, [.t 6]⟩
theorem m_spec_l01In : mH Try.prog 67 [] = some (F_spec_l01In.code.x, F_spec_l01In.N, F_spec_l01In.np, F_spec_l01In.res) := by kernel_rfl
noncomputable def T_spec_l01In : (Int) × (Int) × Int → Option (Bool) := evF [] F_spec_l01In [.cell (.int .i64), .cell (.int .i64), .cell (.int .i64)] [] [.cell .bool] []
noncomputable def fn_spec_l01In : TFn := ⟨67, [.cell (.int .i64), .cell (.int .i64), .cell (.int .i64)], [], [.cell .bool], [], T_spec_l01In⟩
theorem ok_spec_l01In : FnOk Try.prog fn_spec_l01In := evF_ok mixed allOk_nil m_spec_l01In (by decide)
def B_spec_NameOk_1 : TC := (.seq (.seq (.reg none [.p (.mv 18 (.t 3)) .unit,
  .p (.mv 19 (.t 0)) .unit,
  .p (.lenS 20 (.t 19)) .unit,
  .p (.bin 21 false .lss (.t 18) (.t 20)) .unit])
 (.cond (.t 21) .skip (.exit 0)))
 (.seq (.block 1 (.seq (.join ⟨[(0, true), (3, false), (45, false)], [.cell .str, .cell (.int .i64), .cell .bool]⟩ (.reg none [.p (.mv 24 (.t 0)) .unit,
  .p (.mv 25 (.t 3)) .unit,
  .p (.idx 26 (.t 24) (.t 25)) .unit,
  .p (.bin 27 false .lss (.t 26) (.c (.int .u8 97))) .unit,
  .p (.mv 28 (.t 27)) .unit,
  .g 28 false (some 29) (.mv 29 (.t 0)) .unit,
  .g 28 false (some 30) (.mv 30 (.t 3)) .unit,
  .g 28 false (some 31) (.idx 31 (.t 29) (.t 30)) .unit,
  .g 28 false (some 32) (.bin 32 false .gtr (.t 31) (.c (.int .u8 122))) .unit,
  .p (.pick 33 (.t 28) (.c (.bool true)) (.t 32)) .unit,
  .p (.mv 34 (.t 33)) .unit,
  .g 34 true (some 35) (.mv 35 (.t 0)) .unit,
  .g 34 true (some 36) (.mv 36 (.t 3)) .unit,
  .g 34 true (some 37) (.idx 37 (.t 35) (.t 36)) .unit,
  .g 34 true (some 38) (.bin 38 false .lss (.t 37) (.c (.int .u8 48))) .unit,
  .g 34 true (some 39) (.mv 39 (.t 38)) .unit,
  .g 39 false (some 40) (.mv 40 (.t 0)) .unit,
  .g 39 false (some 41) (.mv 41 (.t 3)) .unit,
  .g 39 false (some 42) (.idx 42 (.t 40) (.t 41)) .unit,
  .g 39 false (some 43) (.bin 43 false .gtr (.t 42) (.c (.int .u8 57))) .unit,
  .g 34 true (some 44) (.pick 44 (.t 39) (.c (.bool true)) (.t 43)) .unit,
  .p (.pick 45 (.t 34) (.t 44) (.c (.bool false))) .unit]))
 (.cond (.t 45) (.seq (.reg none [.p (.mv 2 (.c (.bool false))) .unit])
 .ret) .skip)))
 (.reg none [.p (.mv 22 (.t 3)) .unit,
  .p (.bin 23 false .add (.t 22) (.c (.int .i64 1))) .unit,
  .p (.mv 3 (.t 23)) .unit])))
noncomputable def L_spec_NameOk_1 : Nat → (List UInt8) × Int → Option ((Unit) ⊕ (Bool)) := evL [fn_spec_l01In] (finT [.t 2] [] [.cell .bool]) 0 ⟨[(0, true), (3, false)], [.cell .str, .cell (.int .i64)]⟩ ⟨[], []⟩ B_spec_NameOk_1
def F_spec_NameOk : TF := ⟨(.seq (.reg none [.p (.mv 2 (.c (.bool false))) .unit])
 (.seq (.seq (.join ⟨[(0, true), (17, false)], [.cell .str, .cell .bool]⟩ (.reg none [.p (.mv 4 (.t 0)) .unit,
  .p (.lenS 5 (.t 4)) .unit,
  .p (.callB 6 n_spec_l01In [((.t 5), 0), ((.c (.int .i64 1)), 0), ((.c (.int .i64 12)), 0)]) .unit,
  .p (.un 7 .not (.t 6)) .unit,
  .p (.mv 8 (.t 7)) .unit,
  .g 8 false (some 9) (.mv 9 (.t 0)) .unit,
  .g 8 false (some 10) (.idx 10 (.t 9) (.c (.int .i64 0))) .unit,
  .g 8 false (some 11) (.bin 11 false .lss (.t 10) (.c (.int .u8 97))) .unit,
  .p (.pick 12 (.t 8) (.c (.bool true)) (.t 11)) .unit,
  .p (.mv 13 (.t 12)) .unit,
  .g 13 false (some 14) (.mv 14 (.t 0)) .unit,
  .g 13 false (some 15) (.idx 15 (.t 14) (.c (.int .i64 0))) .unit,
  .g 13 false (some 16) (.bin 16 false .gtr (.t 15) (.c (.int .u8 122))) .unit,
  .p (.pick 17 (.t 13) (.c (.bool true)) (.t 16)) .unit]))
 (.cond (.t 17) (.seq (.reg none [.p (.mv 2 (.c (.bool false))) .unit])
 .ret) .skip))
 (.seq (.seq (.reg none [.p (.mv 3 (.c (.int .i64 0))) .unit])
 (.jl 0 ⟨[(0, true), (3, false)], [.cell .str, .cell (.int .i64)]⟩ ⟨[], []⟩ B_spec_NameOk_1))
 (.seq (.reg none [.p (.mv 2 (.c (.bool true))) .unit])
 .ret)))),
 46, 1, [.t 2]⟩
theorem m_spec_NameOk : mH Try.prog 74 [] = some (F_spec_NameOk.code.x, F_spec_NameOk.N, F_spec_NameOk.np, F_spec_NameOk.res) := by kernel_rfl
noncomputable def T_spec_NameOk : List UInt8 → Option (Bool) := evF [fn_spec_l01In] F_spec_NameOk [.cell .str] [] [.cell .bool] []
noncomputable def fn_spec_NameOk : TFn := ⟨74, [.cell .str], [], [.cell .bool], [], T_spec_NameOk⟩
theorem ok_spec_NameOk : FnOk Try.prog fn_spec_NameOk := evF_ok mixed (allOk_cons ok_spec_l01In allOk_nil) m_spec_NameOk (by decide)
def B_spec_BoxOk_1 : TC := (.seq (.seq (.reg none [.p (.mv 24 (.t 3)) .unit,
  .p (.fadr 25 (.t 1) 1) .unit,
  .p (.load 26 (.t 25) 1 false) .unit,
  .p (.lenB 27 (.t 26)) .unit,
  .p (.bin 28 false .lss (.t 24) (.t 27)) .unit])
 (.cond (.t 28) .skip (.exit 0)))
 (.seq (.block 1 (.seq (.reg none [.p (.fadr 31 (.t 1) 1) .unit,
  .p (.load 32 (.t 31) 1 false) .unit,
  .p (.mv 33 (.t 3)) .unit,
  .p (.iadr 34 1 (.t 32) (.t 33)) .unit,
  .p (.load 35 (.t 34) 1 false) .unit,
  .p (.lenS 36 (.t 35)) .unit,
  .p (.bin 37 false .gtr (.t 36) (.c (.int .i64 60))) .unit])
 (.cond (.t 37) (.seq (.reg none [.p (.mv 2 (.c (.bool false))) .unit])
 .ret) .skip)))
 (.reg none [.p (.mv 29 (.t 3)) .unit,
  .p (.bin 30 false .add (.t 29) (.c (.int .i64 1))) .unit,
  .p (.mv 3 (.t 30)) .unit])))
noncomputable def L_spec_BoxOk_1 : Nat → (List UInt8 × List (List UInt8) × Bool) × Int → Option ((Unit) ⊕ (Bool)) := evL [fn_spec_NameOk] (finT [.t 2] [] [.cell .bool]) 0 ⟨[(1, false), (3, false)], [.box (.pair .str (.pair (.sl false .str) .bool)), .cell (.int .i64)]⟩ ⟨[], []⟩ B_spec_BoxOk_1
def F_spec_BoxOk : TF := ⟨(.seq (.reg none [.p (.box 1 (.t 0)) .unit,
  .p (.mv 2 (.c (.bool false))) .unit])
 (.seq (.seq (.join ⟨[(1, false), (23, false)], [.box (.pair .str (.pair (.sl false .str) .bool)), .cell .bool]⟩ (.reg none [.p (.fadr 4 (.t 1) 0) .unit,
  .p (.load 5 (.t 4) 1 false) .unit,
  .p (.callB 6 n_spec_NameOk [((.t 5), 0)]) .unit,
  .p (.un 7 .not (.t 6)) .unit,
  .p (.mv 8 (.t 7)) .unit,
  .g 8 false (some 9) (.fadr 9 (.t 1) 1) .unit,
  .g 8 false (some 10) (.load 10 (.t 9) 1 false) .unit,
  .g 8 false (some 11) (.lenB 11 (.t 10)) .unit,
  .g 8 false (some 12) (.bin 12 false .gtr (.t 11) (.c (.int .i64 5))) .unit,
  .p (.pick 13 (.t 8) (.c (.bool true)) (.t 12)) .unit,
  .p (.mv 14 (.t 13)) .unit,
  .g 14 false (some 15) (.fadr 15 (.t 1) 2) .unit,
  .g 14 false (some 16) (.load 16 (.t 15) 1 false) .unit,
  .g 14 false (some 17) (.mv 17 (.t 16)) .unit,
  .g 17 true (some 18) (.fadr 18 (.t 1) 1) .unit,
  .g 17 true (some 19) (.load 19 (.t 18) 1 false) .unit,
  .g 17 true (some 20) (.lenB 20 (.t 19)) .unit,
  .g 17 true (some 21) (.bin 21 false .gtr (.t 20) (.c (.int .i64 0))) .unit,
  .g 14 false (some 22) (.pick 22 (.t 17) (.t 21) (.c (.bool false))) .unit,
  .p (.pick 23 (.t 14) (.c (.bool true)) (.t 22)) .unit]))
 (.cond (.t 23) (.seq (.reg none [.p (.mv 2 (.c (.bool false))) .unit])
 .ret) .skip))
 (.seq (.seq (.reg none [.p (.mv 3 (.c (.int .i64 0))) .unit])
 (.jl 0 ⟨[(1, false), (3, false)], [.box (.pair .str (.pair (.sl false .str) .bool)), .cell (.int .i64)]⟩ ⟨[], []⟩ B_spec_BoxOk_1))
 (.seq (.reg none [.p (.mv 2 (.c (.bool true))) .unit])
 .ret)))),
 38, 1, [.t 2]⟩
theorem m_spec_BoxOk : mH Try.prog 20 [] = some (F_spec_BoxOk.code.x, F_spec_BoxOk.N, F_spec_BoxOk.np, F_spec_BoxOk.res) := by kernel_rfl
noncomputable def T_spec_BoxOk : List UInt8 × List (List UInt8) × Bool → Option (Bool) := evF [fn_spec_NameOk] F_spec_BoxOk [.agg (.pair .str (.pair (.sl false .str) .bool))] [] [.cell .bool] []
noncomputable def fn_spec_BoxOk : TFn := ⟨20, [.agg (.pair .str (.pair (.sl false .str) .bool))], [], [.cell .bool], [], T_spec_BoxOk⟩
theorem ok_spec_BoxOk : FnOk Try.prog fn_spec_BoxOk := evF_ok mixed (allOk_cons ok_spec_NameOk allOk_nil) m_spec_BoxOk (by decide)
def F_spec_Drop : TF := ⟨(.seq (.reg none [.p (.box 2 (.t 0)) .unit,
  .p (.alloc 4 [(.lit (.string (ba []))), (.sl true 1 []), (.lit (.bool false))]) .unit])
 (.seq (.reg none [.p (.load 6 (.t 2) 3 true) .unit,
  .p (.callB 7 n_spec_l18Copy [((.t 6), 0)]) .unit,
  .p (.alloc 5 [(.lit (.string (ba []))), (.sl true 1 []), (.lit (.bool false))]) .unit,
  .p (.storeT (.t 5) 7 3) .unit])
 (.seq (.seq (.join ⟨[(1, true), (2, false), (4, false), (5, false), (19, false)], [.cell .str, .box (.pair .str (.pair (.sl false .str) .bool)), .box (.pair .str (.pair (.sl true .str) .bool)), .box (.pair .str (.pair (.sl true .str) .bool)), .cell .bool]⟩ (.reg none [.p (.load 8 (.t 2) 3 true) .unit,
  .p (.callB 9 n_spec_BoxOk [((.t 8), 0)]) .unit,
  .p (.un 10 .not (.t 9)) .unit,
  .p (.mv 11 (.t 10)) .unit,
  .g 11 false (some 12) (.fadr 12 (.t 2) 2) .unit,
  .g 11 false (some 13) (.load 13 (.t 12) 1 false) .unit,
  .p (.pick 14 (.t 11) (.c (.bool true)) (.t 13)) .unit,
  .p (.mv 15 (.t 14)) .unit,
  .g 15 false (some 16) (.mv 16 (.t 1)) .unit,
  .g 15 false (some 17) (.lenS 17 (.t 16)) .unit,
  .g 15 false (some 18) (.bin 18 false .gtr (.t 17) (.c (.int .i64 60))) .unit,
  .p (.pick 19 (.t 15) (.c (.bool true)) (.t 18)) .unit]))
 (.cond (.t 19) (.seq (.reg none [.p (.loadT 20 (.t 5) 3 true) .unit,
  .p (.storeT (.t 4) 20 3) .unit])
 .ret) .skip))
 (.seq (.seq (.reg none [.p (.fadr 21 (.t 2) 1) .unit,
  .p (.load 22 (.t 21) 1 false) .unit,
  .p (.lenB 23 (.t 22)) .unit,
  .p (.bin 24 false .eql (.t 23) (.c (.int .i64 5))) .unit])
 (.cond (.t 24) (.seq (.reg none [.p (.fadr 25 (.t 2) 0) .unit,
  .p (.load 26 (.t 25) 1 false) .unit,
  .p (.bld 27 [(.lit (.string (ba []))), (.sl true 1 []), (.lit (.bool false))] [⟨0, 1, (.t 26)⟩, ⟨2, 1, (.c (.bool true))⟩]) .unit,
  .p (.storeT (.t 4) 27 3) .unit])
 .ret) .skip))
 (.seq (.reg none [.p (.fadr 28 (.t 5) 1) .unit,
  .p (.loadT 29 (.t 28) 1 false) .unit,
  .p (.mv 30 (.t 1)) .unit,
  .p (.bldS 31 1 [(.lit (.string (ba [])))] [⟨0, 1, (.t 30)⟩]) .str,
  .p (.app 32 1 16 (.t 29) (.t 31)) .str,
  .p (.fadr 33 (.t 5) 1) .unit,
  .p (.storeT (.t 33) 32 1) .unit])
 (.seq (.reg none [.p (.loadT 34 (.t 5) 3 true) .unit,
  .p (.storeT (.t 4) 34 3) .unit])
 .ret)))))),
 35, 2, [.c 4 3 true]⟩
theorem m_spec_Drop : mH Try.prog 50 [(1, 3, .t), (3, 0, .t), (3, 1, .t), (5, 3, .t), (6, 1, .t), (6, 6, .t), (7, 0, .t), (7, 1, .t)] = some (F_spec_Drop.code.x, F_spec_Drop.N, F_spec_Drop.np, F_spec_Drop.res) := by kernel_rfl
noncomputable def T_spec_Drop : (List UInt8 × List (List UInt8) × Bool) × List UInt8 → Option (List UInt8 × List (List UInt8) × Bool) := evF [fn_spec_l18Copy, fn_spec_BoxOk] F_spec_Drop [.agg (.pair .str (.pair (.sl false .str) .bool)), .cell .str] [] [.agg (.pair .str (.pair (.sl true .str) .bool))] []
noncomputable def fn_spec_Drop : TFn := ⟨50, [.agg (.pair .str (.pair (.sl false .str) .bool)), .cell .str], [], [.agg (.pair .str (.pair (.sl true .str) .bool))], [], T_spec_Drop⟩
theorem ok_spec_Drop : FnOk Try.prog fn_spec_Drop := evF_ok mixed (allOk_cons ok_spec_l18Copy (allOk_cons ok_spec_BoxOk allOk_nil)) m_spec_Drop (by decide)
def F_slices_Clone___string_string_ : TF := ⟨(.seq (.reg none [.p (.mvN 2 1) .unit])
 (.seq (.seq (.nq [.p (.mv 3 (.t 0)) .unit] 4 false (.t 3))
 (.cond (.t 4) (.seq (.reg none [.p (.mvN 2 1) .unit])
 .ret) .skip))
 (.seq (.reg none [.p (.bldS 5 0 [(.lit (.string (ba [])))] []) .str,
  .p (.mv 6 (.t 0)) .unit,
  .p (.app 7 1 16 (.t 5) (.t 6)) .str,
  .p (.mvT 2 7) .unit])
 .ret))),
 8, 1, [.t 2]⟩
theorem m_slices_Clone___string_string_ : mH Try.prog 101 [(3, 3, .t)] = some (F_slices_Clone___string_string_.code.x, F_slices_Clone___string_string_.N, F_slices_Clone___string_string_.np, F_slices_Clone___string_string_.res) := by kernel_rfl
noncomputable def T_slices_Clone___string_string_ : List (List UInt8) → Option (List (List UInt8)) := evF [] F_slices_Clone___string_string_ [.cell (.sl false .str)] [] [.cell (.sl true .str)] []
noncomputable def fn_slices_Clone___string_string_ : TFn := ⟨101, [.cell (.sl false .str)], [], [.cell (.sl true .str)], [], T_slices_Clone___string_string_⟩
theorem ok_slices_Clone___string_string_ : FnOk Try.prog fn_slices_Clone___string_string_ := evF_ok mixed allOk_nil m_slices_Clone___string_string_ (by decide)
def F_impl_copyBox : TF := ⟨(.seq (.reg none [.p (.box 1 (.t 0)) .unit,
  .p (.alloc 2 [(.lit (.string (ba []))), (.sl true 1 []), (.lit (.bool false))]) .unit])
 (.seq (.reg none [.p (.fadr 3 (.t 1) 1) .unit,
  .p (.load 4 (.t 3) 1 false) .unit,
  .p (.callB 5 n_slices_Clone___string_string_ [((.t 4), 0)]) .unit,
  .p (.fadr 6 (.t 1) 1) .unit,
  .p (.storeT (.t 6) 5 1) .unit])
 (.seq (.reg none [.p (.loadT 7 (.t 1) 3 true) .unit,
  .p (.storeT (.t 2) 7 3) .unit])
 .ret))),
 8, 1, [.c 2 3 true]⟩
theorem m_impl_copyBox : mH Try.prog 81 [(1, 4, .t), (2, 0, .t), (2, 1, .t)] = some (F_impl_copyBox.code.x, F_impl_copyBox.N, F_impl_copyBox.np, F_impl_copyBox.res) := by kernel_rfl
noncomputable def T_impl_copyBox : List UInt8 × List (List UInt8) × Bool → Option (List UInt8 × List (List UInt8) × Bool) := evF [fn_slices_Clone___string_string_] F_impl_copyBox [.agg (.pair .str (.pair (.sl false .str) .bool))] [] [.agg (.pair .str (.pair (.sl true .str) .bool))] []
noncomputable def fn_impl_copyBox : TFn := ⟨81, [.agg (.pair .str (.pair (.sl false .str) .bool))], [], [.agg (.pair .str (.pair (.sl true .str) .bool))], [], T_impl_copyBox⟩
theorem ok_impl_copyBox : FnOk Try.prog fn_impl_copyBox := evF_ok mixed (allOk_cons ok_slices_Clone___string_string_ allOk_nil) m_impl_copyBox (by decide)
def F_impl_inRange : TF := ⟨(.seq (.reg none [.p (.mv 6 (.c (.bool false))) .unit])
 (.seq (.reg none [.p (.mv 7 (.t 0)) .unit,
  .p (.mv 8 (.t 1)) .unit,
  .p (.bin 9 false .geq (.t 7) (.t 8)) .unit,
  .p (.mv 10 (.t 9)) .unit,
  .g 10 true (some 11) (.mv 11 (.t 0)) .unit,
  .g 10 true (some 12) (.mv 12 (.t 2)) .unit,
  .g 10 true (some 13) (.bin 13 false .leq (.t 11) (.t 12)) .unit,
  .p (.pick 14 (.t 10) (.t 13) (.c (.bool false))) .unit,
  .p (.mv 6 (.t 14)) .unit])
 .ret)),
 15, 3, [.t 6]⟩
theorem m_impl_inRange : mH Try.prog 71 [] = some (F_impl_inRange.code.x, F_impl_inRange.N, F_impl_inRange.np, F_impl_inRange.res) := by kernel_rfl
noncomputable def T_impl_inRange : (Int) × (Int) × Int → Option (Bool) := evF [] F_impl_inRange [.cell (.int .i64), .cell (.int .i64), .cell (.int .i64)] [] [.cell .bool] []
noncomputable def fn_impl_inRange : TFn := ⟨71, [.cell (.int .i64), .cell (.int .i64), .cell (.int .i64)], [], [.cell .bool], [], T_impl_inRange⟩
theorem ok_impl_inRange : FnOk Try.prog fn_impl_inRange := evF_ok mixed allOk_nil m_impl_inRange (by decide)
def B_impl_NameOk_1 : TC := (.seq (.seq (.reg none [.p (.mv 5 (.t 3)) .unit,
  .p (.mv 6 (.t 0)) .unit,
  .p (.lenS 7 (.t 6)) .unit,
  .p (.bin 8 false .lss (.t 5) (.t 7)) .unit])
 (.cond (.t 8) .skip (.exit 0)))
 (.seq (.block 1 (.seq (.join ⟨[(0, true), (3, false), (4, false)], [.cell .str, .cell (.int .i64), .cell .bool]⟩ (.reg none [.p (.mv 11 (.t 0)) .unit,
  .p (.mv 12 (.t 3)) .unit,
  .p (.idx 13 (.t 11) (.t 12)) .unit,
  .p (.bin 14 false .geq (.t 13) (.c (.int .u8 97))) .unit,
  .p (.mv 15 (.t 14)) .unit,
  .g 15 true (some 16) (.mv 16 (.t 0)) .unit,
  .g 15 true (some 17) (.mv 17 (.t 3)) .unit,
  .g 15 true (some 18) (.idx 18 (.t 16) (.t 17)) .unit,
  .g 15 true (some 19) (.bin 19 false .leq (.t 18) (.c (.int .u8 122))) .unit,
  .p (.pick 20 (.t 15) (.t 19) (.c (.bool false))) .unit,
  .p (.mv 4 (.t 20)) .unit]))
 (.seq (.join ⟨[(0, true), (3, false), (38, false)], [.cell .str, .cell (.int .i64), .cell .bool]⟩ (.reg none [.p (.mv 21 (.t 4)) .unit,
  .p (.un 22 .not (.t 21)) .unit,
  .p (.mv 23 (.t 22)) .unit,
  .g 23 true (some 24) (.mv 24 (.t 3)) .unit,
  .g 23 true (some 25) (.bin 25 false .eql (.t 24) (.c (.int .i64 0))) .unit,
  .g 23 true (some 26) (.mv 26 (.t 25)) .unit,
  .g 26 false (some 27) (.mv 27 (.t 0)) .unit,
  .g 26 false (some 28) (.mv 28 (.t 3)) .unit,
  .g 26 false (some 29) (.idx 29 (.t 27) (.t 28)) .unit,
  .g 26 false (some 30) (.bin 30 false .lss (.t 29) (.c (.int .u8 48))) .unit,
  .g 23 true (some 31) (.pick 31 (.t 26) (.c (.bool true)) (.t 30)) .unit,
  .g 23 true (some 32) (.mv 32 (.t 31)) .unit,
  .g 32 false (some 33) (.mv 33 (.t 0)) .unit,
  .g 32 false (some 34) (.mv 34 (.t 3)) .unit,
  .g 32 false (some 35) (.idx 35 (.t 33) (.t 34)) .unit,
  .g 32 false (some 36) (.bin 36 false .gtr (.t 35) (.c (.int .u8 57))) .unit,
  .g 23 true (some 37) (.pick 37 (.t 32) (.c (.bool true)) (.t 36)) .unit,
  .p (.pick 38 (.t 23) (.t 37) (.c (.bool false))) .unit]))
 (.cond (.t 38) (.seq (.reg none [.p (.mv 2 (.c (.bool false))) .unit])
 .ret) .skip))))
 (.reg none [.p (.mv 9 (.t 3)) .unit,
  .p (.bin 10 false .add (.t 9) (.c (.int .i64 1))) .unit,
  .p (.mv 3 (.t 10)) .unit])))
noncomputable def L_impl_NameOk_1 : Nat → (List UInt8) × Int → Option ((List UInt8) ⊕ (Bool)) := evL [fn_impl_inRange] (finT [.t 2] [] [.cell .bool]) 0 ⟨[(0, true), (3, false)], [.cell .str, .cell (.int .i64)]⟩ ⟨[(0, true)], [.cell .str]⟩ B_impl_NameOk_1
def F_impl_NameOk : TF := ⟨(.seq (.reg none [.p (.mv 2 (.c (.bool false))) .unit])
 (.seq (.seq (.reg none [.p (.mv 3 (.c (.int .i64 0))) .unit])
 (.jl 0 ⟨[(0, true), (3, false)], [.cell .str, .cell (.int .i64)]⟩ ⟨[(0, true)], [.cell .str]⟩ B_impl_NameOk_1))
 (.seq (.reg none [.p (.mv 39 (.t 0)) .unit,
  .p (.lenS 40 (.t 39)) .unit,
  .p (.callB 41 n_impl_inRange [((.t 40), 0), ((.c (.int .i64 1)), 0), ((.c (.int .i64 12)), 0)]) .unit,
  .p (.mv 2 (.t 41)) .unit])
 .ret))),
 42, 1, [.t 2]⟩
theorem m_impl_NameOk : mH Try.prog 76 [] = some (F_impl_NameOk.code.x, F_impl_NameOk.N, F_impl_NameOk.np, F_impl_NameOk.res) := by kernel_rfl
noncomputable def T_impl_NameOk : List UInt8 → Option (Bool) := evF [fn_impl_inRange] F_impl_NameOk [.cell .str] [] [.cell .bool] []
noncomputable def fn_impl_NameOk : TFn := ⟨76, [.cell .str], [], [.cell .bool], [], T_impl_NameOk⟩
theorem ok_impl_NameOk : FnOk Try.prog fn_impl_NameOk := evF_ok mixed (allOk_cons ok_impl_inRange allOk_nil) m_impl_NameOk (by decide)
def B_impl_areShort_1 : TC := (.seq (.reg none [.p (.bin 8 false .lss (.t 7) (.t 6)) .unit])
 (.seq (.cond (.t 8) .skip (.exit 0))
 (.seq (.block 1 (.seq (.reg none [.p (.iadr 9 1 (.t 5) (.t 7)) .unit,
  .p (.load 10 (.t 9) 1 false) .unit,
  .p (.mv 4 (.t 10)) .unit])
 (.seq (.reg none [.p (.mv 11 (.t 4)) .unit,
  .p (.lenS 12 (.t 11)) .unit,
  .p (.bin 13 false .gtr (.t 12) (.c (.int .i64 60))) .unit])
 (.cond (.t 13) (.seq (.reg none [.p (.mv 2 (.c (.bool false))) .unit])
 .ret) .skip))))
 (.reg none [.p (.bin 14 false .add (.t 7) (.c (.int .i64 1))) .unit,
  .p (.mv 7 (.t 14)) .unit]))))
noncomputable def L_impl_areShort_1 : Nat → (List (List UInt8)) × (Int) × Int → Option ((Unit) ⊕ (Bool)) := evL [] (finT [.t 2] [] [.cell .bool]) 0 ⟨[(5, false), (6, false), (7, false)], [.cell (.sl false .str), .cell (.int .i64), .cell (.int .i64)]⟩ ⟨[], []⟩ B_impl_areShort_1
def F_impl_areShort : TF := ⟨(.seq (.reg none [.p (.mv 2 (.c (.bool false))) .unit])
 (.seq (.seq (.reg none [.p (.mv 5 (.t 0)) .unit,
  .p (.lenB 6 (.t 5)) .unit,
  .p (.mv 7 (.c (.int .i64 0))) .unit])
 (.jl 0 ⟨[(5, false), (6, false), (7, false)], [.cell (.sl false .str), .cell (.int .i64), .cell (.int .i64)]⟩ ⟨[], []⟩ B_impl_areShort_1))
 (.seq (.reg none [.p (.mv 2 (.c (.bool true))) .unit])
 .ret))),
 15, 1, [.t 2]⟩
theorem m_impl_areShort : mH Try.prog 77 [] = some (F_impl_areShort.code.x, F_impl_areShort.N, F_impl_areShort.np, F_impl_areShort.res) := by kernel_rfl
noncomputable def T_impl_areShort : List (List UInt8) → Option (Bool) := evF [] F_impl_areShort [.cell (.sl false .str)] [] [.cell .bool] []
noncomputable def fn_impl_areShort : TFn := ⟨77, [.cell (.sl false .str)], [], [.cell .bool], [], T_impl_areShort⟩
theorem ok_impl_areShort : FnOk Try.prog fn_impl_areShort := evF_ok mixed allOk_nil m_impl_areShort (by decide)
def F_impl_BoxOk : TF := ⟨(.seq (.reg none [.p (.box 1 (.t 0)) .unit,
  .p (.mv 2 (.c (.bool false))) .unit])
 (.seq (.reg none [.p (.fadr 3 (.t 1) 0) .unit,
  .p (.load 4 (.t 3) 1 false) .unit,
  .p (.callB 5 n_impl_NameOk [((.t 4), 0)]) .unit,
  .p (.mv 6 (.t 5)) .unit,
  .g 6 true (some 7) (.fadr 7 (.t 1) 1) .unit,
  .g 6 true (some 8) (.load 8 (.t 7) 1 false) .unit,
  .g 6 true (some 9) (.lenB 9 (.t 8)) .unit,
  .g 6 true (some 10) (.bin 10 false .leq (.t 9) (.c (.int .i64 5))) .unit,
  .p (.pick 11 (.t 6) (.t 10) (.c (.bool false))) .unit,
  .p (.mv 12 (.t 11)) .unit,
  .g 12 true (some 13) (.fadr 13 (.t 1) 1) .unit,
  .g 12 true (some 14) (.load 14 (.t 13) 1 false) .unit,
  .g 12 true (some 15) (.callB 15 n_impl_areShort [((.t 14), 0)]) .unit,
  .p (.pick 16 (.t 12) (.t 15) (.c (.bool false))) .unit,
  .p (.mv 17 (.t 16)) .unit,
  .g 17 true (some 18) (.fadr 18 (.t 1) 2) .unit,
  .g 17 true (some 19) (.load 19 (.t 18) 1 false) .unit,
  .g 17 true (some 20) (.mv 20 (.t 19)) .unit,
  .g 20 true (some 21) (.fadr 21 (.t 1) 1) .unit,
  .g 20 true (some 22) (.load 22 (.t 21) 1 false) .unit,
  .g 20 true (some 23) (.lenB 23 (.t 22)) .unit,
  .g 20 true (some 24) (.bin 24 false .gtr (.t 23) (.c (.int .i64 0))) .unit,
  .g 17 true (some 25) (.pick 25 (.t 20) (.t 24) (.c (.bool false))) .unit,
  .g 17 true (some 26) (.un 26 .not (.t 25)) .unit,
  .p (.pick 27 (.t 17) (.t 26) (.c (.bool false))) .unit,
  .p (.mv 2 (.t 27)) .unit])
 .ret)),
 28, 1, [.t 2]⟩
theorem m_impl_BoxOk : mH Try.prog 22 [] = some (F_impl_BoxOk.code.x, F_impl_BoxOk.N, F_impl_BoxOk.np, F_impl_BoxOk.res) := by kernel_rfl
noncomputable def T_impl_BoxOk : List UInt8 × List (List UInt8) × Bool → Option (Bool) := evF [fn_impl_NameOk, fn_impl_areShort] F_impl_BoxOk [.agg (.pair .str (.pair (.sl false .str) .bool))] [] [.cell .bool] []
noncomputable def fn_impl_BoxOk : TFn := ⟨22, [.agg (.pair .str (.pair (.sl false .str) .bool))], [], [.cell .bool], [], T_impl_BoxOk⟩
theorem ok_impl_BoxOk : FnOk Try.prog fn_impl_BoxOk := evF_ok mixed (allOk_cons ok_impl_NameOk (allOk_cons ok_impl_areShort allOk_nil)) m_impl_BoxOk (by decide)
def F_impl_Drop : TF := ⟨(.seq (.reg none [.p (.box 2 (.t 0)) .unit,
  .p (.alloc 4 [(.lit (.string (ba []))), (.sl true 1 []), (.lit (.bool false))]) .unit])
 (.seq (.reg none [.p (.load 6 (.t 2) 3 true) .unit,
  .p (.callB 7 n_impl_copyBox [((.t 6), 0)]) .unit,
  .p (.alloc 5 [(.lit (.string (ba []))), (.sl true 1 []), (.lit (.bool false))]) .unit,
  .p (.storeT (.t 5) 7 3) .unit])
 (.seq (.seq (.join ⟨[(1, true), (2, false), (4, false), (5, false), (19, false)], [.cell .str, .box (.pair .str (.pair (.sl false .str) .bool)), .box (.pair .str (.pair (.sl true .str) .bool)), .box (.pair .str (.pair (.sl true .str) .bool)), .cell .bool]⟩ (.reg none [.p (.fadr 8 (.t 2) 2) .unit,
  .p (.load 9 (.t 8) 1 false) .unit,
  .p (.mv 10 (.t 9)) .unit,
  .g 10 false (some 11) (.mv 11 (.t 1)) .unit,
  .g 10 false (some 12) (.lenS 12 (.t 11)) .unit,
  .g 10 false (some 13) (.bin 13 false .gtr (.t 12) (.c (.int .i64 60))) .unit,
  .p (.pick 14 (.t 10) (.c (.bool true)) (.t 13)) .unit,
  .p (.mv 15 (.t 14)) .unit,
  .g 15 false (some 16) (.load 16 (.t 2) 3 true) .unit,
  .g 15 false (some 17) (.callB 17 n_impl_BoxOk [((.t 16), 0)]) .unit,
  .g 15 false (some 18) (.un 18 .not (.t 17)) .unit,
  .p (.pick 19 (.t 15) (.c (.bool true)) (.t 18)) .unit]))
 (.cond (.t 19) (.seq (.reg none [.p (.loadT 20 (.t 5) 3 true) .unit,
  .p (.storeT (.t 4) 20 3) .unit])
 .ret) .skip))
 (.seq (.seq (.reg none [.p (.fadr 21 (.t 5) 1) .unit,
  .p (.load 22 (.t 21) 1 false) .unit,
  .p (.lenB 23 (.t 22)) .unit,
  .p (.bin 24 false .eql (.t 23) (.c (.int .i64 5))) .unit])
 (.cond (.t 24) (.seq (.reg none [.p (.fadr 25 (.t 2) 0) .unit,
  .p (.load 26 (.t 25) 1 false) .unit,
  .p (.bld 27 [(.lit (.string (ba []))), (.sl true 1 []), (.lit (.bool false))] [⟨0, 1, (.t 26)⟩, ⟨2, 1, (.c (.bool true))⟩]) .unit,
  .p (.storeT (.t 4) 27 3) .unit])
 .ret) .skip))
 (.seq (.reg none [.p (.fadr 28 (.t 5) 1) .unit,
  .p (.loadT 29 (.t 28) 1 false) .unit,
  .p (.mv 30 (.t 1)) .unit,
  .p (.bldS 31 1 [(.lit (.string (ba [])))] [⟨0, 1, (.t 30)⟩]) .str,
  .p (.app 32 1 16 (.t 29) (.t 31)) .str,
  .p (.fadr 33 (.t 5) 1) .unit,
  .p (.storeT (.t 33) 32 1) .unit])
 (.seq (.reg none [.p (.loadT 34 (.t 5) 3 true) .unit,
  .p (.storeT (.t 4) 34 3) .unit])
 .ret)))))),
 35, 2, [.c 4 3 true]⟩
theorem m_impl_Drop : mH Try.prog 26 [(1, 3, .t), (3, 0, .t), (3, 1, .t), (5, 3, .t), (6, 1, .t), (6, 6, .t), (7, 0, .t), (7, 1, .t)] = some (F_impl_Drop.code.x, F_impl_Drop.N, F_impl_Drop.np, F_impl_Drop.res) := by kernel_rfl
noncomputable def T_impl_Drop : (List UInt8 × List (List UInt8) × Bool) × List UInt8 → Option (List UInt8 × List (List UInt8) × Bool) := evF [fn_impl_copyBox, fn_impl_BoxOk] F_impl_Drop [.agg (.pair .str (.pair (.sl false .str) .bool)), .cell .str] [] [.agg (.pair .str (.pair (.sl true .str) .bool))] []
noncomputable def fn_impl_Drop : TFn := ⟨26, [.agg (.pair .str (.pair (.sl false .str) .bool)), .cell .str], [], [.agg (.pair .str (.pair (.sl true .str) .bool))], [], T_impl_Drop⟩
theorem ok_impl_Drop : FnOk Try.prog fn_impl_Drop := evF_ok mixed (allOk_cons ok_impl_copyBox (allOk_cons ok_impl_BoxOk allOk_nil)) m_impl_Drop (by decide)
def B_laws_eqStringS_1 : TC := (.seq (.seq (.reg none [.p (.mv 11 (.t 5)) .unit,
  .p (.mv 12 (.t 0)) .unit,
  .p (.lenB 13 (.t 12)) .unit,
  .p (.bin 14 false .lss (.t 11) (.t 13)) .unit])
 (.cond (.t 14) .skip (.exit 0)))
 (.seq (.block 1 (.seq (.reg (some [[], [], [0, 1], [2], [], [], [4, 5], [6], [3, 7]]) [.p (.mv 17 (.t 0)) .unit,
  .p (.mv 18 (.t 5)) .unit,
  .p (.iadr 19 1 (.t 17) (.t 18)) .unit,
  .p (.load 20 (.t 19) 1 false) .unit,
  .p (.mv 21 (.t 1)) .unit,
  .p (.mv 22 (.t 5)) .unit,
  .p (.iadr 23 1 (.t 21) (.t 22)) .unit,
  .p (.load 24 (.t 23) 1 false) .unit,
  .p (.bin 25 false .neq (.t 20) (.t 24)) .unit])
 (.cond (.t 25) (.seq (.reg none [.p (.mv 4 (.c (.bool false))) .unit])
 .ret) .skip)))
 (.reg none [.p (.mv 15 (.t 5)) .unit,
  .p (.bin 16 false .add (.t 15) (.c (.int .i64 1))) .unit,
  .p (.mv 5 (.t 16)) .unit])))
noncomputable def L_laws_eqStringS_1 : Nat → (List (List UInt8)) × (List (List UInt8)) × Int → Option ((Unit) ⊕ (Bool)) := evL [] (finT [.t 4] [] [.cell .bool]) 0 ⟨[(0, true), (1, true), (5, false)], [.cell (.sl false .str), .cell (.sl false .str), .cell (.int .i64)]⟩ ⟨[], []⟩ B_laws_eqStringS_1
def F_laws_eqStringS : TF := ⟨(.seq (.reg none [.p (.mv 4 (.c (.bool false))) .unit])
 (.seq (.seq (.reg none [.p (.mv 6 (.t 0)) .unit,
  .p (.lenB 7 (.t 6)) .unit,
  .p (.mv 8 (.t 1)) .unit,
  .p (.lenB 9 (.t 8)) .unit,
  .p (.bin 10 false .neq (.t 7) (.t 9)) .unit])
 (.cond (.t 10) (.seq (.reg none [.p (.mv 4 (.c (.bool false))) .unit])
 .ret) .skip))
 (.seq (.seq (.reg none [.p (.mv 5 (.c (.int .i64 0))) .unit])
 (.jl 0 ⟨[(0, true), (1, true), (5, false)], [.cell (.sl false .str), .cell (.sl false .str), .cell (.int .i64)]⟩ ⟨[], []⟩ B_laws_eqStringS_1))
 (.seq (.reg none [.p (.mv 4 (.c (.bool true))) .unit])
 .ret)))),
 26, 2, [.t 4]⟩
theorem m_laws_eqStringS : mH Try.prog 45 [] = some (F_laws_eqStringS.code.x, F_laws_eqStringS.N, F_laws_eqStringS.np, F_laws_eqStringS.res) := by kernel_rfl
noncomputable def T_laws_eqStringS : (List (List UInt8)) × List (List UInt8) → Option (Bool) := evF [] F_laws_eqStringS [.cell (.sl false .str), .cell (.sl false .str)] [] [.cell .bool] []
noncomputable def fn_laws_eqStringS : TFn := ⟨45, [.cell (.sl false .str), .cell (.sl false .str)], [], [.cell .bool], [], T_laws_eqStringS⟩
theorem ok_laws_eqStringS : FnOk Try.prog fn_laws_eqStringS := evF_ok mixed allOk_nil m_laws_eqStringS (by decide)
def F_laws_eqBox : TF := ⟨(.seq (.reg none [.p (.box 2 (.t 0)) .unit,
  .p (.box 3 (.t 1)) .unit,
  .p (.mv 4 (.c (.bool false))) .unit])
 (.seq (.seq (.reg none [.p (.fadr 5 (.t 2) 0) .unit,
  .p (.load 6 (.t 5) 1 false) .unit,
  .p (.fadr 7 (.t 3) 0) .unit,
  .p (.load 8 (.t 7) 1 false) .unit,
  .p (.bin 9 false .neq (.t 6) (.t 8)) .unit])
 (.cond (.t 9) (.seq (.reg none [.p (.mv 4 (.c (.bool false))) .unit])
 .ret) .skip))
 (.seq (.seq (.reg none [.p (.fadr 10 (.t 2) 1) .unit,
  .p (.load 11 (.t 10) 1 false) .unit,
  .p (.fadr 12 (.t 3) 1) .unit,
  .p (.load 13 (.t 12) 1 false) .unit,
  .p (.callB 14 n_laws_eqStringS [((.t 11), 0), ((.t 13), 0)]) .unit,
  .p (.un 15 .not (.t 14)) .unit])
 (.cond (.t 15) (.seq (.reg none [.p (.mv 4 (.c (.bool false))) .unit])
 .ret) .skip))
 (.seq (.seq (.reg none [.p (.fadr 16 (.t 2) 2) .unit,
  .p (.load 17 (.t 16) 1 false) .unit,
  .p (.fadr 18 (.t 3) 2) .unit,
  .p (.load 19 (.t 18) 1 false) .unit,
  .p (.bin 20 true .neq (.t 17) (.t 19)) .unit])
 (.cond (.t 20) (.seq (.reg none [.p (.mv 4 (.c (.bool false))) .unit])
 .ret) .skip))
 (.seq (.reg none [.p (.mv 4 (.c (.bool true))) .unit])
 .ret))))),
 21, 2, [.t 4]⟩
theorem m_laws_eqBox : mH Try.prog 23 [] = some (F_laws_eqBox.code.x, F_laws_eqBox.N, F_laws_eqBox.np, F_laws_eqBox.res) := by kernel_rfl
noncomputable def T_laws_eqBox : (List UInt8 × List (List UInt8) × Bool) × List UInt8 × List (List UInt8) × Bool → Option (Bool) := evF [fn_laws_eqStringS] F_laws_eqBox [.agg (.pair .str (.pair (.sl false .str) .bool)), .agg (.pair .str (.pair (.sl false .str) .bool))] [] [.cell .bool] []
noncomputable def fn_laws_eqBox : TFn := ⟨23, [.agg (.pair .str (.pair (.sl false .str) .bool)), .agg (.pair .str (.pair (.sl false .str) .bool))], [], [.cell .bool], [], T_laws_eqBox⟩
theorem ok_laws_eqBox : FnOk Try.prog fn_laws_eqBox := evF_ok mixed (allOk_cons ok_laws_eqStringS allOk_nil) m_laws_eqBox (by decide)
def B_laws_markText_1 : TC := (.seq (.seq (.reg none [.p (.mv 6 (.t 0)) .unit,
  .p (.bin 7 false .gtr (.t 6) (.c (.int .i64 0))) .unit])
 (.cond (.t 7) .skip (.exit 0)))
 (.block 1 (.seq (.reg none [.p (.mv 8 (.t 0)) .unit,
  .p (.bin 9 false .rem (.t 8) (.c (.int .i64 10))) .unit,
  .p (.bin 10 false .add (.c (.int .i64 48)) (.t 9)) .unit,
  .p (.cvi 11 .u8 .i64 (.t 10)) .unit,
  .p (.bldS 12 1 [(.lit (.int .u8 0))] [⟨0, 1, (.t 11)⟩]) (.int .u8),
  .p (.b2s 13 (.t 12)) .unit,
  .p (.mv 14 (.t 3)) .unit,
  .p (.bin 15 false .add (.t 13) (.t 14)) .unit,
  .p (.mv 3 (.t 15)) .unit])
 (.reg none [.p (.mv 16 (.t 0)) .unit,
  .p (.bin 17 false .quo (.t 16) (.c (.int .i64 10))) .unit,
  .p (.mv 0 (.t 17)) .unit]))))
noncomputable def L_laws_markText_1 : Nat → (Int) × List UInt8 → Option ((List UInt8) ⊕ (List UInt8)) := evL [] (finT [.t 2] [] [.cell .str]) 0 ⟨[(0, false), (3, false)], [.cell (.int .i64), .cell .str]⟩ ⟨[(3, false)], [.cell .str]⟩ B_laws_markText_1
def F_laws_markText : TF := ⟨(.seq (.reg none [.p (.mv 2 (.c (.string (ba [])))) .unit])
 (.seq (.seq (.reg none [.p (.mv 4 (.t 0)) .unit,
  .p (.bin 5 false .leq (.t 4) (.c (.int .i64 0))) .unit])
 (.cond (.t 5) (.seq (.reg none [.p (.mv 2 (.c (.string (ba [109, 48])))) .unit])
 .ret) .skip))
 (.seq (.reg none [.p (.mv 3 (.c (.string (ba [])))) .unit])
 (.seq (.jl 0 ⟨[(0, false), (3, false)], [.cell (.int .i64), .cell .str]⟩ ⟨[(3, false)], [.cell .str]⟩ B_laws_markText_1)
 (.seq (.reg none [.p (.mv 18 (.t 3)) .unit,
  .p (.bin 19 false .add (.c (.string (ba [109]))) (.t 18)) .unit,
  .p (.mv 2 (.t 19)) .unit])
 .ret))))),
 20, 1, [.t 2]⟩
theorem m_laws_markText : mH Try.prog 104 [] = some (F_laws_markText.code.x, F_laws_markText.N, F_laws_markText.np, F_laws_markText.res) := by kernel_rfl
noncomputable def T_laws_markText : Int → Option (List UInt8) := evF [] F_laws_markText [.cell (.int .i64)] [] [.cell .str] []
noncomputable def fn_laws_markText : TFn := ⟨104, [.cell (.int .i64)], [], [.cell .str], [], T_laws_markText⟩
theorem ok_laws_markText : FnOk Try.prog fn_laws_markText := evF_ok mixed allOk_nil m_laws_markText (by decide)
def B_laws_markStringS_1 : TC := (.seq (.seq (.reg none [.p (.mv 6 (.t 5)) .unit,
  .p (.mvA 7 0) .unit,
  .p (.lenB 8 (.t 7)) .unit,
  .p (.bin 9 false .lss (.t 6) (.t 8)) .unit])
 (.cond (.t 9) .skip (.exit 0)))
 (.seq (.block 1 (.seq (.reg none [.p (.mvA 12 0) .unit,
  .p (.mv 13 (.t 5)) .unit,
  .p (.mv 14 (.t 1)) .unit,
  .p (.callB 15 n_laws_markText [((.t 14), 0)]) .unit,
  .p (.iadr 16 1 (.t 12) (.t 13)) .unit,
  .p (.store (.t 16) (.t 15) 1) .unit])
 (.reg none [.p (.mv 17 (.t 1)) .unit,
  .p (.bin 18 false .add (.t 17) (.c (.int .i64 1))) .unit,
  .p (.mv 1 (.t 18)) .unit])))
 (.reg none [.p (.mv 10 (.t 5)) .unit,
  .p (.bin 11 false .add (.t 10) (.c (.int .i64 1))) .unit,
  .p (.mv 5 (.t 11)) .unit])))
noncomputable def L_laws_markStringS_1 : Nat → (List (List UInt8)) × (Int) × Int → Option (((List (List UInt8)) × Int) ⊕ ((Int) × List (List UInt8))) := evL [fn_laws_markText] (finT [.t 4] [0] [.cell (.int .i64), .cell (.sl true .str)]) 0 ⟨[(0, true), (1, false), (5, false)], [.cell (.sl true .str), .cell (.int .i64), .cell (.int .i64)]⟩ ⟨[(0, true), (1, false)], [.cell (.sl true .str), .cell (.int .i64)]⟩ B_laws_markStringS_1
def F_laws_markStringS : TF := ⟨(.seq (.reg none [.p (.mv 4 (.c (.int .i64 0))) .unit])
 (.seq (.seq (.reg none [.p (.mv 5 (.c (.int .i64 0))) .unit])
 (.jl 0 ⟨[(0, true), (1, false), (5, false)], [.cell (.sl true .str), .cell (.int .i64), .cell (.int .i64)]⟩ ⟨[(0, true), (1, false)], [.cell (.sl true .str), .cell (.int .i64)]⟩ B_laws_markStringS_1))
 (.seq (.reg none [.p (.mv 19 (.t 1)) .unit,
  .p (.mv 4 (.t 19)) .unit])
 .ret))),
 20, 2, [.t 4]⟩
theorem m_laws_markStringS : mH Try.prog 48 [(2, 1, .v), (4, 0, .v)] = some (F_laws_markStringS.code.x, F_laws_markStringS.N, F_laws_markStringS.np, F_laws_markStringS.res) := by kernel_rfl
noncomputable def T_laws_markStringS : (List (List UInt8)) × Int → Option ((Int) × List (List UInt8)) := evF [fn_laws_markText] F_laws_markStringS [.cell (.sl true .str), .cell (.int .i64)] [0] [.cell (.int .i64)] [.cell (.sl true .str)]
noncomputable def fn_laws_markStringS : TFn := ⟨48, [.cell (.sl true .str), .cell (.int .i64)], [0], [.cell (.int .i64)], [.cell (.sl true .str)], T_laws_markStringS⟩
theorem ok_laws_markStringS : FnOk Try.prog fn_laws_markStringS := evF_ok mixed (allOk_cons ok_laws_markText allOk_nil) m_laws_markStringS (by decide)
def F_laws_markBox : TF := ⟨(.seq (.reg none [.p (.boxL 2 0) .unit,
  .p (.mv 4 (.c (.int .i64 0))) .unit])
 (.seq (.reg none [.p (.fadr 5 (.t 2) 1) .unit,
  .p (.load 6 (.t 5) 1 false) .unit,
  .p (.mv 7 (.t 1)) .unit,
  .p (.callM 8 n_laws_markStringS [] (.aggS (.t 6) 2 0) [((.t 7), 0)]) .unit,
  .p (.mv 1 (.t 8)) .unit])
 (.seq (.reg none [.p (.mv 9 (.t 1)) .unit,
  .p (.mv 4 (.t 9)) .unit])
 .ret))),
 10, 2, [.t 4]⟩
theorem m_laws_markBox : mH Try.prog 51 [(0, 0, .v), (1, 3, (.gs 0 2 0))] = some (F_laws_markBox.code.x, F_laws_markBox.N, F_laws_markBox.np, F_laws_markBox.res) := by kernel_rfl
noncomputable def T_laws_markBox : (List UInt8 × List (List UInt8) × Bool) × Int → Option ((Int) × List UInt8 × List (List UInt8) × Bool) := evF [fn_laws_markStringS] F_laws_markBox [.agg (.pair .str (.pair (.sl true .str) .bool)), .cell (.int .i64)] [0] [.cell (.int .i64)] [.agg (.pair .str (.pair (.sl true .str) .bool))]
noncomputable def fn_laws_markBox : TFn := ⟨51, [.agg (.pair .str (.pair (.sl true .str) .bool)), .cell (.int .i64)], [0], [.cell (.int .i64)], [.agg (.pair .str (.pair (.sl true .str) .bool))], T_laws_markBox⟩
theorem ok_laws_markBox : FnOk Try.prog fn_laws_markBox := evF_ok mixed (allOk_cons ok_laws_markStringS allOk_nil) m_laws_markBox (by decide)
def B_laws_heldStringS_1 : TC := (.seq (.seq (.reg none [.p (.mv 6 (.t 5)) .unit,
  .p (.mv 7 (.t 0)) .unit,
  .p (.lenB 8 (.t 7)) .unit,
  .p (.bin 9 false .lss (.t 6) (.t 8)) .unit])
 (.cond (.t 9) .skip (.exit 0)))
 (.seq (.block 1 (.seq (.seq (.reg (some [[], [], [0, 1], [2], [], [4], [3, 5]]) [.p (.mv 12 (.t 0)) .unit,
  .p (.mv 13 (.t 5)) .unit,
  .p (.iadr 14 1 (.t 12) (.t 13)) .unit,
  .p (.load 15 (.t 14) 1 false) .unit,
  .p (.mv 16 (.t 1)) .unit,
  .p (.callB 17 n_laws_markText [((.t 16), 0)]) .unit,
  .p (.bin 18 false .neq (.t 15) (.t 17)) .unit])
 (.cond (.t 18) (.seq (.reg none [.p (.mv 4 (.c (.int .i64 (-1)))) .unit])
 .ret) .skip))
 (.reg none [.p (.mv 19 (.t 1)) .unit,
  .p (.bin 20 false .add (.t 19) (.c (.int .i64 1))) .unit,
  .p (.mv 1 (.t 20)) .unit])))
 (.reg none [.p (.mv 10 (.t 5)) .unit,
  .p (.bin 11 false .add (.t 10) (.c (.int .i64 1))) .unit,
  .p (.mv 5 (.t 11)) .unit])))
noncomputable def L_laws_heldStringS_1 : Nat → (List (List UInt8)) × (Int) × Int → Option ((Int) ⊕ (Int)) := evL [fn_laws_markText] (finT [.t 4] [] [.cell (.int .i64)]) 0 ⟨[(0, true), (1, false), (5, false)], [.cell (.sl false .str), .cell (.int .i64), .cell (.int .i64)]⟩ ⟨[(1, false)], [.cell (.int .i64)]⟩ B_laws_heldStringS_1
def F_laws_heldStringS : TF := ⟨(.seq (.reg none [.p (.mv 4 (.c (.int .i64 0))) .unit])
 (.seq (.seq (.reg none [.p (.mv 5 (.c (.int .i64 0))) .unit])
 (.jl 0 ⟨[(0, true), (1, false), (5, false)], [.cell (.sl false .str), .cell (.int .i64), .cell (.int .i64)]⟩ ⟨[(1, false)], [.cell (.int .i64)]⟩ B_laws_heldStringS_1))
 (.seq (.reg none [.p (.mv 21 (.t 1)) .unit,
  .p (.mv 4 (.t 21)) .unit])
 .ret))),
 22, 2, [.t 4]⟩
theorem m_laws_heldStringS : mH Try.prog 49 [] = some (F_laws_heldStringS.code.x, F_laws_heldStringS.N, F_laws_heldStringS.np, F_laws_heldStringS.res) := by kernel_rfl
noncomputable def T_laws_heldStringS : (List (List UInt8)) × Int → Option (Int) := evF [fn_laws_markText] F_laws_heldStringS [.cell (.sl false .str), .cell (.int .i64)] [] [.cell (.int .i64)] []
noncomputable def fn_laws_heldStringS : TFn := ⟨49, [.cell (.sl false .str), .cell (.int .i64)], [], [.cell (.int .i64)], [], T_laws_heldStringS⟩
theorem ok_laws_heldStringS : FnOk Try.prog fn_laws_heldStringS := evF_ok mixed (allOk_cons ok_laws_markText allOk_nil) m_laws_heldStringS (by decide)
def F_laws_heldBox : TF := ⟨(.seq (.reg none [.p (.box 2 (.t 0)) .unit,
  .p (.mv 4 (.c (.int .i64 0))) .unit])
 (.seq (.reg none [.p (.fadr 5 (.t 2) 1) .unit,
  .p (.load 6 (.t 5) 1 false) .unit,
  .p (.mv 7 (.t 1)) .unit,
  .p (.callB 8 n_laws_heldStringS [((.t 6), 0), ((.t 7), 0)]) .unit,
  .p (.mv 1 (.t 8)) .unit])
 (.seq (.seq (.reg none [.p (.mv 9 (.t 1)) .unit,
  .p (.bin 10 false .lss (.t 9) (.c (.int .i64 0))) .unit])
 (.cond (.t 10) (.seq (.reg none [.p (.mv 4 (.c (.int .i64 (-1)))) .unit])
 .ret) .skip))
 (.seq (.reg none [.p (.mv 11 (.t 1)) .unit,
  .p (.mv 4 (.t 11)) .unit])
 .ret)))),
 12, 2, [.t 4]⟩
theorem m_laws_heldBox : mH Try.prog 52 [] = some (F_laws_heldBox.code.x, F_laws_heldBox.N, F_laws_heldBox.np, F_laws_heldBox.res) := by kernel_rfl
noncomputable def T_laws_heldBox : (List UInt8 × List (List UInt8) × Bool) × Int → Option (Int) := evF [fn_laws_heldStringS] F_laws_heldBox [.agg (.pair .str (.pair (.sl false .str) .bool)), .cell (.int .i64)] [] [.cell (.int .i64)] []
noncomputable def fn_laws_heldBox : TFn := ⟨52, [.agg (.pair .str (.pair (.sl false .str) .bool)), .cell (.int .i64)], [], [.cell (.int .i64)], [], T_laws_heldBox⟩
theorem ok_laws_heldBox : FnOk Try.prog fn_laws_heldBox := evF_ok mixed (allOk_cons ok_laws_heldStringS allOk_nil) m_laws_heldBox (by decide)
def F_laws_FnExactDrop : TF := ⟨(.seq (.reg none [.p (.box 2 (.t 0)) .unit,
  .p (.mv 4 (.c (.bool false))) .unit])
 (.seq (.seq (.reg none [.p (.mv 13 (.t 1)) .unit,
  .p (.lenS 14 (.t 13)) .unit,
  .p (.bin 15 false .gtr (.t 14) (.c (.int .i64 1048576))) .unit])
 (.cond (.t 15) (.seq (.reg none [.p (.mv 4 (.c (.bool true))) .unit])
 .ret) .skip))
 (.seq (.reg none [.p (.mv 5 (.c (.int .i64 1048576))) .unit])
 (.seq (.reg none [.p (.load 16 (.t 2) 3 true) .unit,
  .p (.mv 17 (.t 5)) .unit,
  .p (.callB 18 n_laws_szBox [((.t 16), 0), ((.t 17), 0)]) .unit,
  .p (.mv 5 (.t 18)) .unit])
 (.seq (.seq (.reg none [.p (.mv 19 (.t 5)) .unit,
  .p (.bin 20 false .lss (.t 19) (.c (.int .i64 0))) .unit])
 (.cond (.t 20) (.seq (.reg none [.p (.mv 4 (.c (.bool true))) .unit])
 .ret) .skip))
 (.seq (.reg none [.p (.load 21 (.t 2) 3 true) .unit,
  .p (.callB 22 n_laws_toBox [((.t 21), 0)]) .unit,
  .p (.mv 23 (.t 1)) .unit,
  .p (.callB 24 n_spec_Drop [((.t 22), 0), ((.t 23), 0)]) .unit,
  .p (.alloc 6 [(.lit (.string (ba []))), (.sl true 1 []), (.lit (.bool false))]) .unit,
  .p (.storeT (.t 6) 24 3) .unit])
 (.seq (.reg none [.p (.load 25 (.t 2) 3 true) .unit,
  .p (.callB 26 n_laws_toBox [((.t 25), 0)]) .unit,
  .p (.alloc 7 [(.lit (.string (ba []))), (.sl true 1 []), (.lit (.bool false))]) .unit,
  .p (.storeT (.t 7) 26 3) .unit])
 (.seq (.reg none [.p (.load 27 (.t 7) 3 true) .unit,
  .p (.mv 28 (.t 1)) .unit,
  .p (.callB 29 n_impl_Drop [((.t 27), 0), ((.t 28), 0)]) .unit,
  .p (.alloc 8 [(.lit (.string (ba []))), (.sl true 1 []), (.lit (.bool false))]) .unit,
  .p (.storeT (.t 8) 29 3) .unit])
 (.seq (.seq (.reg none [.p (.load 30 (.t 8) 3 true) .unit,
  .p (.load 31 (.t 6) 3 true) .unit,
  .p (.callB 32 n_laws_eqBox [((.t 30), 0), ((.t 31), 0)]) .unit,
  .p (.un 33 .not (.t 32)) .unit])
 (.cond (.t 33) (.seq (.reg none [.p (.mv 4 (.c (.bool false))) .unit])
 .ret) .skip))
 (.seq (.seq (.reg (some [[], [], [1], [0, 2, 2], [3]]) [.p (.load 34 (.t 7) 3 true) .unit,
  .p (.load 35 (.t 2) 3 true) .unit,
  .p (.callB 36 n_laws_toBox [((.t 35), 0)]) .unit,
  .p (.callB 37 n_laws_eqBox [((.t 34), 0), ((.t 36), 0)]) .unit,
  .p (.un 38 .not (.t 37)) .unit])
 (.cond (.t 38) (.seq (.reg none [.p (.mv 4 (.c (.bool false))) .unit])
 .ret) .skip))
 (.seq (.reg none [.p (.mv 9 (.c (.int .i64 1))) .unit])
 (.seq (.reg none [.p (.load 39 (.t 7) 3 true) .unit,
  .p (.mv 40 (.t 9)) .unit,
  .p (.callM 41 n_laws_markBox [] (.agg (.t 39) 7) [((.t 40), 0)]) .unit,
  .p (.mv 9 (.t 41)) .unit])
 (.seq (.seq (.join ⟨[(1, true), (2, false), (6, false), (8, false), (49, false)], [.cell .str, .box (.pair .str (.pair (.sl false .str) .bool)), .box (.pair .str (.pair (.sl true .str) .bool)), .box (.pair .str (.pair (.sl true .str) .bool)), .cell .bool]⟩ (.reg none [.p (.mv 42 (.t 9)) .unit,
  .p (.bin 43 false .lss (.t 42) (.c (.int .i64 0))) .unit,
  .p (.mv 44 (.t 43)) .unit,
  .g 44 false (some 45) (.load 45 (.t 8) 3 true) .unit,
  .g 44 false (some 46) (.load 46 (.t 6) 3 true) .unit,
  .g 44 false (some 47) (.callB 47 n_laws_eqBox [((.t 45), 0), ((.t 46), 0)]) .unit,
  .g 44 false (some 48) (.un 48 .not (.t 47)) .unit,
  .p (.pick 49 (.t 44) (.c (.bool true)) (.t 48)) .unit]))
 (.cond (.t 49) (.seq (.reg none [.p (.mv 4 (.c (.bool false))) .unit])
 .ret) .skip))
 (.seq (.reg none [.p (.mv 10 (.c (.int .i64 1))) .unit])
 (.seq (.reg none [.p (.load 50 (.t 8) 3 true) .unit,
  .p (.mv 51 (.t 10)) .unit,
  .p (.callM 52 n_laws_markBox [] (.agg (.t 50) 8) [((.t 51), 0)]) .unit,
  .p (.mv 10 (.t 52)) .unit])
 (.seq (.reg none [.p (.mv 11 (.c (.int .i64 1))) .unit])
 (.seq (.reg none [.p (.load 53 (.t 8) 3 true) .unit,
  .p (.mv 54 (.t 11)) .unit,
  .p (.callB 55 n_laws_heldBox [((.t 53), 0), ((.t 54), 0)]) .unit,
  .p (.mv 11 (.t 55)) .unit])
 (.seq (.seq (.reg none [.p (.mv 56 (.t 11)) .unit,
  .p (.bin 57 false .lss (.t 56) (.c (.int .i64 0))) .unit])
 (.cond (.t 57) (.seq (.reg none [.p (.mv 4 (.c (.bool false))) .unit])
 .ret) .skip))
 (.seq (.seq (.reg none [.p (.mv 58 (.t 11)) .unit,
  .p (.mv 59 (.t 10)) .unit,
  .p (.bin 60 false .neq (.t 58) (.t 59)) .unit])
 (.cond (.t 60) (.seq (.reg none [.p (.mv 4 (.c (.bool false))) .unit])
 .ret) .skip))
 (.seq (.reg none [.p (.load 61 (.t 2) 3 true) .unit,
  .p (.callB 62 n_laws_toBox [((.t 61), 0)]) .unit,
  .p (.mv 63 (.t 1)) .unit,
  .p (.callB 64 n_impl_Drop [((.t 62), 0), ((.t 63), 0)]) .unit,
  .p (.alloc 12 [(.lit (.string (ba []))), (.sl true 1 []), (.lit (.bool false))]) .unit,
  .p (.storeT (.t 12) 64 3) .unit])
 (.seq (.seq (.reg none [.p (.load 65 (.t 12) 3 true) .unit,
  .p (.load 66 (.t 6) 3 true) .unit,
  .p (.callB 67 n_laws_eqBox [((.t 65), 0), ((.t 66), 0)]) .unit,
  .p (.un 68 .not (.t 67)) .unit])
 (.cond (.t 68) (.seq (.reg none [.p (.mv 4 (.c (.bool false))) .unit])
 .ret) .skip))
 (.seq (.reg none [.p (.mv 11 (.c (.int .i64 1))) .unit])
 (.seq (.reg none [.p (.load 69 (.t 8) 3 true) .unit,
  .p (.mv 70 (.t 11)) .unit,
  .p (.callB 71 n_laws_heldBox [((.t 69), 0), ((.t 70), 0)]) .unit,
  .p (.mv 11 (.t 71)) .unit])
 (.seq (.seq (.reg none [.p (.mv 72 (.t 11)) .unit,
  .p (.bin 73 false .lss (.t 72) (.c (.int .i64 0))) .unit])
 (.cond (.t 73) (.seq (.reg none [.p (.mv 4 (.c (.bool false))) .unit])
 .ret) .skip))
 (.seq (.seq (.reg none [.p (.mv 74 (.t 11)) .unit,
  .p (.mv 75 (.t 10)) .unit,
  .p (.bin 76 false .neq (.t 74) (.t 75)) .unit])
 (.cond (.t 76) (.seq (.reg none [.p (.mv 4 (.c (.bool false))) .unit])
 .ret) .skip))
 (.seq (.reg none [.p (.mv 4 (.c (.bool true))) .unit])
 .ret)))))))))))))))))))))))))),
 77, 2, [.t 4]⟩
theorem m_laws_FnExactDrop : mH Try.prog 10 [(7, 5, .t), (8, 3, .t), (9, 4, .t), (15, 2, (.g 0 7)), (19, 2, (.g 0 8)), (26, 5, .t)] = some (F_laws_FnExactDrop.code.x, F_laws_FnExactDrop.N, F_laws_FnExactDrop.np, F_laws_FnExactDrop.res) := by kernel_rfl
noncomputable def T_laws_FnExactDrop : (List UInt8 × List (List UInt8) × Bool) × List UInt8 → Option (Bool) := evF [fn_laws_szBox, fn_laws_toBox, fn_spec_Drop, fn_impl_Drop, fn_laws_eqBox, fn_laws_markBox, fn_laws_heldBox] F_laws_FnExactDrop [.agg (.pair .str (.pair (.sl false .str) .bool)), .cell .str] [] [.cell .bool] []
noncomputable def fn_laws_FnExactDrop : TFn := ⟨10, [.agg (.pair .str (.pair (.sl false .str) .bool)), .cell .str], [], [.cell .bool], [], T_laws_FnExactDrop⟩
theorem ok_laws_FnExactDrop : FnOk Try.prog fn_laws_FnExactDrop := evF_ok mixed (allOk_cons ok_laws_szBox (allOk_cons ok_laws_toBox (allOk_cons ok_spec_Drop (allOk_cons ok_impl_Drop (allOk_cons ok_laws_eqBox (allOk_cons ok_laws_markBox (allOk_cons ok_laws_heldBox allOk_nil))))))) m_laws_FnExactDrop (by decide)

end Xs
end Go.Proofs.Ytfepabohinkpgaa
