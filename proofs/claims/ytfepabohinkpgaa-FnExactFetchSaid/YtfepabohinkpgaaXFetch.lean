/- The typed code of the functions, printed by program. -/
import Derived.Test.YtfepabohinkpgaaT7
import Derived.Test.YtfepabohinkpgaaProg
import Derived.KernelRfl
import Derived.Test.YtfepabohinkpgaaDel
namespace Go.Proofs.Ytfepabohinkpgaa
open Go Vm
namespace Xs
theorem mixed : Try.prog.follows .mixedOrders = true := by kernel_rfl
abbrev n_laws_FnExactFetch : Nat := 11
abbrev n_laws_szBox : Nat := 19
abbrev n_spec_BoxOk : Nat := 20
abbrev n_laws_toBox : Nat := 21
abbrev n_impl_BoxOk : Nat := 22
abbrev n_laws_eqBox : Nat := 23
abbrev n_impl_Fetch : Nat := 27
abbrev n_laws_eqStringS : Nat := 45
abbrev n_laws_markStringS : Nat := 48
abbrev n_laws_heldStringS : Nat := 49
abbrev n_laws_markBox : Nat := 51
abbrev n_laws_heldBox : Nat := 52
abbrev n_spec_Fetch : Nat := 53
abbrev n_spec_l01In : Nat := 67
abbrev n_impl_inRange : Nat := 71
abbrev n_laws_szStringS : Nat := 73
abbrev n_spec_NameOk : Nat := 74
abbrev n_laws_toStringS : Nat := 75
abbrev n_impl_NameOk : Nat := 76
abbrev n_impl_areShort : Nat := 77
abbrev n_impl_copyBox : Nat := 81
abbrev n_slices_Delete___string_string_ : Nat := 82
abbrev n_slices_Clone___string_string_ : Nat := 101
abbrev n_laws_markText : Nat := 104
abbrev n_spec_l18Copy : Nat := 105
def B_laws_szStringS_1 : TC := (.seq (.seq (.reg none [.p (.mv 12 (.t 5)) .unit,
  .p (.mv 13 (.t 0)) .unit,
  .p (.lenB 14 (.t 13)) .unit,
  .p (.bin 15 false .lss (.t 12) (.t 14)) .unit])
 (.cond (.t 15) .skip (.exit 0)))
 (.seq (.block 1 (.seq (.reg none [.p (.mv 18 (.t 1)) .unit,
  .p (.mv 19 (.t 0)) .unit,
  .p (.mv 20 (.t 5)) .unit,
  .p (.iadr 21 1 (.t 19) (.t 20)) .unit,
  .p (.load 22 (.t 21) 1 false) .unit,
  .p (.lenS 23 (.t 22)) .unit,
  .p (.bin 24 false .sub (.t 18) (.t 23)) .unit,
  .p (.mv 1 (.t 24)) .unit])
 (.seq (.reg none [.p (.mv 25 (.t 1)) .unit,
  .p (.bin 26 false .lss (.t 25) (.c (.int .i64 0))) .unit])
 (.cond (.t 26) (.seq (.reg none [.p (.mv 4 (.c (.int .i64 (-1)))) .unit])
 .ret) .skip))))
 (.reg none [.p (.mv 16 (.t 5)) .unit,
  .p (.bin 17 false .add (.t 16) (.c (.int .i64 1))) .unit,
  .p (.mv 5 (.t 17)) .unit])))
noncomputable def L_laws_szStringS_1 : Nat → (List (List UInt8)) × (Int) × Int → Option ((Int) ⊕ (Int)) := evL [] (finT [.t 4] [] [.cell (.int .i64)]) 0 ⟨[(0, true), (1, false), (5, false)], [.cell (.sl false .str), .cell (.int .i64), .cell (.int .i64)]⟩ ⟨[(1, false)], [.cell (.int .i64)]⟩ B_laws_szStringS_1
def F_laws_szStringS : TF := ⟨(.seq (.reg none [.p (.mv 4 (.c (.int .i64 0))) .unit])
 (.seq (.reg none [.p (.mv 6 (.t 1)) .unit,
  .p (.mv 7 (.t 0)) .unit,
  .p (.lenB 8 (.t 7)) .unit,
  .p (.bin 9 false .sub (.t 6) (.t 8)) .unit,
  .p (.mv 1 (.t 9)) .unit])
 (.seq (.seq (.reg none [.p (.mv 10 (.t 1)) .unit,
  .p (.bin 11 false .lss (.t 10) (.c (.int .i64 0))) .unit])
 (.cond (.t 11) (.seq (.reg none [.p (.mv 4 (.c (.int .i64 (-1)))) .unit])
 .ret) .skip))
 (.seq (.seq (.reg none [.p (.mv 5 (.c (.int .i64 0))) .unit])
 (.jl 0 ⟨[(0, true), (1, false), (5, false)], [.cell (.sl false .str), .cell (.int .i64), .cell (.int .i64)]⟩ ⟨[(1, false)], [.cell (.int .i64)]⟩ B_laws_szStringS_1))
 (.seq (.reg none [.p (.mv 27 (.t 1)) .unit,
  .p (.mv 4 (.t 27)) .unit])
 .ret))))),
 28, 2, [.t 4]⟩
theorem m_laws_szStringS : mH Try.prog 73 [] = some (F_laws_szStringS.code.x, F_laws_szStringS.N, F_laws_szStringS.np, F_laws_szStringS.res) := by kernel_rfl
noncomputable def T_laws_szStringS : (List (List UInt8)) × Int → Option (Int) := evF [] F_laws_szStringS [.cell (.sl false .str), .cell (.int .i64)] [] [.cell (.int .i64)] []
noncomputable def fn_laws_szStringS : TFn := ⟨73, [.cell (.sl false .str), .cell (.int .i64)], [], [.cell (.int .i64)], [], T_laws_szStringS⟩
theorem ok_laws_szStringS : FnOk Try.prog fn_laws_szStringS := evF_ok mixed allOk_nil m_laws_szStringS (by decide)
def F_laws_szBox : TF := ⟨(.seq (.reg none [.p (.box 2 (.t 0)) .unit,
  .p (.mv 4 (.c (.int .i64 0))) .unit])
 (.seq (.reg none [.p (.mv 5 (.t 1)) .unit,
  .p (.fadr 6 (.t 2) 0) .unit,
  .p (.load 7 (.t 6) 1 false) .unit,
  .p (.lenS 8 (.t 7)) .unit,
  .p (.bin 9 false .sub (.t 5) (.t 8)) .unit,
  .p (.mv 1 (.t 9)) .unit])
 (.seq (.seq (.reg none [.p (.mv 10 (.t 1)) .unit,
  .p (.bin 11 false .lss (.t 10) (.c (.int .i64 0))) .unit])
 (.cond (.t 11) (.seq (.reg none [.p (.mv 4 (.c (.int .i64 (-1)))) .unit])
 .ret) .skip))
 (.seq (.reg none [.p (.fadr 12 (.t 2) 1) .unit,
  .p (.load 13 (.t 12) 1 false) .unit,
  .p (.mv 14 (.t 1)) .unit,
  .p (.callB 15 n_laws_szStringS [((.t 13), 0), ((.t 14), 0)]) .unit,
  .p (.mv 1 (.t 15)) .unit])
 (.seq (.seq (.reg none [.p (.mv 16 (.t 1)) .unit,
  .p (.bin 17 false .lss (.t 16) (.c (.int .i64 0))) .unit])
 (.cond (.t 17) (.seq (.reg none [.p (.mv 4 (.c (.int .i64 (-1)))) .unit])
 .ret) .skip))
 (.seq (.reg none [.p (.mv 18 (.t 1)) .unit,
  .p (.mv 4 (.t 18)) .unit])
 .ret)))))),
 19, 2, [.t 4]⟩
theorem m_laws_szBox : mH Try.prog 19 [] = some (F_laws_szBox.code.x, F_laws_szBox.N, F_laws_szBox.np, F_laws_szBox.res) := by kernel_rfl
noncomputable def T_laws_szBox : (List UInt8 × List (List UInt8) × Bool) × Int → Option (Int) := evF [fn_laws_szStringS] F_laws_szBox [.agg (.pair .str (.pair (.sl false .str) .bool)), .cell (.int .i64)] [] [.cell (.int .i64)] []
noncomputable def fn_laws_szBox : TFn := ⟨19, [.agg (.pair .str (.pair (.sl false .str) .bool)), .cell (.int .i64)], [], [.cell (.int .i64)], [], T_laws_szBox⟩
theorem ok_laws_szBox : FnOk Try.prog fn_laws_szBox := evF_ok mixed (allOk_cons ok_laws_szStringS allOk_nil) m_laws_szBox (by decide)
def B_laws_toStringS_1 : TC := (.seq (.seq (.reg none [.p (.mv 8 (.t 4)) .unit,
  .p (.mv 9 (.t 0)) .unit,
  .p (.lenB 10 (.t 9)) .unit,
  .p (.bin 11 false .lss (.t 8) (.t 10)) .unit])
 (.cond (.t 11) .skip (.exit 0)))
 (.seq (.block 1 (.reg none [.p (.mvA 14 3) .unit,
  .p (.mv 15 (.t 4)) .unit,
  .p (.mv 16 (.t 0)) .unit,
  .p (.mv 17 (.t 4)) .unit,
  .p (.iadr 18 1 (.t 16) (.t 17)) .unit,
  .p (.load 19 (.t 18) 1 false) .unit,
  .p (.iadr 20 1 (.t 14) (.t 15)) .unit,
  .p (.store (.t 20) (.t 19) 1) .unit]))
 (.reg none [.p (.mv 12 (.t 4)) .unit,
  .p (.bin 13 false .add (.t 12) (.c (.int .i64 1))) .unit,
  .p (.mv 4 (.t 13)) .unit])))
noncomputable def L_laws_toStringS_1 : Nat → (List (List UInt8)) × (List (List UInt8)) × Int → Option ((List (List UInt8)) ⊕ (List (List UInt8))) := evL [] (finT [.t 2] [] [.cell (.sl true .str)]) 0 ⟨[(0, true), (3, false), (4, false)], [.cell (.sl false .str), .cell (.sl true .str), .cell (.int .i64)]⟩ ⟨[(3, false)], [.cell (.sl true .str)]⟩ B_laws_toStringS_1
def F_laws_toStringS : TF := ⟨(.seq (.reg none [.p (.mvN 2 1) .unit])
 (.seq (.reg none [.p (.mv 5 (.t 0)) .unit,
  .p (.lenB 6 (.t 5)) .unit,
  .p (.mkS 7 16 [(.lit (.string (ba [])))] (.t 6) (.t 6)) .str,
  .p (.mvT 3 7) .unit])
 (.seq (.seq (.reg none [.p (.mv 4 (.c (.int .i64 0))) .unit])
 (.jl 0 ⟨[(0, true), (3, false), (4, false)], [.cell (.sl false .str), .cell (.sl true .str), .cell (.int .i64)]⟩ ⟨[(3, false)], [.cell (.sl true .str)]⟩ B_laws_toStringS_1))
 (.seq (.reg none [.p (.mvT 21 3) .unit,
  .p (.mvT 2 21) .unit])
 .ret)))),
 22, 1, [.t 2]⟩
theorem m_laws_toStringS : mH Try.prog 75 [(1, 3, .t), (5, 0, .v), (6, 0, .t), (6, 1, .t)] = some (F_laws_toStringS.code.x, F_laws_toStringS.N, F_laws_toStringS.np, F_laws_toStringS.res) := by kernel_rfl
noncomputable def T_laws_toStringS : List (List UInt8) → Option (List (List UInt8)) := evF [] F_laws_toStringS [.cell (.sl false .str)] [] [.cell (.sl true .str)] []
noncomputable def fn_laws_toStringS : TFn := ⟨75, [.cell (.sl false .str)], [], [.cell (.sl true .str)], [], T_laws_toStringS⟩
theorem ok_laws_toStringS : FnOk Try.prog fn_laws_toStringS := evF_ok mixed allOk_nil m_laws_toStringS (by decide)
def F_laws_toBox : TF := ⟨(.seq (.reg none [.p (.box 1 (.t 0)) .unit,
  .p (.alloc 2 [(.lit (.string (ba []))), (.sl true 1 []), (.lit (.bool false))]) .unit])
 (.seq (.reg none [.p (.alloc 3 [(.lit (.string (ba []))), (.sl true 1 []), (.lit (.bool false))]) .unit])
 (.seq (.reg none [.p (.fadr 4 (.t 1) 0) .unit,
  .p (.load 5 (.t 4) 1 false) .unit,
  .p (.fadr 6 (.t 3) 0) .unit,
  .p (.store (.t 6) (.t 5) 1) .unit])
 (.seq (.reg none [.p (.fadr 7 (.t 1) 1) .unit,
  .p (.load 8 (.t 7) 1 false) .unit,
  .p (.callB 9 n_laws_toStringS [((.t 8), 0)]) .unit,
  .p (.fadr 10 (.t 3) 1) .unit,
  .p (.storeT (.t 10) 9 1) .unit])
 (.seq (.reg none [.p (.fadr 11 (.t 1) 2) .unit,
  .p (.load 12 (.t 11) 1 false) .unit,
  .p (.fadr 13 (.t 3) 2) .unit,
  .p (.store (.t 13) (.t 12) 1) .unit])
 (.seq (.reg none [.p (.loadT 14 (.t 3) 3 true) .unit,
  .p (.storeT (.t 2) 14 3) .unit])
 .ret)))))),
 15, 1, [.c 2 3 true]⟩
theorem m_laws_toBox : mH Try.prog 21 [(3, 4, .t), (5, 0, .t), (5, 1, .t)] = some (F_laws_toBox.code.x, F_laws_toBox.N, F_laws_toBox.np, F_laws_toBox.res) := by kernel_rfl
noncomputable def T_laws_toBox : List UInt8 × List (List UInt8) × Bool → Option (List UInt8 × List (List UInt8) × Bool) := evF [fn_laws_toStringS] F_laws_toBox [.agg (.pair .str (.pair (.sl false .str) .bool))] [] [.agg (.pair .str (.pair (.sl true .str) .bool))] []
noncomputable def fn_laws_toBox : TFn := ⟨21, [.agg (.pair .str (.pair (.sl false .str) .bool))], [], [.agg (.pair .str (.pair (.sl true .str) .bool))], [], T_laws_toBox⟩
theorem ok_laws_toBox : FnOk Try.prog fn_laws_toBox := evF_ok mixed (allOk_cons ok_laws_toStringS allOk_nil) m_laws_toBox (by decide)
def F_spec_l01In : TF := ⟨(.seq (.reg none [.p (.mv 6 (.c (.bool false))) .unit])
 (.seq (.reg none [.p (.mv 7 (.t 0)) .unit,
  .p (.mv 8 (.t 1)) .unit,
  .p (.bin 9 false .geq (.t 7) (.t 8)) .unit,
  .p (.mv 10 (.t 9)) .unit,
  .g 10 true (some 11) (.mv 11 (.t 0)) .unit,
  .g 10 true (some 12) (.mv 12 (.t 2)) .unit,
  .g 10 true (some 13) (.bin 13 false .leq (.t 11) (.t 12)) .unit,
  .p (.pick 14 (.t 10) (.t 13) (.c (.bool false))) .unit,
  .p (.mv 6 (.t 14)) .unit])
 .ret)),
 15, 3, [.t 6]⟩
theorem m_spec_l01In : mH Try.prog 67 [] = some (F_spec_l01In.code.x, F_spec_l01In.N, F_spec_l01In.np, F_spec_l01In.res) := by kernel_rfl
noncomputable def T_spec_l01In : (Int) × (Int) × Int → Option (Bool) := evF [] F_spec_l01In [.cell (.int .i64), .cell (.int .i64), .cell (.int .i64)] [] [.cell .bool] []
noncomputable def fn_spec_l01In : TFn := ⟨67, [.cell (.int .i64), .cell (.int .i64), .cell (.int .i64)], [], [.cell .bool], [], T_spec_l01In⟩
theorem ok_spec_l01In : FnOk Try.prog fn_spec_l01In := evF_ok mixed allOk_nil m_spec_l01In (by decide)
def B_spec_NameOk_1 : TC := (.seq (.seq (.reg none [.p (.mv 18 (.t 3)) .unit,
  .p (.mv 19 (.t 0)) .unit,
  .p (.lenS 20 (.t 19)) .unit,
  .p (.bin 21 false .lss (.t 18) (.t 20)) .unit])
 (.cond (.t 21) .skip (.exit 0)))
 (.seq (.block 1 (.seq (.join ⟨[(0, true), (3, false), (45, false)], [.cell .str, .cell (.int .i64), .cell .bool]⟩ (.reg none [.p (.mv 24 (.t 0)) .unit,
  .p (.mv 25 (.t 3)) .unit,
  .p (.idx 26 (.t 24) (.t 25)) .unit,
  .p (.bin 27 false .lss (.t 26) (.c (.int .u8 97))) .unit,
  .p (.mv 28 (.t 27)) .unit,
  .g 28 false (some 29) (.mv 29 (.t 0)) .unit,
  .g 28 false (some 30) (.mv 30 (.t 3)) .unit,
  .g 28 false (some 31) (.idx 31 (.t 29) (.t 30)) .unit,
  .g 28 false (some 32) (.bin 32 false .gtr (.t 31) (.c (.int .u8 122))) .unit,
  .p (.pick 33 (.t 28) (.c (.bool true)) (.t 32)) .unit,
  .p (.mv 34 (.t 33)) .unit,
  .g 34 true (some 35) (.mv 35 (.t 0)) .unit,
  .g 34 true (some 36) (.mv 36 (.t 3)) .unit,
  .g 34 true (some 37) (.idx 37 (.t 35) (.t 36)) .unit,
  .g 34 true (some 38) (.bin 38 false .lss (.t 37) (.c (.int .u8 48))) .unit,
  .g 34 true (some 39) (.mv 39 (.t 38)) .unit,
  .g 39 false (some 40) (.mv 40 (.t 0)) .unit,
  .g 39 false (some 41) (.mv 41 (.t 3)) .unit,
  .g 39 false (some 42) (.idx 42 (.t 40) (.t 41)) .unit,
  .g 39 false (some 43) (.bin 43 false .gtr (.t 42) (.c (.int .u8 57))) .unit,
  .g 34 true (some 44) (.pick 44 (.t 39) (.c (.bool true)) (.t 43)) .unit,
  .p (.pick 45 (.t 34) (.t 44) (.c (.bool false))) .unit]))
 (.cond (.t 45) (.seq (.reg none [.p (.mv 2 (.c (.bool false))) .unit])
 .ret) .skip)))
 (.reg none [.p (.mv 22 (.t 3)) .unit,
  .p (.bin 23 false .add (.t 22) (.c (.int .i64 1))) .unit,
  .p (.mv 3 (.t 23)) .unit])))
noncomputable def L_spec_NameOk_1 : Nat → (List UInt8) × Int → Option ((Unit) ⊕ (Bool)) := evL [fn_spec_l01In] (finT [.t 2] [] [.cell .bool]) 0 ⟨[(0, true), (3, false)], [.cell .str, .cell (.int .i64)]⟩ ⟨[], []⟩ B_spec_NameOk_1
def F_spec_NameOk : TF := ⟨(.seq (.reg none [.p (.mv 2 (.c (.bool false))) .unit])
 (.seq (.seq (.join ⟨[(0, true), (17, false)], [.cell .str, .cell .bool]⟩ (.reg none [.p (.mv 4 (.t 0)) .unit,
  .p (.lenS 5 (.t 4)) .unit,
  .p (.callB 6 n_spec_l01In [((.t 5), 0), ((.c (.int .i64 1)), 0), ((.c (.int .i64 12)), 0)]) .unit,
  .p (.un 7 .not (.t 6)) .unit,
  .p (.mv 8 (.t 7)) .unit,
  .g 8 false (some 9) (.mv 9 (.t 0)) .unit,
  .g 8 false (some 10) (.idx 10 (.t 9) (.c (.int .i64 0))) .unit,
  .g 8 false (some 11) (.bin 11 false .lss (.t 10) (.c (.int .u8 97))) .unit,
  .p (.pick 12 (.t 8) (.c (.bool true)) (.t 11)) .unit,
  .p (.mv 13 (.t 12)) .unit,
  .g 13 false (some 14) (.mv 14 (.t 0)) .unit,
  .g 13 false (some 15) (.idx 15 (.t 14) (.c (.int .i64 0))) .unit,
  .g 13 false (some 16) (.bin 16 false .gtr (.t 15) (.c (.int .u8 122))) .unit,
  .p (.pick 17 (.t 13) (.c (.bool true)) (.t 16)) .unit]))
 (.cond (.t 17) (.seq (.reg none [.p (.mv 2 (.c (.bool false))) .unit])
 .ret) .skip))
 (.seq (.seq (.reg none [.p (.mv 3 (.c (.int .i64 0))) .unit])
 (.jl 0 ⟨[(0, true), (3, false)], [.cell .str, .cell (.int .i64)]⟩ ⟨[], []⟩ B_spec_NameOk_1))
 (.seq (.reg none [.p (.mv 2 (.c (.bool true))) .unit])
 .ret)))),
 46, 1, [.t 2]⟩
theorem m_spec_NameOk : mH Try.prog 74 [] = some (F_spec_NameOk.code.x, F_spec_NameOk.N, F_spec_NameOk.np, F_spec_NameOk.res) := by kernel_rfl
noncomputable def T_spec_NameOk : List UInt8 → Option (Bool) := evF [fn_spec_l01In] F_spec_NameOk [.cell .str] [] [.cell .bool] []
noncomputable def fn_spec_NameOk : TFn := ⟨74, [.cell .str], [], [.cell .bool], [], T_spec_NameOk⟩
theorem ok_spec_NameOk : FnOk Try.prog fn_spec_NameOk := evF_ok mixed (allOk_cons ok_spec_l01In allOk_nil) m_spec_NameOk (by decide)
def B_spec_BoxOk_1 : TC := (.seq (.seq (.reg none [.p (.mv 24 (.t 3)) .unit,
  .p (.fadr 25 (.t 1) 1) .unit,
  .p (.load 26 (.t 25) 1 false) .unit,
  .p (.lenB 27 (.t 26)) .unit,
  .p (.bin 28 false .lss (.t 24) (.t 27)) .unit])
 (.cond (.t 28) .skip (.exit 0)))
 (.seq (.block 1 (.seq (.reg none [.p (.fadr 31 (.t 1) 1) .unit,
  .p (.load 32 (.t 31) 1 false) .unit,
  .p (.mv 33 (.t 3)) .unit,
  .p (.iadr 34 1 (.t 32) (.t 33)) .unit,
  .p (.load 35 (.t 34) 1 false) .unit,
  .p (.lenS 36 (.t 35)) .unit,
  .p (.bin 37 false .gtr (.t 36) (.c (.int .i64 60))) .unit])
 (.cond (.t 37) (.seq (.reg none [.p (.mv 2 (.c (.bool false))) .unit])
 .ret) .skip)))
 (.reg none [.p (.mv 29 (.t 3)) .unit,
  .p (.bin 30 false .add (.t 29) (.c (.int .i64 1))) .unit,
  .p (.mv 3 (.t 30)) .unit])))
noncomputable def L_spec_BoxOk_1 : Nat → (List UInt8 × List (List UInt8) × Bool) × Int → Option ((Unit) ⊕ (Bool)) := evL [fn_spec_NameOk] (finT [.t 2] [] [.cell .bool]) 0 ⟨[(1, false), (3, false)], [.box (.pair .str (.pair (.sl false .str) .bool)), .cell (.int .i64)]⟩ ⟨[], []⟩ B_spec_BoxOk_1
def F_spec_BoxOk : TF := ⟨(.seq (.reg none [.p (.box 1 (.t 0)) .unit,
  .p (.mv 2 (.c (.bool false))) .unit])
 (.seq (.seq (.join ⟨[(1, false), (23, false)], [.box (.pair .str (.pair (.sl false .str) .bool)), .cell .bool]⟩ (.reg none [.p (.fadr 4 (.t 1) 0) .unit,
  .p (.load 5 (.t 4) 1 false) .unit,
  .p (.callB 6 n_spec_NameOk [((.t 5), 0)]) .unit,
  .p (.un 7 .not (.t 6)) .unit,
  .p (.mv 8 (.t 7)) .unit,
  .g 8 false (some 9) (.fadr 9 (.t 1) 1) .unit,
  .g 8 false (some 10) (.load 10 (.t 9) 1 false) .unit,
  .g 8 false (some 11) (.lenB 11 (.t 10)) .unit,
  .g 8 false (some 12) (.bin 12 false .gtr (.t 11) (.c (.int .i64 5))) .unit,
  .p (.pick 13 (.t 8) (.c (.bool true)) (.t 12)) .unit,
  .p (.mv 14 (.t 13)) .unit,
  .g 14 false (some 15) (.fadr 15 (.t 1) 2) .unit,
  .g 14 false (some 16) (.load 16 (.t 15) 1 false) .unit,
  .g 14 false (some 17) (.mv 17 (.t 16)) .unit,
  .g 17 true (some 18) (.fadr 18 (.t 1) 1) .unit,
  .g 17 true (some 19) (.load 19 (.t 18) 1 false) .unit,
  .g 17 true (some 20) (.lenB 20 (.t 19)) .unit,
  .g 17 true (some 21) (.bin 21 false .gtr (.t 20) (.c (.int .i64 0))) .unit,
  .g 14 false (some 22) (.pick 22 (.t 17) (.t 21) (.c (.bool false))) .unit,
  .p (.pick 23 (.t 14) (.c (.bool true)) (.t 22)) .unit]))
 (.cond (.t 23) (.seq (.reg none [.p (.mv 2 (.c (.bool false))) .unit])
 .ret) .skip))
 (.seq (.seq (.reg none [.p (.mv 3 (.c (.int .i64 0))) .unit])
 (.jl 0 ⟨[(1, false), (3, false)], [.box (.pair .str (.pair (.sl false .str) .bool)), .cell (.int .i64)]⟩ ⟨[], []⟩ B_spec_BoxOk_1))
 (.seq (.reg none [.p (.mv 2 (.c (.bool true))) .unit])
 .ret)))),
 38, 1, [.t 2]⟩
theorem m_spec_BoxOk : mH Try.prog 20 [] = some (F_spec_BoxOk.code.x, F_spec_BoxOk.N, F_spec_BoxOk.np, F_spec_BoxOk.res) := by kernel_rfl
noncomputable def T_spec_BoxOk : List UInt8 × List (List UInt8) × Bool → Option (Bool) := evF [fn_spec_NameOk] F_spec_BoxOk [.agg (.pair .str (.pair (.sl false .str) .bool))] [] [.cell .bool] []
noncomputable def fn_spec_BoxOk : TFn := ⟨20, [.agg (.pair .str (.pair (.sl false .str) .bool))], [], [.cell .bool], [], T_spec_BoxOk⟩
theorem ok_spec_BoxOk : FnOk Try.prog fn_spec_BoxOk := evF_ok mixed (allOk_cons ok_spec_NameOk allOk_nil) m_spec_BoxOk (by decide)
def F_spec_l18Copy : TF := ⟨(.seq (.reg none [.p (.box 1 (.t 0)) .unit,
  .p (.alloc 2 [(.lit (.string (ba []))), (.sl true 1 []), (.lit (.bool false))]) .unit])
 (.seq (.reg none [.p (.bldS 3 0 [(.lit (.string (ba [])))] []) .str,
  .p (.fadr 4 (.t 1) 1) .unit,
  .p (.load 5 (.t 4) 1 false) .unit,
  .p (.app 6 1 16 (.t 3) (.t 5)) .str,
  .p (.fadr 7 (.t 1) 1) .unit,
  .p (.storeT (.t 7) 6 1) .unit])
 (.seq (.reg none [.p (.loadT 8 (.t 1) 3 true) .unit,
  .p (.storeT (.t 2) 8 3) .unit])
 .ret))),
 9, 1, [.c 2 3 true]⟩
theorem m_spec_l18Copy : mH Try.prog 105 [(1, 5, .t), (2, 0, .t), (2, 1, .t)] = some (F_spec_l18Copy.code.x, F_spec_l18Copy.N, F_spec_l18Copy.np, F_spec_l18Copy.res) := by kernel_rfl
noncomputable def T_spec_l18Copy : List UInt8 × List (List UInt8) × Bool → Option (List UInt8 × List (List UInt8) × Bool) := evF [] F_spec_l18Copy [.agg (.pair .str (.pair (.sl false .str) .bool))] [] [.agg (.pair .str (.pair (.sl true .str) .bool))] []
noncomputable def fn_spec_l18Copy : TFn := ⟨105, [.agg (.pair .str (.pair (.sl false .str) .bool))], [], [.agg (.pair .str (.pair (.sl true .str) .bool))], [], T_spec_l18Copy⟩
theorem ok_spec_l18Copy : FnOk Try.prog fn_spec_l18Copy := evF_ok mixed allOk_nil m_spec_l18Copy (by decide)
def F_spec_Fetch : TF := ⟨(.seq (.reg none [.p (.box 1 (.t 0)) .unit,
  .p (.alloc 2 [(.lit (.string (ba []))), (.sl true 1 []), (.lit (.bool false))]) .unit,
  .p (.mv 3 (.c (.string (ba [])))) .unit,
  .p (.mv 4 (.c (.bool false))) .unit])
 (.seq (.seq (.join ⟨[(1, false), (2, false), (15, false)], [.box (.pair .str (.pair (.sl false .str) .bool)), .box (.pair .str (.pair (.sl true .str) .bool)), .cell .bool]⟩ (.reg none [.p (.load 7 (.t 1) 3 true) .unit,
  .p (.callB 8 n_spec_BoxOk [((.t 7), 0)]) .unit,
  .p (.un 9 .not (.t 8)) .unit,
  .p (.mv 10 (.t 9)) .unit,
  .g 10 false (some 11) (.fadr 11 (.t 1) 1) .unit,
  .g 10 false (some 12) (.load 12 (.t 11) 1 false) .unit,
  .g 10 false (some 13) (.lenB 13 (.t 12)) .unit,
  .g 10 false (some 14) (.bin 14 false .eql (.t 13) (.c (.int .i64 0))) .unit,
  .p (.pick 15 (.t 10) (.c (.bool true)) (.t 14)) .unit]))
 (.cond (.t 15) (.seq (.reg none [.p (.load 16 (.t 1) 3 true) .unit,
  .p (.callB 17 n_spec_l18Copy [((.t 16), 0)]) .unit,
  .p (.storeT (.t 2) 17 3) .unit,
  .p (.mv 3 (.c (.string (ba [])))) .unit,
  .p (.mv 4 (.c (.bool false))) .unit])
 .ret) .skip))
 (.seq (.reg none [.p (.load 18 (.t 1) 3 true) .unit,
  .p (.callB 19 n_spec_l18Copy [((.t 18), 0)]) .unit,
  .p (.alloc 5 [(.lit (.string (ba []))), (.sl true 1 []), (.lit (.bool false))]) .unit,
  .p (.storeT (.t 5) 19 3) .unit])
 (.seq (.reg none [.p (.fadr 20 (.t 5) 1) .unit,
  .p (.load 21 (.t 20) 1 false) .unit,
  .p (.iadr 22 1 (.t 21) (.c (.int .i64 0))) .unit,
  .p (.load 23 (.t 22) 1 false) .unit,
  .p (.mv 6 (.t 23)) .unit])
 (.seq (.reg none [.p (.bldS 24 0 [(.lit (.string (ba [])))] []) .str,
  .p (.fadr 25 (.t 5) 1) .unit,
  .p (.loadT 26 (.t 25) 1 false) .unit,
  .p (.cutT 27 1 26 (some (.c (.int .i64 1))) none) .unit,
  .p (.app 28 1 16 (.t 24) (.t 27)) .str,
  .p (.fadr 29 (.t 5) 1) .unit,
  .p (.storeT (.t 29) 28 1) .unit])
 (.seq (.reg none [.p (.loadT 30 (.t 5) 3 true) .unit,
  .p (.mv 31 (.t 6)) .unit,
  .p (.storeT (.t 2) 30 3) .unit,
  .p (.mv 3 (.t 31)) .unit,
  .p (.mv 4 (.c (.bool true))) .unit])
 .ret)))))),
 32, 1, [.c 2 3 true, .t 3, .t 4]⟩
theorem m_spec_Fetch : mH Try.prog 53 [(2, 2, .t), (3, 3, .t), (5, 2, .t), (5, 3, .t), (5, 6, .t), (6, 0, .t), (6, 2, .t)] = some (F_spec_Fetch.code.x, F_spec_Fetch.N, F_spec_Fetch.np, F_spec_Fetch.res) := by kernel_rfl
noncomputable def T_spec_Fetch : List UInt8 × List (List UInt8) × Bool → Option ((List UInt8 × List (List UInt8) × Bool) × (List UInt8) × Bool) := evF [fn_spec_BoxOk, fn_spec_l18Copy] F_spec_Fetch [.agg (.pair .str (.pair (.sl false .str) .bool))] [] [.agg (.pair .str (.pair (.sl true .str) .bool)), .cell .str, .cell .bool] []
noncomputable def fn_spec_Fetch : TFn := ⟨53, [.agg (.pair .str (.pair (.sl false .str) .bool))], [], [.agg (.pair .str (.pair (.sl true .str) .bool)), .cell .str, .cell .bool], [], T_spec_Fetch⟩
theorem ok_spec_Fetch : FnOk Try.prog fn_spec_Fetch := evF_ok mixed (allOk_cons ok_spec_BoxOk (allOk_cons ok_spec_l18Copy allOk_nil)) m_spec_Fetch (by decide)
def F_slices_Clone___string_string_ : TF := ⟨(.seq (.reg none [.p (.mvN 2 1) .unit])
 (.seq (.seq (.nq [.p (.mv 3 (.t 0)) .unit] 4 false (.t 3))
 (.cond (.t 4) (.seq (.reg none [.p (.mvN 2 1) .unit])
 .ret) .skip))
 (.seq (.reg none [.p (.bldS 5 0 [(.lit (.string (ba [])))] []) .str,
  .p (.mv 6 (.t 0)) .unit,
  .p (.app 7 1 16 (.t 5) (.t 6)) .str,
  .p (.mvT 2 7) .unit])
 .ret))),
 8, 1, [.t 2]⟩
theorem m_slices_Clone___string_string_ : mH Try.prog 101 [(3, 3, .t)] = some (F_slices_Clone___string_string_.code.x, F_slices_Clone___string_string_.N, F_slices_Clone___string_string_.np, F_slices_Clone___string_string_.res) := by kernel_rfl
noncomputable def T_slices_Clone___string_string_ : List (List UInt8) → Option (List (List UInt8)) := evF [] F_slices_Clone___string_string_ [.cell (.sl false .str)] [] [.cell (.sl true .str)] []
noncomputable def fn_slices_Clone___string_string_ : TFn := ⟨101, [.cell (.sl false .str)], [], [.cell (.sl true .str)], [], T_slices_Clone___string_string_⟩
theorem ok_slices_Clone___string_string_ : FnOk Try.prog fn_slices_Clone___string_string_ := evF_ok mixed allOk_nil m_slices_Clone___string_string_ (by decide)
def F_impl_copyBox : TF := ⟨(.seq (.reg none [.p (.box 1 (.t 0)) .unit,
  .p (.alloc 2 [(.lit (.string (ba []))), (.sl true 1 []), (.lit (.bool false))]) .unit])
 (.seq (.reg none [.p (.fadr 3 (.t 1) 1) .unit,
  .p (.load 4 (.t 3) 1 false) .unit,
  .p (.callB 5 n_slices_Clone___string_string_ [((.t 4), 0)]) .unit,
  .p (.fadr 6 (.t 1) 1) .unit,
  .p (.storeT (.t 6) 5 1) .unit])
 (.seq (.reg none [.p (.loadT 7 (.t 1) 3 true) .unit,
  .p (.storeT (.t 2) 7 3) .unit])
 .ret))),
 8, 1, [.c 2 3 true]⟩
theorem m_impl_copyBox : mH Try.prog 81 [(1, 4, .t), (2, 0, .t), (2, 1, .t)] = some (F_impl_copyBox.code.x, F_impl_copyBox.N, F_impl_copyBox.np, F_impl_copyBox.res) := by kernel_rfl
noncomputable def T_impl_copyBox : List UInt8 × List (List UInt8) × Bool → Option (List UInt8 × List (List UInt8) × Bool) := evF [fn_slices_Clone___string_string_] F_impl_copyBox [.agg (.pair .str (.pair (.sl false .str) .bool))] [] [.agg (.pair .str (.pair (.sl true .str) .bool))] []
noncomputable def fn_impl_copyBox : TFn := ⟨81, [.agg (.pair .str (.pair (.sl false .str) .bool))], [], [.agg (.pair .str (.pair (.sl true .str) .bool))], [], T_impl_copyBox⟩
theorem ok_impl_copyBox : FnOk Try.prog fn_impl_copyBox := evF_ok mixed (allOk_cons ok_slices_Clone___string_string_ allOk_nil) m_impl_copyBox (by decide)
def F_impl_inRange : TF := ⟨(.seq (.reg none [.p (.mv 6 (.c (.bool false))) .unit])
 (.seq (.reg none [.p (.mv 7 (.t 0)) .unit,
  .p (.mv 8 (.t 1)) .unit,
  .p (.bin 9 false .geq (.t 7) (.t 8)) .unit,
  .p (.mv 10 (.t 9)) .unit,
  .g 10 true (some 11) (.mv 11 (.t 0)) .unit,
  .g 10 true (some 12) (.mv 12 (.t 2)) .unit,
  .g 10 true (some 13) (.bin 13 false .leq (.t 11) (.t 12)) .unit,
  .p (.pick 14 (.t 10) (.t 13) (.c (.bool false))) .unit,
  .p (.mv 6 (.t 14)) .unit])
 .ret)),
 15, 3, [.t 6]⟩
theorem m_impl_inRange : mH Try.prog 71 [] = some (F_impl_inRange.code.x, F_impl_inRange.N, F_impl_inRange.np, F_impl_inRange.res) := by kernel_rfl
noncomputable def T_impl_inRange : (Int) × (Int) × Int → Option (Bool) := evF [] F_impl_inRange [.cell (.int .i64), .cell (.int .i64), .cell (.int .i64)] [] [.cell .bool] []
noncomputable def fn_impl_inRange : TFn := ⟨71, [.cell (.int .i64), .cell (.int .i64), .cell (.int .i64)], [], [.cell .bool], [], T_impl_inRange⟩
theorem ok_impl_inRange : FnOk Try.prog fn_impl_inRange := evF_ok mixed allOk_nil m_impl_inRange (by decide)
def B_impl_NameOk_1 : TC := (.seq (.seq (.reg none [.p (.mv 5 (.t 3)) .unit,
  .p (.mv 6 (.t 0)) .unit,
  .p (.lenS 7 (.t 6)) .unit,
  .p (.bin 8 false .lss (.t 5) (.t 7)) .unit])
 (.cond (.t 8) .skip (.exit 0)))
 (.seq (.block 1 (.seq (.join ⟨[(0, true), (3, false), (4, false)], [.cell .str, .cell (.int .i64), .cell .bool]⟩ (.reg none [.p (.mv 11 (.t 0)) .unit,
  .p (.mv 12 (.t 3)) .unit,
  .p (.idx 13 (.t 11) (.t 12)) .unit,
  .p (.bin 14 false .geq (.t 13) (.c (.int .u8 97))) .unit,
  .p (.mv 15 (.t 14)) .unit,
  .g 15 true (some 16) (.mv 16 (.t 0)) .unit,
  .g 15 true (some 17) (.mv 17 (.t 3)) .unit,
  .g 15 true (some 18) (.idx 18 (.t 16) (.t 17)) .unit,
  .g 15 true (some 19) (.bin 19 false .leq (.t 18) (.c (.int .u8 122))) .unit,
  .p (.pick 20 (.t 15) (.t 19) (.c (.bool false))) .unit,
  .p (.mv 4 (.t 20)) .unit]))
 (.seq (.join ⟨[(0, true), (3, false), (38, false)], [.cell .str, .cell (.int .i64), .cell .bool]⟩ (.reg none [.p (.mv 21 (.t 4)) .unit,
  .p (.un 22 .not (.t 21)) .unit,
  .p (.mv 23 (.t 22)) .unit,
  .g 23 true (some 24) (.mv 24 (.t 3)) .unit,
  .g 23 true (some 25) (.bin 25 false .eql (.t 24) (.c (.int .i64 0))) .unit,
  .g 23 true (some 26) (.mv 26 (.t 25)) .unit,
  .g 26 false (some 27) (.mv 27 (.t 0)) .unit,
  .g 26 false (some 28) (.mv 28 (.t 3)) .unit,
  .g 26 false (some 29) (.idx 29 (.t 27) (.t 28)) .unit,
  .g 26 false (some 30) (.bin 30 false .lss (.t 29) (.c (.int .u8 48))) .unit,
  .g 23 true (some 31) (.pick 31 (.t 26) (.c (.bool true)) (.t 30)) .unit,
  .g 23 true (some 32) (.mv 32 (.t 31)) .unit,
  .g 32 false (some 33) (.mv 33 (.t 0)) .unit,
  .g 32 false (some 34) (.mv 34 (.t 3)) .unit,
  .g 32 false (some 35) (.idx 35 (.t 33) (.t 34)) .unit,
  .g 32 false (some 36) (.bin 36 false .gtr (.t 35) (.c (.int .u8 57))) .unit,
  .g 23 true (some 37) (.pick 37 (.t 32) (.c (.bool true)) (.t 36)) .unit,
  .p (.pick 38 (.t 23) (.t 37) (.c (.bool false))) .unit]))
 (.cond (.t 38) (.seq (.reg none [.p (.mv 2 (.c (.bool false))) .unit])
 .ret) .skip))))
 (.reg none [.p (.mv 9 (.t 3)) .unit,
  .p (.bin 10 false .add (.t 9) (.c (.int .i64 1))) .unit,
  .p (.mv 3 (.t 10)) .unit])))
noncomputable def L_impl_NameOk_1 : Nat → (List UInt8) × Int → Option ((List UInt8) ⊕ (Bool)) := evL [fn_impl_inRange] (finT [.t 2] [] [.cell .bool]) 0 ⟨[(0, true), (3, false)], [.cell .str, .cell (.int .i64)]⟩ ⟨[(0, true)], [.cell .str]⟩ B_impl_NameOk_1
def F_impl_NameOk : TF := ⟨(.seq (.reg none [.p (.mv 2 (.c (.bool false))) .unit])
 (.seq (.seq (.reg none [.p (.mv 3 (.c (.int .i64 0))) .unit])
 (.jl 0 ⟨[(0, true), (3, false)], [.cell .str, .cell (.int .i64)]⟩ ⟨[(0, true)], [.cell .str]⟩ B_impl_NameOk_1))
 (.seq (.reg none [.p (.mv 39 (.t 0)) .unit,
  .p (.lenS 40 (.t 39)) .unit,
  .p (.callB 41 n_impl_inRange [((.t 40), 0), ((.c (.int .i64 1)), 0), ((.c (.int .i64 12)), 0)]) .unit,
  .p (.mv 2 (.t 41)) .unit])
 .ret))),
 42, 1, [.t 2]⟩
theorem m_impl_NameOk : mH Try.prog 76 [] = some (F_impl_NameOk.code.x, F_impl_NameOk.N, F_impl_NameOk.np, F_impl_NameOk.res) := by kernel_rfl
noncomputable def T_impl_NameOk : List UInt8 → Option (Bool) := evF [fn_impl_inRange] F_impl_NameOk [.cell .str] [] [.cell .bool] []
noncomputable def fn_impl_NameOk : TFn := ⟨76, [.cell .str], [], [.cell .bool], [], T_impl_NameOk⟩
theorem ok_impl_NameOk : FnOk Try.prog fn_impl_NameOk := evF_ok mixed (allOk_cons ok_impl_inRange allOk_nil) m_impl_NameOk (by decide)
def B_impl_areShort_1 : TC := (.seq (.reg none [.p (.bin 8 false .lss (.t 7) (.t 6)) .unit])
 (.seq (.cond (.t 8) .skip (.exit 0))
 (.seq (.block 1 (.seq (.reg none [.p (.iadr 9 1 (.t 5) (.t 7)) .unit,
  .p (.load 10 (.t 9) 1 false) .unit,
  .p (.mv 4 (.t 10)) .unit])
 (.seq (.reg none [.p (.mv 11 (.t 4)) .unit,
  .p (.lenS 12 (.t 11)) .unit,
  .p (.bin 13 false .gtr (.t 12) (.c (.int .i64 60))) .unit])
 (.cond (.t 13) (.seq (.reg none [.p (.mv 2 (.c (.bool false))) .unit])
 .ret) .skip))))
 (.reg none [.p (.bin 14 false .add (.t 7) (.c (.int .i64 1))) .unit,
  .p (.mv 7 (.t 14)) .unit]))))
noncomputable def L_impl_areShort_1 : Nat → (List (List UInt8)) × (Int) × Int → Option ((Unit) ⊕ (Bool)) := evL [] (finT [.t 2] [] [.cell .bool]) 0 ⟨[(5, false), (6, false), (7, false)], [.cell (.sl false .str), .cell (.int .i64), .cell (.int .i64)]⟩ ⟨[], []⟩ B_impl_areShort_1
def F_impl_areShort : TF := ⟨(.seq (.reg none [.p (.mv 2 (.c (.bool false))) .unit])
 (.seq (.seq (.reg none [.p (.mv 5 (.t 0)) .unit,
  .p (.lenB 6 (.t 5)) .unit,
  .p (.mv 7 (.c (.int .i64 0))) .unit])
 (.jl 0 ⟨[(5, false), (6, false), (7, false)], [.cell (.sl false .str), .cell (.int .i64), .cell (.int .i64)]⟩ ⟨[], []⟩ B_impl_areShort_1))
 (.seq (.reg none [.p (.mv 2 (.c (.bool true))) .unit])
 .ret))),
 15, 1, [.t 2]⟩
theorem m_impl_areShort : mH Try.prog 77 [] = some (F_impl_areShort.code.x, F_impl_areShort.N, F_impl_areShort.np, F_impl_areShort.res) := by kernel_rfl
noncomputable def T_impl_areShort : List (List UInt8) → Option (Bool) := evF [] F_impl_areShort [.cell (.sl false .str)] [] [.cell .bool] []
noncomputable def fn_impl_areShort : TFn := ⟨77, [.cell (.sl false .str)], [], [.cell .bool], [], T_impl_areShort⟩
theorem ok_impl_areShort : FnOk Try.prog fn_impl_areShort := evF_ok mixed allOk_nil m_impl_areShort (by decide)
def F_impl_BoxOk : TF := ⟨(.seq (.reg none [.p (.box 1 (.t 0)) .unit,
  .p (.mv 2 (.c (.bool false))) .unit])
 (.seq (.reg none [.p (.fadr 3 (.t 1) 0) .unit,
  .p (.load 4 (.t 3) 1 false) .unit,
  .p (.callB 5 n_impl_NameOk [((.t 4), 0)]) .unit,
  .p (.mv 6 (.t 5)) .unit,
  .g 6 true (some 7) (.fadr 7 (.t 1) 1) .unit,
  .g 6 true (some 8) (.load 8 (.t 7) 1 false) .unit,
  .g 6 true (some 9) (.lenB 9 (.t 8)) .unit,
  .g 6 true (some 10) (.bin 10 false .leq (.t 9) (.c (.int .i64 5))) .unit,
  .p (.pick 11 (.t 6) (.t 10) (.c (.bool false))) .unit,
  .p (.mv 12 (.t 11)) .unit,
  .g 12 true (some 13) (.fadr 13 (.t 1) 1) .unit,
  .g 12 true (some 14) (.load 14 (.t 13) 1 false) .unit,
  .g 12 true (some 15) (.callB 15 n_impl_areShort [((.t 14), 0)]) .unit,
  .p (.pick 16 (.t 12) (.t 15) (.c (.bool false))) .unit,
  .p (.mv 17 (.t 16)) .unit,
  .g 17 true (some 18) (.fadr 18 (.t 1) 2) .unit,
  .g 17 true (some 19) (.load 19 (.t 18) 1 false) .unit,
  .g 17 true (some 20) (.mv 20 (.t 19)) .unit,
  .g 20 true (some 21) (.fadr 21 (.t 1) 1) .unit,
  .g 20 true (some 22) (.load 22 (.t 21) 1 false) .unit,
  .g 20 true (some 23) (.lenB 23 (.t 22)) .unit,
  .g 20 true (some 24) (.bin 24 false .gtr (.t 23) (.c (.int .i64 0))) .unit,
  .g 17 true (some 25) (.pick 25 (.t 20) (.t 24) (.c (.bool false))) .unit,
  .g 17 true (some 26) (.un 26 .not (.t 25)) .unit,
  .p (.pick 27 (.t 17) (.t 26) (.c (.bool false))) .unit,
  .p (.mv 2 (.t 27)) .unit])
 .ret)),
 28, 1, [.t 2]⟩
theorem m_impl_BoxOk : mH Try.prog 22 [] = some (F_impl_BoxOk.code.x, F_impl_BoxOk.N, F_impl_BoxOk.np, F_impl_BoxOk.res) := by kernel_rfl
noncomputable def T_impl_BoxOk : List UInt8 × List (List UInt8) × Bool → Option (Bool) := evF [fn_impl_NameOk, fn_impl_areShort] F_impl_BoxOk [.agg (.pair .str (.pair (.sl false .str) .bool))] [] [.cell .bool] []
noncomputable def fn_impl_BoxOk : TFn := ⟨22, [.agg (.pair .str (.pair (.sl false .str) .bool))], [], [.cell .bool], [], T_impl_BoxOk⟩
theorem ok_impl_BoxOk : FnOk Try.prog fn_impl_BoxOk := evF_ok mixed (allOk_cons ok_impl_NameOk (allOk_cons ok_impl_areShort allOk_nil)) m_impl_BoxOk (by decide)
def F_impl_Fetch : TF := ⟨(.seq (.reg none [.p (.box 1 (.t 0)) .unit,
  .p (.alloc 2 [(.lit (.string (ba []))), (.sl true 1 []), (.lit (.bool false))]) .unit,
  .p (.mv 3 (.c (.string (ba [])))) .unit,
  .p (.mv 4 (.c (.bool false))) .unit])
 (.seq (.reg none [.p (.load 6 (.t 1) 3 true) .unit,
  .p (.callB 7 n_impl_copyBox [((.t 6), 0)]) .unit,
  .p (.alloc 5 [(.lit (.string (ba []))), (.sl true 1 []), (.lit (.bool false))]) .unit,
  .p (.storeT (.t 5) 7 3) .unit])
 (.seq (.seq (.join ⟨[(1, false), (2, false), (5, false), (16, false)], [.box (.pair .str (.pair (.sl false .str) .bool)), .box (.pair .str (.pair (.sl true .str) .bool)), .box (.pair .str (.pair (.sl true .str) .bool)), .cell .bool]⟩ (.reg none [.p (.fadr 8 (.t 1) 1) .unit,
  .p (.load 9 (.t 8) 1 false) .unit,
  .p (.lenB 10 (.t 9)) .unit,
  .p (.bin 11 false .eql (.t 10) (.c (.int .i64 0))) .unit,
  .p (.mv 12 (.t 11)) .unit,
  .g 12 false (some 13) (.load 13 (.t 1) 3 true) .unit,
  .g 12 false (some 14) (.callB 14 n_impl_BoxOk [((.t 13), 0)]) .unit,
  .g 12 false (some 15) (.un 15 .not (.t 14)) .unit,
  .p (.pick 16 (.t 12) (.c (.bool true)) (.t 15)) .unit]))
 (.cond (.t 16) (.seq (.reg none [.p (.loadT 17 (.t 5) 3 true) .unit,
  .p (.storeT (.t 2) 17 3) .unit,
  .p (.mv 3 (.c (.string (ba [])))) .unit,
  .p (.mv 4 (.c (.bool false))) .unit])
 .ret) .skip))
 (.seq (.reg none [.p (.fadr 18 (.t 5) 1) .unit,
  .p (.loadT 19 (.t 18) 1 false) .unit,
  .p (.callM 20 n_slices_Delete___string_string_ [] (.tmp 19) [((.c (.int .i64 0)), 0), ((.c (.int .i64 1)), 0)]) .unit,
  .p (.fadr 21 (.t 5) 1) .unit,
  .p (.storeT (.t 21) 20 1) .unit])
 (.seq (.reg (some [[], [], [1], [2], [3], [0, 0], [4, 5, 0, 1, 2, 3, 4, 5], [6, 0, 1, 2, 3, 4, 5, 6]]) [.p (.loadT 22 (.t 5) 3 true) .unit,
  .p (.fadr 23 (.t 1) 1) .unit,
  .p (.load 24 (.t 23) 1 false) .unit,
  .p (.iadr 25 1 (.t 24) (.c (.int .i64 0))) .unit,
  .p (.load 26 (.t 25) 1 false) .unit,
  .p (.storeT (.t 2) 22 3) .unit,
  .p (.mv 3 (.t 26)) .unit,
  .p (.mv 4 (.c (.bool true))) .unit])
 .ret))))),
 27, 1, [.c 2 3 true, .t 3, .t 4]⟩
theorem m_impl_Fetch : mH Try.prog 27 [(1, 3, .t), (3, 0, .t), (3, 1, .t), (4, 1, .t), (4, 2, (.m 0)), (4, 4, .t), (5, 0, .t), (5, 5, .t)] = some (F_impl_Fetch.code.x, F_impl_Fetch.N, F_impl_Fetch.np, F_impl_Fetch.res) := by kernel_rfl
noncomputable def T_impl_Fetch : List UInt8 × List (List UInt8) × Bool → Option ((List UInt8 × List (List UInt8) × Bool) × (List UInt8) × Bool) := evF [fn_impl_copyBox, fn_impl_BoxOk, fn_slices_Delete___string_string_] F_impl_Fetch [.agg (.pair .str (.pair (.sl false .str) .bool))] [] [.agg (.pair .str (.pair (.sl true .str) .bool)), .cell .str, .cell .bool] []
noncomputable def fn_impl_Fetch : TFn := ⟨27, [.agg (.pair .str (.pair (.sl false .str) .bool))], [], [.agg (.pair .str (.pair (.sl true .str) .bool)), .cell .str, .cell .bool], [], T_impl_Fetch⟩
theorem ok_impl_Fetch : FnOk Try.prog fn_impl_Fetch := evF_ok mixed (allOk_cons ok_impl_copyBox (allOk_cons ok_impl_BoxOk (allOk_cons ok_slices_Delete___string_string_ allOk_nil))) m_impl_Fetch (by decide)
def B_laws_eqStringS_1 : TC := (.seq (.seq (.reg none [.p (.mv 11 (.t 5)) .unit,
  .p (.mv 12 (.t 0)) .unit,
  .p (.lenB 13 (.t 12)) .unit,
  .p (.bin 14 false .lss (.t 11) (.t 13)) .unit])
 (.cond (.t 14) .skip (.exit 0)))
 (.seq (.block 1 (.seq (.reg (some [[], [], [0, 1], [2], [], [], [4, 5], [6], [3, 7]]) [.p (.mv 17 (.t 0)) .unit,
  .p (.mv 18 (.t 5)) .unit,
  .p (.iadr 19 1 (.t 17) (.t 18)) .unit,
  .p (.load 20 (.t 19) 1 false) .unit,
  .p (.mv 21 (.t 1)) .unit,
  .p (.mv 22 (.t 5)) .unit,
  .p (.iadr 23 1 (.t 21) (.t 22)) .unit,
  .p (.load 24 (.t 23) 1 false) .unit,
  .p (.bin 25 false .neq (.t 20) (.t 24)) .unit])
 (.cond (.t 25) (.seq (.reg none [.p (.mv 4 (.c (.bool false))) .unit])
 .ret) .skip)))
 (.reg none [.p (.mv 15 (.t 5)) .unit,
  .p (.bin 16 false .add (.t 15) (.c (.int .i64 1))) .unit,
  .p (.mv 5 (.t 16)) .unit])))
noncomputable def L_laws_eqStringS_1 : Nat → (List (List UInt8)) × (List (List UInt8)) × Int → Option ((Unit) ⊕ (Bool)) := evL [] (finT [.t 4] [] [.cell .bool]) 0 ⟨[(0, true), (1, true), (5, false)], [.cell (.sl false .str), .cell (.sl false .str), .cell (.int .i64)]⟩ ⟨[], []⟩ B_laws_eqStringS_1
def F_laws_eqStringS : TF := ⟨(.seq (.reg none [.p (.mv 4 (.c (.bool false))) .unit])
 (.seq (.seq (.reg none [.p (.mv 6 (.t 0)) .unit,
  .p (.lenB 7 (.t 6)) .unit,
  .p (.mv 8 (.t 1)) .unit,
  .p (.lenB 9 (.t 8)) .unit,
  .p (.bin 10 false .neq (.t 7) (.t 9)) .unit])
 (.cond (.t 10) (.seq (.reg none [.p (.mv 4 (.c (.bool false))) .unit])
 .ret) .skip))
 (.seq (.seq (.reg none [.p (.mv 5 (.c (.int .i64 0))) .unit])
 (.jl 0 ⟨[(0, true), (1, true), (5, false)], [.cell (.sl false .str), .cell (.sl false .str), .cell (.int .i64)]⟩ ⟨[], []⟩ B_laws_eqStringS_1))
 (.seq (.reg none [.p (.mv 4 (.c (.bool true))) .unit])
 .ret)))),
 26, 2, [.t 4]⟩
theorem m_laws_eqStringS : mH Try.prog 45 [] = some (F_laws_eqStringS.code.x, F_laws_eqStringS.N, F_laws_eqStringS.np, F_laws_eqStringS.res) := by kernel_rfl
noncomputable def T_laws_eqStringS : (List (List UInt8)) × List (List UInt8) → Option (Bool) := evF [] F_laws_eqStringS [.cell (.sl false .str), .cell (.sl false .str)] [] [.cell .bool] []
noncomputable def fn_laws_eqStringS : TFn := ⟨45, [.cell (.sl false .str), .cell (.sl false .str)], [], [.cell .bool], [], T_laws_eqStringS⟩
theorem ok_laws_eqStringS : FnOk Try.prog fn_laws_eqStringS := evF_ok mixed allOk_nil m_laws_eqStringS (by decide)
def F_laws_eqBox : TF := ⟨(.seq (.reg none [.p (.box 2 (.t 0)) .unit,
  .p (.box 3 (.t 1)) .unit,
  .p (.mv 4 (.c (.bool false))) .unit])
 (.seq (.seq (.reg none [.p (.fadr 5 (.t 2) 0) .unit,
  .p (.load 6 (.t 5) 1 false) .unit,
  .p (.fadr 7 (.t 3) 0) .unit,
  .p (.load 8 (.t 7) 1 false) .unit,
  .p (.bin 9 false .neq (.t 6) (.t 8)) .unit])
 (.cond (.t 9) (.seq (.reg none [.p (.mv 4 (.c (.bool false))) .unit])
 .ret) .skip))
 (.seq (.seq (.reg none [.p (.fadr 10 (.t 2) 1) .unit,
  .p (.load 11 (.t 10) 1 false) .unit,
  .p (.fadr 12 (.t 3) 1) .unit,
  .p (.load 13 (.t 12) 1 false) .unit,
  .p (.callB 14 n_laws_eqStringS [((.t 11), 0), ((.t 13), 0)]) .unit,
  .p (.un 15 .not (.t 14)) .unit])
 (.cond (.t 15) (.seq (.reg none [.p (.mv 4 (.c (.bool false))) .unit])
 .ret) .skip))
 (.seq (.seq (.reg none [.p (.fadr 16 (.t 2) 2) .unit,
  .p (.load 17 (.t 16) 1 false) .unit,
  .p (.fadr 18 (.t 3) 2) .unit,
  .p (.load 19 (.t 18) 1 false) .unit,
  .p (.bin 20 true .neq (.t 17) (.t 19)) .unit])
 (.cond (.t 20) (.seq (.reg none [.p (.mv 4 (.c (.bool false))) .unit])
 .ret) .skip))
 (.seq (.reg none [.p (.mv 4 (.c (.bool true))) .unit])
 .ret))))),
 21, 2, [.t 4]⟩
theorem m_laws_eqBox : mH Try.prog 23 [] = some (F_laws_eqBox.code.x, F_laws_eqBox.N, F_laws_eqBox.np, F_laws_eqBox.res) := by kernel_rfl
noncomputable def T_laws_eqBox : (List UInt8 × List (List UInt8) × Bool) × List UInt8 × List (List UInt8) × Bool → Option (Bool) := evF [fn_laws_eqStringS] F_laws_eqBox [.agg (.pair .str (.pair (.sl false .str) .bool)), .agg (.pair .str (.pair (.sl false .str) .bool))] [] [.cell .bool] []
noncomputable def fn_laws_eqBox : TFn := ⟨23, [.agg (.pair .str (.pair (.sl false .str) .bool)), .agg (.pair .str (.pair (.sl false .str) .bool))], [], [.cell .bool], [], T_laws_eqBox⟩
theorem ok_laws_eqBox : FnOk Try.prog fn_laws_eqBox := evF_ok mixed (allOk_cons ok_laws_eqStringS allOk_nil) m_laws_eqBox (by decide)
def B_laws_markText_1 : TC := (.seq (.seq (.reg none [.p (.mv 6 (.t 0)) .unit,
  .p (.bin 7 false .gtr (.t 6) (.c (.int .i64 0))) .unit])
 (.cond (.t 7) .skip (.exit 0)))
 (.block 1 (.seq (.reg none [.p (.mv 8 (.t 0)) .unit,
  .p (.bin 9 false .rem (.t 8) (.c (.int .i64 10))) .unit,
  .p (.bin 10 false .add (.c (.int .i64 48)) (.t 9)) .unit,
  .p (.cvi 11 .u8 .i64 (.t 10)) .unit,
  .p (.bldS 12 1 [(.lit (.int .u8 0))] [⟨0, 1, (.t 11)⟩]) (.int .u8),
  .p (.b2s 13 (.t 12)) .unit,
  .p (.mv 14 (.t 3)) .unit,
  .p (.bin 15 false .add (.t 13) (.t 14)) .unit,
  .p (.mv 3 (.t 15)) .unit])
 (.reg none [.p (.mv 16 (.t 0)) .unit,
  .p (.bin 17 false .quo (.t 16) (.c (.int .i64 10))) .unit,
  .p (.mv 0 (.t 17)) .unit]))))
noncomputable def L_laws_markText_1 : Nat → (Int) × List UInt8 → Option ((List UInt8) ⊕ (List UInt8)) := evL [] (finT [.t 2] [] [.cell .str]) 0 ⟨[(0, false), (3, false)], [.cell (.int .i64), .cell .str]⟩ ⟨[(3, false)], [.cell .str]⟩ B_laws_markText_1
def F_laws_markText : TF := ⟨(.seq (.reg none [.p (.mv 2 (.c (.string (ba [])))) .unit])
 (.seq (.seq (.reg none [.p (.mv 4 (.t 0)) .unit,
  .p (.bin 5 false .leq (.t 4) (.c (.int .i64 0))) .unit])
 (.cond (.t 5) (.seq (.reg none [.p (.mv 2 (.c (.string (ba [109, 48])))) .unit])
 .ret) .skip))
 (.seq (.reg none [.p (.mv 3 (.c (.string (ba [])))) .unit])
 (.seq (.jl 0 ⟨[(0, false), (3, false)], [.cell (.int .i64), .cell .str]⟩ ⟨[(3, false)], [.cell .str]⟩ B_laws_markText_1)
 (.seq (.reg none [.p (.mv 18 (.t 3)) .unit,
  .p (.bin 19 false .add (.c (.string (ba [109]))) (.t 18)) .unit,
  .p (.mv 2 (.t 19)) .unit])
 .ret))))),
 20, 1, [.t 2]⟩
theorem m_laws_markText : mH Try.prog 104 [] = some (F_laws_markText.code.x, F_laws_markText.N, F_laws_markText.np, F_laws_markText.res) := by kernel_rfl
noncomputable def T_laws_markText : Int → Option (List UInt8) := evF [] F_laws_markText [.cell (.int .i64)] [] [.cell .str] []
noncomputable def fn_laws_markText : TFn := ⟨104, [.cell (.int .i64)], [], [.cell .str], [], T_laws_markText⟩
theorem ok_laws_markText : FnOk Try.prog fn_laws_markText := evF_ok mixed allOk_nil m_laws_markText (by decide)
def B_laws_markStringS_1 : TC := (.seq (.seq (.reg none [.p (.mv 6 (.t 5)) .unit,
  .p (.mvA 7 0) .unit,
  .p (.lenB 8 (.t 7)) .unit,
  .p (.bin 9 false .lss (.t 6) (.t 8)) .unit])
 (.cond (.t 9) .skip (.exit 0)))
 (.seq (.block 1 (.seq (.reg none [.p (.mvA 12 0) .unit,
  .p (.mv 13 (.t 5)) .unit,
  .p (.mv 14 (.t 1)) .unit,
  .p (.callB 15 n_laws_markText [((.t 14), 0)]) .unit,
  .p (.iadr 16 1 (.t 12) (.t 13)) .unit,
  .p (.store (.t 16) (.t 15) 1) .unit])
 (.reg none [.p (.mv 17 (.t 1)) .unit,
  .p (.bin 18 false .add (.t 17) (.c (.int .i64 1))) .unit,
  .p (.mv 1 (.t 18)) .unit])))
 (.reg none [.p (.mv 10 (.t 5)) .unit,
  .p (.bin 11 false .add (.t 10) (.c (.int .i64 1))) .unit,
  .p (.mv 5 (.t 11)) .unit])))
noncomputable def L_laws_markStringS_1 : Nat → (List (List UInt8)) × (Int) × Int → Option (((List (List UInt8)) × Int) ⊕ ((Int) × List (List UInt8))) := evL [fn_laws_markText] (finT [.t 4] [0] [.cell (.int .i64), .cell (.sl true .str)]) 0 ⟨[(0, true), (1, false), (5, false)], [.cell (.sl true .str), .cell (.int .i64), .cell (.int .i64)]⟩ ⟨[(0, true), (1, false)], [.cell (.sl true .str), .cell (.int .i64)]⟩ B_laws_markStringS_1
def F_laws_markStringS : TF := ⟨(.seq (.reg none [.p (.mv 4 (.c (.int .i64 0))) .unit])
 (.seq (.seq (.reg none [.p (.mv 5 (.c (.int .i64 0))) .unit])
 (.jl 0 ⟨[(0, true), (1, false), (5, false)], [.cell (.sl true .str), .cell (.int .i64), .cell (.int .i64)]⟩ ⟨[(0, true), (1, false)], [.cell (.sl true .str), .cell (.int .i64)]⟩ B_laws_markStringS_1))
 (.seq (.reg none [.p (.mv 19 (.t 1)) .unit,
  .p (.mv 4 (.t 19)) .unit])
 .ret))),
 20, 2, [.t 4]⟩
theorem m_laws_markStringS : mH Try.prog 48 [(2, 1, .v), (4, 0, .v)] = some (F_laws_markStringS.code.x, F_laws_markStringS.N, F_laws_markStringS.np, F_laws_markStringS.res) := by kernel_rfl
noncomputable def T_laws_markStringS : (List (List UInt8)) × Int → Option ((Int) × List (List UInt8)) := evF [fn_laws_markText] F_laws_markStringS [.cell (.sl true .str), .cell (.int .i64)] [0] [.cell (.int .i64)] [.cell (.sl true .str)]
noncomputable def fn_laws_markStringS : TFn := ⟨48, [.cell (.sl true .str), .cell (.int .i64)], [0], [.cell (.int .i64)], [.cell (.sl true .str)], T_laws_markStringS⟩
theorem ok_laws_markStringS : FnOk Try.prog fn_laws_markStringS := evF_ok mixed (allOk_cons ok_laws_markText allOk_nil) m_laws_markStringS (by decide)
def F_laws_markBox : TF := ⟨(.seq (.reg none [.p (.boxL 2 0) .unit,
  .p (.mv 4 (.c (.int .i64 0))) .unit])
 (.seq (.reg none [.p (.fadr 5 (.t 2) 1) .unit,
  .p (.load 6 (.t 5) 1 false) .unit,
  .p (.mv 7 (.t 1)) .unit,
  .p (.callM 8 n_laws_markStringS [] (.aggS (.t 6) 2 0) [((.t 7), 0)]) .unit,
  .p (.mv 1 (.t 8)) .unit])
 (.seq (.reg none [.p (.mv 9 (.t 1)) .unit,
  .p (.mv 4 (.t 9)) .unit])
 .ret))),
 10, 2, [.t 4]⟩
theorem m_laws_markBox : mH Try.prog 51 [(0, 0, .v), (1, 3, (.gs 0 2 0))] = some (F_laws_markBox.code.x, F_laws_markBox.N, F_laws_markBox.np, F_laws_markBox.res) := by kernel_rfl
noncomputable def T_laws_markBox : (List UInt8 × List (List UInt8) × Bool) × Int → Option ((Int) × List UInt8 × List (List UInt8) × Bool) := evF [fn_laws_markStringS] F_laws_markBox [.agg (.pair .str (.pair (.sl true .str) .bool)), .cell (.int .i64)] [0] [.cell (.int .i64)] [.agg (.pair .str (.pair (.sl true .str) .bool))]
noncomputable def fn_laws_markBox : TFn := ⟨51, [.agg (.pair .str (.pair (.sl true .str) .bool)), .cell (.int .i64)], [0], [.cell (.int .i64)], [.agg (.pair .str (.pair (.sl true .str) .bool))], T_laws_markBox⟩
theorem ok_laws_markBox : FnOk Try.prog fn_laws_markBox := evF_ok mixed (allOk_cons ok_laws_markStringS allOk_nil) m_laws_markBox (by decide)
def B_laws_heldStringS_1 : TC := (.seq (.seq (.reg none [.p (.mv 6 (.t 5)) .unit,
  .p (.mv 7 (.t 0)) .unit,
  .p (.lenB 8 (.t 7)) .unit,
  .p (.bin 9 false .lss (.t 6) (.t 8)) .unit])
 (.cond (.t 9) .skip (.exit 0)))
 (.seq (.block 1 (.seq (.seq (.reg (some [[], [], [0, 1], [2], [], [4], [3, 5]]) [.p (.mv 12 (.t 0)) .unit,
  .p (.mv 13 (.t 5)) .unit,
  .p (.iadr 14 1 (.t 12) (.t 13)) .unit,
  .p (.load 15 (.t 14) 1 false) .unit,
  .p (.mv 16 (.t 1)) .unit,
  .p (.callB 17 n_laws_markText [((.t 16), 0)]) .unit,
  .p (.bin 18 false .neq (.t 15) (.t 17)) .unit])
 (.cond (.t 18) (.seq (.reg none [.p (.mv 4 (.c (.int .i64 (-1)))) .unit])
 .ret) .skip))
 (.reg none [.p (.mv 19 (.t 1)) .unit,
  .p (.bin 20 false .add (.t 19) (.c (.int .i64 1))) .unit,
  .p (.mv 1 (.t 20)) .unit])))
 (.reg none [.p (.mv 10 (.t 5)) .unit,
  .p (.bin 11 false .add (.t 10) (.c (.int .i64 1))) .unit,
  .p (.mv 5 (.t 11)) .unit])))
noncomputable def L_laws_heldStringS_1 : Nat → (List (List UInt8)) × (Int) × Int → Option ((Int) ⊕ (Int)) := evL [fn_laws_markText] (finT [.t 4] [] [.cell (.int .i64)]) 0 ⟨[(0, true), (1, false), (5, false)], [.cell (.sl false .str), .cell (.int .i64), .cell (.int .i64)]⟩ ⟨[(1, false)], [.cell (.int .i64)]⟩ B_laws_heldStringS_1
def F_laws_heldStringS : TF := ⟨(.seq (.reg none [.p (.mv 4 (.c (.int .i64 0))) .unit])
 (.seq (.seq (.reg none [.p (.mv 5 (.c (.int .i64 0))) .unit])
 (.jl 0 ⟨[(0, true), (1, false), (5, false)], [.cell (.sl false .str), .cell (.int .i64), .cell (.int .i64)]⟩ ⟨[(1, false)], [.cell (.int .i64)]⟩ B_laws_heldStringS_1))
 (.seq (.reg none [.p (.mv 21 (.t 1)) .unit,
  .p (.mv 4 (.t 21)) .unit])
 .ret))),
 22, 2, [.t 4]⟩
theorem m_laws_heldStringS : mH Try.prog 49 [] = some (F_laws_heldStringS.code.x, F_laws_heldStringS.N, F_laws_heldStringS.np, F_laws_heldStringS.res) := by kernel_rfl
noncomputable def T_laws_heldStringS : (List (List UInt8)) × Int → Option (Int) := evF [fn_laws_markText] F_laws_heldStringS [.cell (.sl false .str), .cell (.int .i64)] [] [.cell (.int .i64)] []
noncomputable def fn_laws_heldStringS : TFn := ⟨49, [.cell (.sl false .str), .cell (.int .i64)], [], [.cell (.int .i64)], [], T_laws_heldStringS⟩
theorem ok_laws_heldStringS : FnOk Try.prog fn_laws_heldStringS := evF_ok mixed (allOk_cons ok_laws_markText allOk_nil) m_laws_heldStringS (by decide)
def F_laws_heldBox : TF := ⟨(.seq (.reg none [.p (.box 2 (.t 0)) .unit,
  .p (.mv 4 (.c (.int .i64 0))) .unit])
 (.seq (.reg none [.p (.fadr 5 (.t 2) 1) .unit,
  .p (.load 6 (.t 5) 1 false) .unit,
  .p (.mv 7 (.t 1)) .unit,
  .p (.callB 8 n_laws_heldStringS [((.t 6), 0), ((.t 7), 0)]) .unit,
  .p (.mv 1 (.t 8)) .unit])
 (.seq (.seq (.reg none [.p (.mv 9 (.t 1)) .unit,
  .p (.bin 10 false .lss (.t 9) (.c (.int .i64 0))) .unit])
 (.cond (.t 10) (.seq (.reg none [.p (.mv 4 (.c (.int .i64 (-1)))) .unit])
 .ret) .skip))
 (.seq (.reg none [.p (.mv 11 (.t 1)) .unit,
  .p (.mv 4 (.t 11)) .unit])
 .ret)))),
 12, 2, [.t 4]⟩
theorem m_laws_heldBox : mH Try.prog 52 [] = some (F_laws_heldBox.code.x, F_laws_heldBox.N, F_laws_heldBox.np, F_laws_heldBox.res) := by kernel_rfl
noncomputable def T_laws_heldBox : (List UInt8 × List (List UInt8) × Bool) × Int → Option (Int) := evF [fn_laws_heldStringS] F_laws_heldBox [.agg (.pair .str (.pair (.sl false .str) .bool)), .cell (.int .i64)] [] [.cell (.int .i64)] []
noncomputable def fn_laws_heldBox : TFn := ⟨52, [.agg (.pair .str (.pair (.sl false .str) .bool)), .cell (.int .i64)], [], [.cell (.int .i64)], [], T_laws_heldBox⟩
theorem ok_laws_heldBox : FnOk Try.prog fn_laws_heldBox := evF_ok mixed (allOk_cons ok_laws_heldStringS allOk_nil) m_laws_heldBox (by decide)
def F_laws_FnExactFetch : TF := ⟨(.seq (.reg none [.p (.box 1 (.t 0)) .unit,
  .p (.mv 2 (.c (.bool false))) .unit])
 (.seq (.reg none [.p (.mv 3 (.c (.int .i64 1048576))) .unit])
 (.seq (.reg none [.p (.load 17 (.t 1) 3 true) .unit,
  .p (.mv 18 (.t 3)) .unit,
  .p (.callB 19 n_laws_szBox [((.t 17), 0), ((.t 18), 0)]) .unit,
  .p (.mv 3 (.t 19)) .unit])
 (.seq (.seq (.reg none [.p (.mv 20 (.t 3)) .unit,
  .p (.bin 21 false .lss (.t 20) (.c (.int .i64 0))) .unit])
 (.cond (.t 21) (.seq (.reg none [.p (.mv 2 (.c (.bool true))) .unit])
 .ret) .skip))
 (.seq (.reg none [.p (.load 23 (.t 1) 3 true) .unit,
  .p (.callB 24 n_laws_toBox [((.t 23), 0)]) .unit,
  .p (.callB 25 n_spec_Fetch [((.t 24), 0)]) .unit,
  .p (.mvT 22 25) .unit,
  .p (.extT 26 22 0) .unit,
  .p (.ext 27 (.t 22) 1) .unit,
  .p (.ext 28 (.t 22) 2) .unit,
  .p (.alloc 4 [(.lit (.string (ba []))), (.sl true 1 []), (.lit (.bool false))]) .unit,
  .p (.storeT (.t 4) 26 3) .unit,
  .p (.mv 5 (.t 27)) .unit,
  .p (.mv 6 (.t 28)) .unit])
 (.seq (.reg none [.p (.load 29 (.t 1) 3 true) .unit,
  .p (.callB 30 n_laws_toBox [((.t 29), 0)]) .unit,
  .p (.alloc 7 [(.lit (.string (ba []))), (.sl true 1 []), (.lit (.bool false))]) .unit,
  .p (.storeT (.t 7) 30 3) .unit])
 (.seq (.reg none [.p (.load 32 (.t 7) 3 true) .unit,
  .p (.callB 33 n_impl_Fetch [((.t 32), 0)]) .unit,
  .p (.mvT 31 33) .unit,
  .p (.extT 34 31 0) .unit,
  .p (.ext 35 (.t 31) 1) .unit,
  .p (.ext 36 (.t 31) 2) .unit,
  .p (.alloc 8 [(.lit (.string (ba []))), (.sl true 1 []), (.lit (.bool false))]) .unit,
  .p (.storeT (.t 8) 34 3) .unit,
  .p (.mv 9 (.t 35)) .unit,
  .p (.mv 10 (.t 36)) .unit])
 (.seq (.seq (.join ⟨[(1, false), (4, false), (5, false), (6, false), (7, false), (8, false), (9, false), (10, false), (50, false)], [.box (.pair .str (.pair (.sl false .str) .bool)), .box (.pair .str (.pair (.sl true .str) .bool)), .cell .str, .cell .bool, .box (.pair .str (.pair (.sl true .str) .bool)), .box (.pair .str (.pair (.sl true .str) .bool)), .cell .str, .cell .bool, .cell .bool]⟩ (.reg none [.p (.load 37 (.t 8) 3 true) .unit,
  .p (.load 38 (.t 4) 3 true) .unit,
  .p (.callB 39 n_laws_eqBox [((.t 37), 0), ((.t 38), 0)]) .unit,
  .p (.un 40 .not (.t 39)) .unit,
  .p (.mv 41 (.t 40)) .unit,
  .g 41 false (some 42) (.mv 42 (.t 9)) .unit,
  .g 41 false (some 43) (.mv 43 (.t 5)) .unit,
  .g 41 false (some 44) (.bin 44 false .neq (.t 42) (.t 43)) .unit,
  .p (.pick 45 (.t 41) (.c (.bool true)) (.t 44)) .unit,
  .p (.mv 46 (.t 45)) .unit,
  .g 46 false (some 47) (.mv 47 (.t 10)) .unit,
  .g 46 false (some 48) (.mv 48 (.t 6)) .unit,
  .g 46 false (some 49) (.bin 49 true .neq (.t 47) (.t 48)) .unit,
  .p (.pick 50 (.t 46) (.c (.bool true)) (.t 49)) .unit]))
 (.cond (.t 50) (.seq (.reg none [.p (.mv 2 (.c (.bool false))) .unit])
 .ret) .skip))
 (.seq (.seq (.reg (some [[], [], [1], [0, 2, 2], [3]]) [.p (.load 51 (.t 7) 3 true) .unit,
  .p (.load 52 (.t 1) 3 true) .unit,
  .p (.callB 53 n_laws_toBox [((.t 52), 0)]) .unit,
  .p (.callB 54 n_laws_eqBox [((.t 51), 0), ((.t 53), 0)]) .unit,
  .p (.un 55 .not (.t 54)) .unit])
 (.cond (.t 55) (.seq (.reg none [.p (.mv 2 (.c (.bool false))) .unit])
 .ret) .skip))
 (.seq (.reg none [.p (.mv 11 (.c (.int .i64 1))) .unit])
 (.seq (.reg none [.p (.load 56 (.t 7) 3 true) .unit,
  .p (.mv 57 (.t 11)) .unit,
  .p (.callM 58 n_laws_markBox [] (.agg (.t 56) 7) [((.t 57), 0)]) .unit,
  .p (.mv 11 (.t 58)) .unit])
 (.seq (.seq (.join ⟨[(1, false), (4, false), (5, false), (6, false), (8, false), (76, false)], [.box (.pair .str (.pair (.sl false .str) .bool)), .box (.pair .str (.pair (.sl true .str) .bool)), .cell .str, .cell .bool, .box (.pair .str (.pair (.sl true .str) .bool)), .cell .bool]⟩ (.reg none [.p (.mv 59 (.t 11)) .unit,
  .p (.bin 60 false .lss (.t 59) (.c (.int .i64 0))) .unit,
  .p (.mv 61 (.t 60)) .unit,
  .g 61 false (some 62) (.load 62 (.t 8) 3 true) .unit,
  .g 61 false (some 63) (.load 63 (.t 4) 3 true) .unit,
  .g 61 false (some 64) (.callB 64 n_laws_eqBox [((.t 62), 0), ((.t 63), 0)]) .unit,
  .g 61 false (some 65) (.un 65 .not (.t 64)) .unit,
  .p (.pick 66 (.t 61) (.c (.bool true)) (.t 65)) .unit,
  .p (.mv 67 (.t 66)) .unit,
  .g 67 false (some 68) (.mv 68 (.t 9)) .unit,
  .g 67 false (some 69) (.mv 69 (.t 5)) .unit,
  .g 67 false (some 70) (.bin 70 false .neq (.t 68) (.t 69)) .unit,
  .p (.pick 71 (.t 67) (.c (.bool true)) (.t 70)) .unit,
  .p (.mv 72 (.t 71)) .unit,
  .g 72 false (some 73) (.mv 73 (.t 10)) .unit,
  .g 72 false (some 74) (.mv 74 (.t 6)) .unit,
  .g 72 false (some 75) (.bin 75 true .neq (.t 73) (.t 74)) .unit,
  .p (.pick 76 (.t 72) (.c (.bool true)) (.t 75)) .unit]))
 (.cond (.t 76) (.seq (.reg none [.p (.mv 2 (.c (.bool false))) .unit])
 .ret) .skip))
 (.seq (.reg none [.p (.mv 12 (.c (.int .i64 1))) .unit])
 (.seq (.reg none [.p (.load 77 (.t 8) 3 true) .unit,
  .p (.mv 78 (.t 12)) .unit,
  .p (.callM 79 n_laws_markBox [] (.agg (.t 77) 8) [((.t 78), 0)]) .unit,
  .p (.mv 12 (.t 79)) .unit])
 (.seq (.reg none [.p (.mv 13 (.c (.int .i64 1))) .unit])
 (.seq (.reg none [.p (.load 80 (.t 8) 3 true) .unit,
  .p (.mv 81 (.t 13)) .unit,
  .p (.callB 82 n_laws_heldBox [((.t 80), 0), ((.t 81), 0)]) .unit,
  .p (.mv 13 (.t 82)) .unit])
 (.seq (.seq (.reg none [.p (.mv 83 (.t 13)) .unit,
  .p (.bin 84 false .lss (.t 83) (.c (.int .i64 0))) .unit])
 (.cond (.t 84) (.seq (.reg none [.p (.mv 2 (.c (.bool false))) .unit])
 .ret) .skip))
 (.seq (.seq (.reg none [.p (.mv 85 (.t 13)) .unit,
  .p (.mv 86 (.t 12)) .unit,
  .p (.bin 87 false .neq (.t 85) (.t 86)) .unit])
 (.cond (.t 87) (.seq (.reg none [.p (.mv 2 (.c (.bool false))) .unit])
 .ret) .skip))
 (.seq (.reg none [.p (.load 89 (.t 1) 3 true) .unit,
  .p (.callB 90 n_laws_toBox [((.t 89), 0)]) .unit,
  .p (.callB 91 n_impl_Fetch [((.t 90), 0)]) .unit,
  .p (.mvT 88 91) .unit,
  .p (.extT 92 88 0) .unit,
  .p (.ext 93 (.t 88) 1) .unit,
  .p (.ext 94 (.t 88) 2) .unit,
  .p (.alloc 14 [(.lit (.string (ba []))), (.sl true 1 []), (.lit (.bool false))]) .unit,
  .p (.storeT (.t 14) 92 3) .unit,
  .p (.mv 15 (.t 93)) .unit,
  .p (.mv 16 (.t 94)) .unit])
 (.seq (.seq (.join ⟨[(8, false), (12, false), (108, false)], [.box (.pair .str (.pair (.sl true .str) .bool)), .cell (.int .i64), .cell .bool]⟩ (.reg none [.p (.load 95 (.t 14) 3 true) .unit,
  .p (.load 96 (.t 4) 3 true) .unit,
  .p (.callB 97 n_laws_eqBox [((.t 95), 0), ((.t 96), 0)]) .unit,
  .p (.un 98 .not (.t 97)) .unit,
  .p (.mv 99 (.t 98)) .unit,
  .g 99 false (some 100) (.mv 100 (.t 15)) .unit,
  .g 99 false (some 101) (.mv 101 (.t 5)) .unit,
  .g 99 false (some 102) (.bin 102 false .neq (.t 100) (.t 101)) .unit,
  .p (.pick 103 (.t 99) (.c (.bool true)) (.t 102)) .unit,
  .p (.mv 104 (.t 103)) .unit,
  .g 104 false (some 105) (.mv 105 (.t 16)) .unit,
  .g 104 false (some 106) (.mv 106 (.t 6)) .unit,
  .g 104 false (some 107) (.bin 107 true .neq (.t 105) (.t 106)) .unit,
  .p (.pick 108 (.t 104) (.c (.bool true)) (.t 107)) .unit]))
 (.cond (.t 108) (.seq (.reg none [.p (.mv 2 (.c (.bool false))) .unit])
 .ret) .skip))
 (.seq (.reg none [.p (.mv 13 (.c (.int .i64 1))) .unit])
 (.seq (.reg none [.p (.load 109 (.t 8) 3 true) .unit,
  .p (.mv 110 (.t 13)) .unit,
  .p (.callB 111 n_laws_heldBox [((.t 109), 0), ((.t 110), 0)]) .unit,
  .p (.mv 13 (.t 111)) .unit])
 (.seq (.seq (.reg none [.p (.mv 112 (.t 13)) .unit,
  .p (.bin 113 false .lss (.t 112) (.c (.int .i64 0))) .unit])
 (.cond (.t 113) (.seq (.reg none [.p (.mv 2 (.c (.bool false))) .unit])
 .ret) .skip))
 (.seq (.seq (.reg none [.p (.mv 114 (.t 13)) .unit,
  .p (.mv 115 (.t 12)) .unit,
  .p (.bin 116 false .neq (.t 114) (.t 115)) .unit])
 (.cond (.t 116) (.seq (.reg none [.p (.mv 2 (.c (.bool false))) .unit])
 .ret) .skip))
 (.seq (.reg none [.p (.mv 2 (.c (.bool true))) .unit])
 .ret))))))))))))))))))))))))),
 117, 1, [.t 2]⟩
theorem m_laws_FnExactFetch : mH Try.prog 11 [(5, 3, .t), (5, 4, .t), (5, 8, .t), (6, 3, .t), (7, 2, .t), (7, 3, .t), (7, 7, .t), (13, 2, (.g 0 7)), (17, 2, (.g 0 8)), (24, 3, .t), (24, 4, .t), (24, 8, .t)] = some (F_laws_FnExactFetch.code.x, F_laws_FnExactFetch.N, F_laws_FnExactFetch.np, F_laws_FnExactFetch.res) := by kernel_rfl
noncomputable def T_laws_FnExactFetch : List UInt8 × List (List UInt8) × Bool → Option (Bool) := evF [fn_laws_szBox, fn_laws_toBox, fn_spec_Fetch, fn_impl_Fetch, fn_laws_eqBox, fn_laws_markBox, fn_laws_heldBox] F_laws_FnExactFetch [.agg (.pair .str (.pair (.sl false .str) .bool))] [] [.cell .bool] []
noncomputable def fn_laws_FnExactFetch : TFn := ⟨11, [.agg (.pair .str (.pair (.sl false .str) .bool))], [], [.cell .bool], [], T_laws_FnExactFetch⟩
theorem ok_laws_FnExactFetch : FnOk Try.prog fn_laws_FnExactFetch := evF_ok mixed (allOk_cons ok_laws_szBox (allOk_cons ok_laws_toBox (allOk_cons ok_spec_Fetch (allOk_cons ok_impl_Fetch (allOk_cons ok_laws_eqBox (allOk_cons ok_laws_markBox (allOk_cons ok_laws_heldBox allOk_nil))))))) m_laws_FnExactFetch (by decide)

end Xs
end Go.Proofs.Ytfepabohinkpgaa
