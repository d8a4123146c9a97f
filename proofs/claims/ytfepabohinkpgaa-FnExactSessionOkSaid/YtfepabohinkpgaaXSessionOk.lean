/- The typed code of the functions, printed by program. -/
import Derived.Test.YtfepabohinkpgaaT7
import Derived.Test.YtfepabohinkpgaaProg
import Derived.KernelRfl
namespace Go.Proofs.Ytfepabohinkpgaa
open Go Vm
namespace Xs
theorem mixed : Try.prog.follows .mixedOrders = true := by kernel_rfl
abbrev n_laws_FnExactSessionOk : Nat := 7
abbrev n_laws_szSession : Nat := 33
abbrev n_spec_SessionOk : Nat := 34
abbrev n_laws_toSession : Nat := 35
abbrev n_impl_SessionOk : Nat := 36
abbrev n_laws_eqSession : Nat := 37
abbrev n_laws_eqStringS : Nat := 45
abbrev n_spec_l01In : Nat := 67
abbrev n_impl_inRange : Nat := 71
abbrev n_laws_szStringS : Nat := 73
abbrev n_spec_NameOk : Nat := 74
abbrev n_laws_toStringS : Nat := 75
abbrev n_impl_NameOk : Nat := 76
abbrev n_spec_l17Names : Nat := 83
abbrev n_impl_areNames : Nat := 84
abbrev n_laws_szReader : Nat := 86
abbrev n_laws_toReader : Nat := 87
abbrev n_impl_isDaemon : Nat := 88
abbrev n_laws_eqReader : Nat := 89
def F_laws_szReader : TF := ⟨(.seq (.reg none [.p (.box 2 (.t 0)) .unit,
  .p (.mv 4 (.c (.int .i64 0))) .unit])
 (.seq (.reg none [.p (.mv 5 (.t 1)) .unit,
  .p (.fadr 6 (.t 2) 0) .unit,
  .p (.load 7 (.t 6) 1 false) .unit,
  .p (.lenS 8 (.t 7)) .unit,
  .p (.bin 9 false .sub (.t 5) (.t 8)) .unit,
  .p (.mv 1 (.t 9)) .unit])
 (.seq (.seq (.reg none [.p (.mv 10 (.t 1)) .unit,
  .p (.bin 11 false .lss (.t 10) (.c (.int .i64 0))) .unit])
 (.cond (.t 11) (.seq (.reg none [.p (.mv 4 (.c (.int .i64 (-1)))) .unit])
 .ret) .skip))
 (.seq (.reg none [.p (.mv 12 (.t 1)) .unit,
  .p (.mv 4 (.t 12)) .unit])
 .ret)))),
 13, 2, [.t 4]⟩
theorem m_laws_szReader : mH Try.prog 86 [] = some (F_laws_szReader.code.x, F_laws_szReader.N, F_laws_szReader.np, F_laws_szReader.res) := by kernel_rfl
def T_laws_szReader : (List UInt8 × Bool) × Int → Option (Int) := evF [] F_laws_szReader [.agg (.pair .str .bool), .cell (.int .i64)] [] [.cell (.int .i64)] []
def fn_laws_szReader : TFn := ⟨86, [.agg (.pair .str .bool), .cell (.int .i64)], [], [.cell (.int .i64)], [], T_laws_szReader⟩
theorem ok_laws_szReader : FnOk Try.prog fn_laws_szReader := evF_ok mixed allOk_nil m_laws_szReader (by decide)
def B_laws_szStringS_1 : TC := (.seq (.seq (.reg none [.p (.mv 12 (.t 5)) .unit,
  .p (.mv 13 (.t 0)) .unit,
  .p (.lenB 14 (.t 13)) .unit,
  .p (.bin 15 false .lss (.t 12) (.t 14)) .unit])
 (.cond (.t 15) .skip (.exit 0)))
 (.seq (.block 1 (.seq (.reg none [.p (.mv 18 (.t 1)) .unit,
  .p (.mv 19 (.t 0)) .unit,
  .p (.mv 20 (.t 5)) .unit,
  .p (.iadr 21 1 (.t 19) (.t 20)) .unit,
  .p (.load 22 (.t 21) 1 false) .unit,
  .p (.lenS 23 (.t 22)) .unit,
  .p (.bin 24 false .sub (.t 18) (.t 23)) .unit,
  .p (.mv 1 (.t 24)) .unit])
 (.seq (.reg none [.p (.mv 25 (.t 1)) .unit,
  .p (.bin 26 false .lss (.t 25) (.c (.int .i64 0))) .unit])
 (.cond (.t 26) (.seq (.reg none [.p (.mv 4 (.c (.int .i64 (-1)))) .unit])
 .ret) .skip))))
 (.reg none [.p (.mv 16 (.t 5)) .unit,
  .p (.bin 17 false .add (.t 16) (.c (.int .i64 1))) .unit,
  .p (.mv 5 (.t 17)) .unit])))
def L_laws_szStringS_1 : Nat → (List (List UInt8)) × (Int) × Int → Option ((Int) ⊕ (Int)) := evL [] (finT [.t 4] [] [.cell (.int .i64)]) 0 ⟨[(0, true), (1, false), (5, false)], [.cell (.sl false .str), .cell (.int .i64), .cell (.int .i64)]⟩ ⟨[(1, false)], [.cell (.int .i64)]⟩ B_laws_szStringS_1
def F_laws_szStringS : TF := ⟨(.seq (.reg none [.p (.mv 4 (.c (.int .i64 0))) .unit])
 (.seq (.reg none [.p (.mv 6 (.t 1)) .unit,
  .p (.mv 7 (.t 0)) .unit,
  .p (.lenB 8 (.t 7)) .unit,
  .p (.bin 9 false .sub (.t 6) (.t 8)) .unit,
  .p (.mv 1 (.t 9)) .unit])
 (.seq (.seq (.reg none [.p (.mv 10 (.t 1)) .unit,
  .p (.bin 11 false .lss (.t 10) (.c (.int .i64 0))) .unit])
 (.cond (.t 11) (.seq (.reg none [.p (.mv 4 (.c (.int .i64 (-1)))) .unit])
 .ret) .skip))
 (.seq (.seq (.reg none [.p (.mv 5 (.c (.int .i64 0))) .unit])
 (.jl 0 ⟨[(0, true), (1, false), (5, false)], [.cell (.sl false .str), .cell (.int .i64), .cell (.int .i64)]⟩ ⟨[(1, false)], [.cell (.int .i64)]⟩ B_laws_szStringS_1))
 (.seq (.reg none [.p (.mv 27 (.t 1)) .unit,
  .p (.mv 4 (.t 27)) .unit])
 .ret))))),
 28, 2, [.t 4]⟩
theorem m_laws_szStringS : mH Try.prog 73 [] = some (F_laws_szStringS.code.x, F_laws_szStringS.N, F_laws_szStringS.np, F_laws_szStringS.res) := by kernel_rfl
def T_laws_szStringS : (List (List UInt8)) × Int → Option (Int) := evF [] F_laws_szStringS [.cell (.sl false .str), .cell (.int .i64)] [] [.cell (.int .i64)] []
def fn_laws_szStringS : TFn := ⟨73, [.cell (.sl false .str), .cell (.int .i64)], [], [.cell (.int .i64)], [], T_laws_szStringS⟩
theorem ok_laws_szStringS : FnOk Try.prog fn_laws_szStringS := evF_ok mixed allOk_nil m_laws_szStringS (by decide)
def F_laws_szSession : TF := ⟨(.seq (.reg none [.p (.box 2 (.t 0)) .unit,
  .p (.mv 4 (.c (.int .i64 0))) .unit])
 (.seq (.reg none [.p (.mv 5 (.t 1)) .unit,
  .p (.fadr 6 (.t 2) 1) .unit,
  .p (.load 7 (.t 6) 1 false) .unit,
  .p (.lenS 8 (.t 7)) .unit,
  .p (.bin 9 false .sub (.t 5) (.t 8)) .unit,
  .p (.mv 1 (.t 9)) .unit])
 (.seq (.seq (.reg none [.p (.mv 10 (.t 1)) .unit,
  .p (.bin 11 false .lss (.t 10) (.c (.int .i64 0))) .unit])
 (.cond (.t 11) (.seq (.reg none [.p (.mv 4 (.c (.int .i64 (-1)))) .unit])
 .ret) .skip))
 (.seq (.reg none [.p (.fadr 12 (.t 2) 2) .unit,
  .p (.load 13 (.t 12) 2 true) .unit,
  .p (.mv 14 (.t 1)) .unit,
  .p (.callB 15 n_laws_szReader [((.t 13), 0), ((.t 14), 0)]) .unit,
  .p (.mv 1 (.t 15)) .unit])
 (.seq (.seq (.reg none [.p (.mv 16 (.t 1)) .unit,
  .p (.bin 17 false .lss (.t 16) (.c (.int .i64 0))) .unit])
 (.cond (.t 17) (.seq (.reg none [.p (.mv 4 (.c (.int .i64 (-1)))) .unit])
 .ret) .skip))
 (.seq (.reg none [.p (.fadr 18 (.t 2) 5) .unit,
  .p (.load 19 (.t 18) 1 false) .unit,
  .p (.mv 20 (.t 1)) .unit,
  .p (.callB 21 n_laws_szStringS [((.t 19), 0), ((.t 20), 0)]) .unit,
  .p (.mv 1 (.t 21)) .unit])
 (.seq (.seq (.reg none [.p (.mv 22 (.t 1)) .unit,
  .p (.bin 23 false .lss (.t 22) (.c (.int .i64 0))) .unit])
 (.cond (.t 23) (.seq (.reg none [.p (.mv 4 (.c (.int .i64 (-1)))) .unit])
 .ret) .skip))
 (.seq (.reg none [.p (.mv 24 (.t 1)) .unit,
  .p (.mv 4 (.t 24)) .unit])
 .ret)))))))),
 25, 2, [.t 4]⟩
theorem m_laws_szSession : mH Try.prog 33 [] = some (F_laws_szSession.code.x, F_laws_szSession.N, F_laws_szSession.np, F_laws_szSession.res) := by kernel_rfl
def T_laws_szSession : (Int × List UInt8 × (List UInt8 × Bool) × Bool × List (List UInt8)) × Int → Option (Int) := evF [fn_laws_szReader, fn_laws_szStringS] F_laws_szSession [.agg (.pair (.int .i64) (.pair .str (.pair (.pair .str .bool) (.pair .bool (.sl false .str))))), .cell (.int .i64)] [] [.cell (.int .i64)] []
def fn_laws_szSession : TFn := ⟨33, [.agg (.pair (.int .i64) (.pair .str (.pair (.pair .str .bool) (.pair .bool (.sl false .str))))), .cell (.int .i64)], [], [.cell (.int .i64)], [], T_laws_szSession⟩
theorem ok_laws_szSession : FnOk Try.prog fn_laws_szSession := evF_ok mixed (allOk_cons ok_laws_szReader (allOk_cons ok_laws_szStringS allOk_nil)) m_laws_szSession (by decide)
def F_laws_toReader : TF := ⟨(.seq (.reg none [.p (.box 1 (.t 0)) .unit,
  .p (.alloc 2 [(.lit (.string (ba []))), (.lit (.bool false))]) .unit])
 (.seq (.reg none [.p (.alloc 3 [(.lit (.string (ba []))), (.lit (.bool false))]) .unit])
 (.seq (.reg none [.p (.fadr 4 (.t 1) 0) .unit,
  .p (.load 5 (.t 4) 1 false) .unit,
  .p (.fadr 6 (.t 3) 0) .unit,
  .p (.store (.t 6) (.t 5) 1) .unit])
 (.seq (.reg none [.p (.fadr 7 (.t 1) 1) .unit,
  .p (.load 8 (.t 7) 1 false) .unit,
  .p (.fadr 9 (.t 3) 1) .unit,
  .p (.store (.t 9) (.t 8) 1) .unit])
 (.seq (.reg none [.p (.load 10 (.t 3) 2 true) .unit,
  .p (.store (.t 2) (.t 10) 2) .unit])
 .ret))))),
 11, 1, [.c 2 2 true]⟩
theorem m_laws_toReader : mH Try.prog 87 [] = some (F_laws_toReader.code.x, F_laws_toReader.N, F_laws_toReader.np, F_laws_toReader.res) := by kernel_rfl
def T_laws_toReader : List UInt8 × Bool → Option (List UInt8 × Bool) := evF [] F_laws_toReader [.agg (.pair .str .bool)] [] [.agg (.pair .str .bool)] []
def fn_laws_toReader : TFn := ⟨87, [.agg (.pair .str .bool)], [], [.agg (.pair .str .bool)], [], T_laws_toReader⟩
theorem ok_laws_toReader : FnOk Try.prog fn_laws_toReader := evF_ok mixed allOk_nil m_laws_toReader (by decide)
def B_laws_toStringS_1 : TC := (.seq (.seq (.reg none [.p (.mv 8 (.t 4)) .unit,
  .p (.mv 9 (.t 0)) .unit,
  .p (.lenB 10 (.t 9)) .unit,
  .p (.bin 11 false .lss (.t 8) (.t 10)) .unit])
 (.cond (.t 11) .skip (.exit 0)))
 (.seq (.block 1 (.reg none [.p (.mvA 14 3) .unit,
  .p (.mv 15 (.t 4)) .unit,
  .p (.mv 16 (.t 0)) .unit,
  .p (.mv 17 (.t 4)) .unit,
  .p (.iadr 18 1 (.t 16) (.t 17)) .unit,
  .p (.load 19 (.t 18) 1 false) .unit,
  .p (.iadr 20 1 (.t 14) (.t 15)) .unit,
  .p (.store (.t 20) (.t 19) 1) .unit]))
 (.reg none [.p (.mv 12 (.t 4)) .unit,
  .p (.bin 13 false .add (.t 12) (.c (.int .i64 1))) .unit,
  .p (.mv 4 (.t 13)) .unit])))
def L_laws_toStringS_1 : Nat → (List (List UInt8)) × (List (List UInt8)) × Int → Option ((List (List UInt8)) ⊕ (List (List UInt8))) := evL [] (finT [.t 2] [] [.cell (.sl true .str)]) 0 ⟨[(0, true), (3, false), (4, false)], [.cell (.sl false .str), .cell (.sl true .str), .cell (.int .i64)]⟩ ⟨[(3, false)], [.cell (.sl true .str)]⟩ B_laws_toStringS_1
def F_laws_toStringS : TF := ⟨(.seq (.reg none [.p (.mvN 2 1) .unit])
 (.seq (.reg none [.p (.mv 5 (.t 0)) .unit,
  .p (.lenB 6 (.t 5)) .unit,
  .p (.mkS 7 16 [(.lit (.string (ba [])))] (.t 6) (.t 6)) .str,
  .p (.mvT 3 7) .unit])
 (.seq (.seq (.reg none [.p (.mv 4 (.c (.int .i64 0))) .unit])
 (.jl 0 ⟨[(0, true), (3, false), (4, false)], [.cell (.sl false .str), .cell (.sl true .str), .cell (.int .i64)]⟩ ⟨[(3, false)], [.cell (.sl true .str)]⟩ B_laws_toStringS_1))
 (.seq (.reg none [.p (.mvT 21 3) .unit,
  .p (.mvT 2 21) .unit])
 .ret)))),
 22, 1, [.t 2]⟩
theorem m_laws_toStringS : mH Try.prog 75 [(1, 3, .t), (5, 0, .v), (6, 0, .t), (6, 1, .t)] = some (F_laws_toStringS.code.x, F_laws_toStringS.N, F_laws_toStringS.np, F_laws_toStringS.res) := by kernel_rfl
def T_laws_toStringS : List (List UInt8) → Option (List (List UInt8)) := evF [] F_laws_toStringS [.cell (.sl false .str)] [] [.cell (.sl true .str)] []
def fn_laws_toStringS : TFn := ⟨75, [.cell (.sl false .str)], [], [.cell (.sl true .str)], [], T_laws_toStringS⟩
theorem ok_laws_toStringS : FnOk Try.prog fn_laws_toStringS := evF_ok mixed allOk_nil m_laws_toStringS (by decide)
def F_laws_toSession : TF := ⟨(.seq (.reg none [.p (.box 1 (.t 0)) .unit,
  .p (.alloc 2 [(.lit (.int .i64 0)), (.lit (.string (ba []))), (.lit (.string (ba []))), (.lit (.bool false)), (.lit (.bool false)), (.sl true 1 [])]) .unit])
 (.seq (.reg none [.p (.alloc 3 [(.lit (.int .i64 0)), (.lit (.string (ba []))), (.lit (.string (ba []))), (.lit (.bool false)), (.lit (.bool false)), (.sl true 1 [])]) .unit])
 (.seq (.reg none [.p (.fadr 4 (.t 1) 0) .unit,
  .p (.load 5 (.t 4) 1 false) .unit,
  .p (.fadr 6 (.t 3) 0) .unit,
  .p (.store (.t 6) (.t 5) 1) .unit])
 (.seq (.reg none [.p (.fadr 7 (.t 1) 1) .unit,
  .p (.load 8 (.t 7) 1 false) .unit,
  .p (.fadr 9 (.t 3) 1) .unit,
  .p (.store (.t 9) (.t 8) 1) .unit])
 (.seq (.reg none [.p (.fadr 10 (.t 1) 2) .unit,
  .p (.load 11 (.t 10) 2 true) .unit,
  .p (.callB 12 n_laws_toReader [((.t 11), 0)]) .unit,
  .p (.fadr 13 (.t 3) 2) .unit,
  .p (.store (.t 13) (.t 12) 2) .unit])
 (.seq (.reg none [.p (.fadr 14 (.t 1) 4) .unit,
  .p (.load 15 (.t 14) 1 false) .unit,
  .p (.fadr 16 (.t 3) 4) .unit,
  .p (.store (.t 16) (.t 15) 1) .unit])
 (.seq (.reg none [.p (.fadr 17 (.t 1) 5) .unit,
  .p (.load 18 (.t 17) 1 false) .unit,
  .p (.callB 19 n_laws_toStringS [((.t 18), 0)]) .unit,
  .p (.fadr 20 (.t 3) 5) .unit,
  .p (.storeT (.t 20) 19 1) .unit])
 (.seq (.reg none [.p (.loadT 21 (.t 3) 6 true) .unit,
  .p (.storeT (.t 2) 21 6) .unit])
 .ret)))))))),
 22, 1, [.c 2 6 true]⟩
theorem m_laws_toSession : mH Try.prog 35 [(6, 4, .t), (7, 0, .t), (7, 1, .t)] = some (F_laws_toSession.code.x, F_laws_toSession.N, F_laws_toSession.np, F_laws_toSession.res) := by kernel_rfl
def T_laws_toSession : Int × List UInt8 × (List UInt8 × Bool) × Bool × List (List UInt8) → Option (Int × List UInt8 × (List UInt8 × Bool) × Bool × List (List UInt8)) := evF [fn_laws_toReader, fn_laws_toStringS] F_laws_toSession [.agg (.pair (.int .i64) (.pair .str (.pair (.pair .str .bool) (.pair .bool (.sl false .str)))))] [] [.agg (.pair (.int .i64) (.pair .str (.pair (.pair .str .bool) (.pair .bool (.sl true .str)))))] []
def fn_laws_toSession : TFn := ⟨35, [.agg (.pair (.int .i64) (.pair .str (.pair (.pair .str .bool) (.pair .bool (.sl false .str)))))], [], [.agg (.pair (.int .i64) (.pair .str (.pair (.pair .str .bool) (.pair .bool (.sl true .str)))))], [], T_laws_toSession⟩
theorem ok_laws_toSession : FnOk Try.prog fn_laws_toSession := evF_ok mixed (allOk_cons ok_laws_toReader (allOk_cons ok_laws_toStringS allOk_nil)) m_laws_toSession (by decide)
def F_spec_l01In : TF := ⟨(.seq (.reg none [.p (.mv 6 (.c (.bool false))) .unit])
 (.seq (.reg none [.p (.mv 7 (.t 0)) .unit,
  .p (.mv 8 (.t 1)) .unit,
  .p (.bin 9 false .geq (.t 7) (.t 8)) .unit,
  .p (.mv 10 (.t 9)) .unit,
  .g 10 true (some 11) (.mv 11 (.t 0)) .unit,
  .g 10 true (some 12) (.mv 12 (.t 2)) .unit,
  .g 10 true (some 13) (.bin 13 false .leq (.t 11) (.t 12)) .unit,
  .p (.pick 14 (.t 10) (.t 13) (.c (.bool false))) .unit,
  .p (.mv 6 (.t 14)) .unit])
 .ret)),
 15, 3, [.t 6]⟩
theorem m_spec_l01In : mH Try.prog 67 [] = some (F_spec_l01In.code.x, F_spec_l01In.N, F_spec_l01In.np, F_spec_l01In.res) := by kernel_rfl
def T_spec_l01In : (Int) × (Int) × Int → Option (Bool) := evF [] F_spec_l01In [.cell (.int .i64), .cell (.int .i64), .cell (.int .i64)] [] [.cell .bool] []
def fn_spec_l01In : TFn := ⟨67, [.cell (.int .i64), .cell (.int .i64), .cell (.int .i64)], [], [.cell .bool], [], T_spec_l01In⟩
theorem ok_spec_l01In : FnOk Try.prog fn_spec_l01In := evF_ok mixed allOk_nil m_spec_l01In (by decide)
def B_spec_NameOk_1 : TC := (.seq (.seq (.reg none [.p (.mv 18 (.t 3)) .unit,
  .p (.mv 19 (.t 0)) .unit,
  .p (.lenS 20 (.t 19)) .unit,
  .p (.bin 21 false .lss (.t 18) (.t 20)) .unit])
 (.cond (.t 21) .skip (.exit 0)))
 (.seq (.block 1 (.seq (.join ⟨[(0, true), (3, false), (45, false)], [.cell .str, .cell (.int .i64), .cell .bool]⟩ (.reg none [.p (.mv 24 (.t 0)) .unit,
  .p (.mv 25 (.t 3)) .unit,
  .p (.idx 26 (.t 24) (.t 25)) .unit,
  .p (.bin 27 false .lss (.t 26) (.c (.int .u8 97))) .unit,
  .p (.mv 28 (.t 27)) .unit,
  .g 28 false (some 29) (.mv 29 (.t 0)) .unit,
  .g 28 false (some 30) (.mv 30 (.t 3)) .unit,
  .g 28 false (some 31) (.idx 31 (.t 29) (.t 30)) .unit,
  .g 28 false (some 32) (.bin 32 false .gtr (.t 31) (.c (.int .u8 122))) .unit,
  .p (.pick 33 (.t 28) (.c (.bool true)) (.t 32)) .unit,
  .p (.mv 34 (.t 33)) .unit,
  .g 34 true (some 35) (.mv 35 (.t 0)) .unit,
  .g 34 true (some 36) (.mv 36 (.t 3)) .unit,
  .g 34 true (some 37) (.idx 37 (.t 35) (.t 36)) .unit,
  .g 34 true (some 38) (.bin 38 false .lss (.t 37) (.c (.int .u8 48))) .unit,
  .g 34 true (some 39) (.mv 39 (.t 38)) .unit,
  .g 39 false (some 40) (.mv 40 (.t 0)) .unit,
  .g 39 false (some 41) (.mv 41 (.t 3)) .unit,
  .g 39 false (some 42) (.idx 42 (.t 40) (.t 41)) .unit,
  .g 39 false (some 43) (.bin 43 false .gtr (.t 42) (.c (.int .u8 57))) .unit,
  .g 34 true (some 44) (.pick 44 (.t 39) (.c (.bool true)) (.t 43)) .unit,
  .p (.pick 45 (.t 34) (.t 44) (.c (.bool false))) .unit]))
 (.cond (.t 45) (.seq (.reg none [.p (.mv 2 (.c (.bool false))) .unit])
 .ret) .skip)))
 (.reg none [.p (.mv 22 (.t 3)) .unit,
  .p (.bin 23 false .add (.t 22) (.c (.int .i64 1))) .unit,
  .p (.mv 3 (.t 23)) .unit])))
def L_spec_NameOk_1 : Nat → (List UInt8) × Int → Option ((Unit) ⊕ (Bool)) := evL [fn_spec_l01In] (finT [.t 2] [] [.cell .bool]) 0 ⟨[(0, true), (3, false)], [.cell .str, .cell (.int .i64)]⟩ ⟨[], []⟩ B_spec_NameOk_1
def F_spec_NameOk : TF := ⟨(.seq (.reg none [.p (.mv 2 (.c (.bool false))) .unit])
 (.seq (.seq (.join ⟨[(0, true), (17, false)], [.cell .str, .cell .bool]⟩ (.reg none [.p (.mv 4 (.t 0)) .unit,
  .p (.lenS 5 (.t 4)) .unit,
  .p (.callB 6 n_spec_l01In [((.t 5), 0), ((.c (.int .i64 1)), 0), ((.c (.int .i64 12)), 0)]) .unit,
  .p (.un 7 .not (.t 6)) .unit,
  .p (.mv 8 (.t 7)) .unit,
  .g 8 false (some 9) (.mv 9 (.t 0)) .unit,
  .g 8 false (some 10) (.idx 10 (.t 9) (.c (.int .i64 0))) .unit,
  .g 8 false (some 11) (.bin 11 false .lss (.t 10) (.c (.int .u8 97))) .unit,
  .p (.pick 12 (.t 8) (.c (.bool true)) (.t 11)) .unit,
  .p (.mv 13 (.t 12)) .unit,
  .g 13 false (some 14) (.mv 14 (.t 0)) .unit,
  .g 13 false (some 15) (.idx 15 (.t 14) (.c (.int .i64 0))) .unit,
  .g 13 false (some 16) (.bin 16 false .gtr (.t 15) (.c (.int .u8 122))) .unit,
  .p (.pick 17 (.t 13) (.c (.bool true)) (.t 16)) .unit]))
 (.cond (.t 17) (.seq (.reg none [.p (.mv 2 (.c (.bool false))) .unit])
 .ret) .skip))
 (.seq (.seq (.reg none [.p (.mv 3 (.c (.int .i64 0))) .unit])
 (.jl 0 ⟨[(0, true), (3, false)], [.cell .str, .cell (.int .i64)]⟩ ⟨[], []⟩ B_spec_NameOk_1))
 (.seq (.reg none [.p (.mv 2 (.c (.bool true))) .unit])
 .ret)))),
 46, 1, [.t 2]⟩
theorem m_spec_NameOk : mH Try.prog 74 [] = some (F_spec_NameOk.code.x, F_spec_NameOk.N, F_spec_NameOk.np, F_spec_NameOk.res) := by kernel_rfl
def T_spec_NameOk : List UInt8 → Option (Bool) := evF [fn_spec_l01In] F_spec_NameOk [.cell .str] [] [.cell .bool] []
def fn_spec_NameOk : TFn := ⟨74, [.cell .str], [], [.cell .bool], [], T_spec_NameOk⟩
theorem ok_spec_NameOk : FnOk Try.prog fn_spec_NameOk := evF_ok mixed (allOk_cons ok_spec_l01In allOk_nil) m_spec_NameOk (by decide)
def B_spec_l17Names_1 : TC := (.seq (.seq (.reg none [.p (.mv 4 (.t 3)) .unit,
  .p (.mv 5 (.t 0)) .unit,
  .p (.lenB 6 (.t 5)) .unit,
  .p (.bin 7 false .lss (.t 4) (.t 6)) .unit])
 (.cond (.t 7) .skip (.exit 0)))
 (.seq (.block 1 (.seq (.join ⟨[(0, true), (3, false), (31, false)], [.cell (.sl false .str), .cell (.int .i64), .cell .bool]⟩ (.reg (some [[], [], [0, 1], [2], [3], [4], [5, 4], [6], [7, 6], [8, 6, 6], [9], [9], [11, 9], [10, 12, 9], [13, 9], [9], [9], [15, 16, 9], [17, 9], [14, 18, 9], [9, 19, 6], [6, 20]]) [.p (.mv 10 (.t 0)) .unit,
  .p (.mv 11 (.t 3)) .unit,
  .p (.iadr 12 1 (.t 10) (.t 11)) .unit,
  .p (.load 13 (.t 12) 1 false) .unit,
  .p (.callB 14 n_spec_NameOk [((.t 13), 0)]) .unit,
  .p (.un 15 .not (.t 14)) .unit,
  .p (.mv 16 (.t 15)) .unit,
  .g 16 false (some 17) (.mv 17 (.t 3)) .unit,
  .g 16 false (some 18) (.bin 18 false .gtr (.t 17) (.c (.int .i64 0))) .unit,
  .g 16 false (some 19) (.mv 19 (.t 18)) .unit,
  .g 19 true (some 20) (.mv 20 (.t 0)) .unit,
  .g 19 true (some 21) (.mv 21 (.t 3)) .unit,
  .g 19 true (some 22) (.bin 22 false .sub (.t 21) (.c (.int .i64 1))) .unit,
  .g 19 true (some 23) (.iadr 23 1 (.t 20) (.t 22)) .unit,
  .g 19 true (some 24) (.load 24 (.t 23) 1 false) .unit,
  .g 19 true (some 25) (.mv 25 (.t 0)) .unit,
  .g 19 true (some 26) (.mv 26 (.t 3)) .unit,
  .g 19 true (some 27) (.iadr 27 1 (.t 25) (.t 26)) .unit,
  .g 19 true (some 28) (.load 28 (.t 27) 1 false) .unit,
  .g 19 true (some 29) (.bin 29 false .geq (.t 24) (.t 28)) .unit,
  .g 16 false (some 30) (.pick 30 (.t 19) (.t 29) (.c (.bool false))) .unit,
  .p (.pick 31 (.t 16) (.c (.bool true)) (.t 30)) .unit]))
 (.cond (.t 31) (.seq (.reg none [.p (.mv 2 (.c (.bool false))) .unit])
 .ret) .skip)))
 (.reg none [.p (.mv 8 (.t 3)) .unit,
  .p (.bin 9 false .add (.t 8) (.c (.int .i64 1))) .unit,
  .p (.mv 3 (.t 9)) .unit])))
def L_spec_l17Names_1 : Nat → (List (List UInt8)) × Int → Option ((Unit) ⊕ (Bool)) := evL [fn_spec_NameOk] (finT [.t 2] [] [.cell .bool]) 0 ⟨[(0, true), (3, false)], [.cell (.sl false .str), .cell (.int .i64)]⟩ ⟨[], []⟩ B_spec_l17Names_1
def F_spec_l17Names : TF := ⟨(.seq (.reg none [.p (.mv 2 (.c (.bool false))) .unit])
 (.seq (.seq (.reg none [.p (.mv 3 (.c (.int .i64 0))) .unit])
 (.jl 0 ⟨[(0, true), (3, false)], [.cell (.sl false .str), .cell (.int .i64)]⟩ ⟨[], []⟩ B_spec_l17Names_1))
 (.seq (.reg none [.p (.mv 2 (.c (.bool true))) .unit])
 .ret))),
 32, 1, [.t 2]⟩
theorem m_spec_l17Names : mH Try.prog 83 [] = some (F_spec_l17Names.code.x, F_spec_l17Names.N, F_spec_l17Names.np, F_spec_l17Names.res) := by kernel_rfl
def T_spec_l17Names : List (List UInt8) → Option (Bool) := evF [fn_spec_NameOk] F_spec_l17Names [.cell (.sl false .str)] [] [.cell .bool] []
def fn_spec_l17Names : TFn := ⟨83, [.cell (.sl false .str)], [], [.cell .bool], [], T_spec_l17Names⟩
theorem ok_spec_l17Names : FnOk Try.prog fn_spec_l17Names := evF_ok mixed (allOk_cons ok_spec_NameOk allOk_nil) m_spec_l17Names (by decide)
def F_spec_SessionOk : TF := ⟨(.seq (.reg none [.p (.box 1 (.t 0)) .unit,
  .p (.mv 2 (.c (.bool false))) .unit])
 (.seq (.seq (.join ⟨[(1, false), (52, false)], [.box (.pair (.int .i64) (.pair .str (.pair (.pair .str .bool) (.pair .bool (.sl false .str))))), .cell .bool]⟩ (.reg none [.p (.fadr 3 (.t 1) 0) .unit,
  .p (.load 4 (.t 3) 1 false) .unit,
  .p (.callB 5 n_spec_l01In [((.t 4), 0), ((.c (.int .i64 1)), 0), ((.c (.int .i64 5)), 0)]) .unit,
  .p (.un 6 .not (.t 5)) .unit,
  .p (.mv 7 (.t 6)) .unit,
  .g 7 false (some 8) (.fadr 8 (.t 1) 1) .unit,
  .g 7 false (some 9) (.load 9 (.t 8) 1 false) .unit,
  .g 7 false (some 10) (.bin 10 false .neq (.t 9) (.c (.string (ba [])))) .unit,
  .g 7 false (some 11) (.mv 11 (.t 10)) .unit,
  .g 11 true (some 12) (.fadr 12 (.t 1) 1) .unit,
  .g 11 true (some 13) (.load 13 (.t 12) 1 false) .unit,
  .g 11 true (some 14) (.callB 14 n_spec_NameOk [((.t 13), 0)]) .unit,
  .g 11 true (some 15) (.un 15 .not (.t 14)) .unit,
  .g 7 false (some 16) (.pick 16 (.t 11) (.t 15) (.c (.bool false))) .unit,
  .p (.pick 17 (.t 7) (.c (.bool true)) (.t 16)) .unit,
  .p (.mv 18 (.t 17)) .unit,
  .g 18 false (some 19) (.fadr 19 (.t 1) 2) .unit,
  .g 18 false (some 20) (.fadr 20 (.t 19) 1) .unit,
  .g 18 false (some 21) (.load 21 (.t 20) 1 false) .unit,
  .p (.pick 22 (.t 18) (.c (.bool true)) (.t 21)) .unit,
  .p (.mv 23 (.t 22)) .unit,
  .g 23 false (some 24) (.fadr 24 (.t 1) 2) .unit,
  .g 23 false (some 25) (.fadr 25 (.t 24) 0) .unit,
  .g 23 false (some 26) (.load 26 (.t 25) 1 false) .unit,
  .g 23 false (some 27) (.lenS 27 (.t 26)) .unit,
  .g 23 false (some 28) (.bin 28 false .gtr (.t 27) (.c (.int .i64 63))) .unit,
  .p (.pick 29 (.t 23) (.c (.bool true)) (.t 28)) .unit,
  .p (.mv 30 (.t 29)) .unit,
  .g 30 false (some 31) (.fadr 31 (.t 1) 5) .unit,
  .g 30 false (some 32) (.load 32 (.t 31) 1 false) .unit,
  .g 30 false (some 33) (.callB 33 n_spec_l17Names [((.t 32), 0)]) .unit,
  .g 30 false (some 34) (.un 34 .not (.t 33)) .unit,
  .p (.pick 35 (.t 30) (.c (.bool true)) (.t 34)) .unit,
  .p (.mv 36 (.t 35)) .unit,
  .g 36 false (some 37) (.fadr 37 (.t 1) 5) .unit,
  .g 36 false (some 38) (.load 38 (.t 37) 1 false) .unit,
  .g 36 false (some 39) (.lenB 39 (.t 38)) .unit,
  .g 36 false (some 40) (.bin 40 false .gtr (.t 39) (.c (.int .i64 6))) .unit,
  .p (.pick 41 (.t 36) (.c (.bool true)) (.t 40)) .unit,
  .p (.mv 42 (.t 41)) .unit,
  .g 42 false (some 43) (.fadr 43 (.t 1) 1) .unit,
  .g 42 false (some 44) (.load 44 (.t 43) 1 false) .unit,
  .g 42 false (some 45) (.bin 45 false .eql (.t 44) (.c (.string (ba [])))) .unit,
  .g 42 false (some 46) (.mv 46 (.t 45)) .unit,
  .g 46 true (some 47) (.fadr 47 (.t 1) 5) .unit,
  .g 46 true (some 48) (.load 48 (.t 47) 1 false) .unit,
  .g 46 true (some 49) (.lenB 49 (.t 48)) .unit,
  .g 46 true (some 50) (.bin 50 false .gtr (.t 49) (.c (.int .i64 0))) .unit,
  .g 42 false (some 51) (.pick 51 (.t 46) (.t 50) (.c (.bool false))) .unit,
  .p (.pick 52 (.t 42) (.c (.bool true)) (.t 51)) .unit]))
 (.cond (.t 52) (.seq (.reg none [.p (.mv 2 (.c (.bool false))) .unit])
 .ret) .skip))
 (.seq (.reg none [.p (.fadr 53 (.t 1) 4) .unit,
  .p (.load 54 (.t 53) 1 false) .unit,
  .p (.un 55 .not (.t 54)) .unit,
  .p (.mv 56 (.t 55)) .unit,
  .g 56 false (some 57) (.fadr 57 (.t 1) 2) .unit,
  .g 56 false (some 58) (.fadr 58 (.t 57) 0) .unit,
  .g 56 false (some 59) (.load 59 (.t 58) 1 false) .unit,
  .g 56 false (some 60) (.bin 60 false .eql (.t 59) (.c (.string (ba [])))) .unit,
  .g 56 false (some 61) (.mv 61 (.t 60)) .unit,
  .g 61 true (some 62) (.fadr 62 (.t 1) 5) .unit,
  .g 61 true (some 63) (.load 63 (.t 62) 1 false) .unit,
  .g 61 true (some 64) (.lenB 64 (.t 63)) .unit,
  .g 61 true (some 65) (.bin 65 false .eql (.t 64) (.c (.int .i64 0))) .unit,
  .g 56 false (some 66) (.pick 66 (.t 61) (.t 65) (.c (.bool false))) .unit,
  .g 56 false (some 67) (.mv 67 (.t 66)) .unit,
  .g 67 true (some 68) (.fadr 68 (.t 1) 1) .unit,
  .g 67 true (some 69) (.load 69 (.t 68) 1 false) .unit,
  .g 67 true (some 70) (.bin 70 false .eql (.t 69) (.c (.string (ba [])))) .unit,
  .g 56 false (some 71) (.pick 71 (.t 67) (.t 70) (.c (.bool false))) .unit,
  .p (.pick 72 (.t 56) (.c (.bool true)) (.t 71)) .unit,
  .p (.mv 2 (.t 72)) .unit])
 .ret))),
 73, 1, [.t 2]⟩
theorem m_spec_SessionOk : mH Try.prog 34 [] = some (F_spec_SessionOk.code.x, F_spec_SessionOk.N, F_spec_SessionOk.np, F_spec_SessionOk.res) := by kernel_rfl
def T_spec_SessionOk : Int × List UInt8 × (List UInt8 × Bool) × Bool × List (List UInt8) → Option (Bool) := evF [fn_spec_l01In, fn_spec_NameOk, fn_spec_l17Names] F_spec_SessionOk [.agg (.pair (.int .i64) (.pair .str (.pair (.pair .str .bool) (.pair .bool (.sl false .str)))))] [] [.cell .bool] []
def fn_spec_SessionOk : TFn := ⟨34, [.agg (.pair (.int .i64) (.pair .str (.pair (.pair .str .bool) (.pair .bool (.sl false .str)))))], [], [.cell .bool], [], T_spec_SessionOk⟩
theorem ok_spec_SessionOk : FnOk Try.prog fn_spec_SessionOk := evF_ok mixed (allOk_cons ok_spec_l01In (allOk_cons ok_spec_NameOk (allOk_cons ok_spec_l17Names allOk_nil))) m_spec_SessionOk (by decide)
def F_impl_inRange : TF := ⟨(.seq (.reg none [.p (.mv 6 (.c (.bool false))) .unit])
 (.seq (.reg none [.p (.mv 7 (.t 0)) .unit,
  .p (.mv 8 (.t 1)) .unit,
  .p (.bin 9 false .geq (.t 7) (.t 8)) .unit,
  .p (.mv 10 (.t 9)) .unit,
  .g 10 true (some 11) (.mv 11 (.t 0)) .unit,
  .g 10 true (some 12) (.mv 12 (.t 2)) .unit,
  .g 10 true (some 13) (.bin 13 false .leq (.t 11) (.t 12)) .unit,
  .p (.pick 14 (.t 10) (.t 13) (.c (.bool false))) .unit,
  .p (.mv 6 (.t 14)) .unit])
 .ret)),
 15, 3, [.t 6]⟩
theorem m_impl_inRange : mH Try.prog 71 [] = some (F_impl_inRange.code.x, F_impl_inRange.N, F_impl_inRange.np, F_impl_inRange.res) := by kernel_rfl
def T_impl_inRange : (Int) × (Int) × Int → Option (Bool) := evF [] F_impl_inRange [.cell (.int .i64), .cell (.int .i64), .cell (.int .i64)] [] [.cell .bool] []
def fn_impl_inRange : TFn := ⟨71, [.cell (.int .i64), .cell (.int .i64), .cell (.int .i64)], [], [.cell .bool], [], T_impl_inRange⟩
theorem ok_impl_inRange : FnOk Try.prog fn_impl_inRange := evF_ok mixed allOk_nil m_impl_inRange (by decide)
def F_impl_isDaemon : TF := ⟨(.seq (.reg none [.p (.mv 2 (.c (.bool false))) .unit])
 (.seq (.reg none [.p (.mv 3 (.t 0)) .unit,
  .p (.callB 4 n_impl_inRange [((.t 3), 0), ((.c (.int .i64 1)), 0), ((.c (.int .i64 5)), 0)]) .unit,
  .p (.mv 2 (.t 4)) .unit])
 .ret)),
 5, 1, [.t 2]⟩
theorem m_impl_isDaemon : mH Try.prog 88 [] = some (F_impl_isDaemon.code.x, F_impl_isDaemon.N, F_impl_isDaemon.np, F_impl_isDaemon.res) := by kernel_rfl
def T_impl_isDaemon : Int → Option (Bool) := evF [fn_impl_inRange] F_impl_isDaemon [.cell (.int .i64)] [] [.cell .bool] []
def fn_impl_isDaemon : TFn := ⟨88, [.cell (.int .i64)], [], [.cell .bool], [], T_impl_isDaemon⟩
theorem ok_impl_isDaemon : FnOk Try.prog fn_impl_isDaemon := evF_ok mixed (allOk_cons ok_impl_inRange allOk_nil) m_impl_isDaemon (by decide)
def B_impl_NameOk_1 : TC := (.seq (.seq (.reg none [.p (.mv 5 (.t 3)) .unit,
  .p (.mv 6 (.t 0)) .unit,
  .p (.lenS 7 (.t 6)) .unit,
  .p (.bin 8 false .lss (.t 5) (.t 7)) .unit])
 (.cond (.t 8) .skip (.exit 0)))
 (.seq (.block 1 (.seq (.join ⟨[(0, true), (3, false), (4, false)], [.cell .str, .cell (.int .i64), .cell .bool]⟩ (.reg none [.p (.mv 11 (.t 0)) .unit,
  .p (.mv 12 (.t 3)) .unit,
  .p (.idx 13 (.t 11) (.t 12)) .unit,
  .p (.bin 14 false .geq (.t 13) (.c (.int .u8 97))) .unit,
  .p (.mv 15 (.t 14)) .unit,
  .g 15 true (some 16) (.mv 16 (.t 0)) .unit,
  .g 15 true (some 17) (.mv 17 (.t 3)) .unit,
  .g 15 true (some 18) (.idx 18 (.t 16) (.t 17)) .unit,
  .g 15 true (some 19) (.bin 19 false .leq (.t 18) (.c (.int .u8 122))) .unit,
  .p (.pick 20 (.t 15) (.t 19) (.c (.bool false))) .unit,
  .p (.mv 4 (.t 20)) .unit]))
 (.seq (.join ⟨[(0, true), (3, false), (38, false)], [.cell .str, .cell (.int .i64), .cell .bool]⟩ (.reg none [.p (.mv 21 (.t 4)) .unit,
  .p (.un 22 .not (.t 21)) .unit,
  .p (.mv 23 (.t 22)) .unit,
  .g 23 true (some 24) (.mv 24 (.t 3)) .unit,
  .g 23 true (some 25) (.bin 25 false .eql (.t 24) (.c (.int .i64 0))) .unit,
  .g 23 true (some 26) (.mv 26 (.t 25)) .unit,
  .g 26 false (some 27) (.mv 27 (.t 0)) .unit,
  .g 26 false (some 28) (.mv 28 (.t 3)) .unit,
  .g 26 false (some 29) (.idx 29 (.t 27) (.t 28)) .unit,
  .g 26 false (some 30) (.bin 30 false .lss (.t 29) (.c (.int .u8 48))) .unit,
  .g 23 true (some 31) (.pick 31 (.t 26) (.c (.bool true)) (.t 30)) .unit,
  .g 23 true (some 32) (.mv 32 (.t 31)) .unit,
  .g 32 false (some 33) (.mv 33 (.t 0)) .unit,
  .g 32 false (some 34) (.mv 34 (.t 3)) .unit,
  .g 32 false (some 35) (.idx 35 (.t 33) (.t 34)) .unit,
  .g 32 false (some 36) (.bin 36 false .gtr (.t 35) (.c (.int .u8 57))) .unit,
  .g 23 true (some 37) (.pick 37 (.t 32) (.c (.bool true)) (.t 36)) .unit,
  .p (.pick 38 (.t 23) (.t 37) (.c (.bool false))) .unit]))
 (.cond (.t 38) (.seq (.reg none [.p (.mv 2 (.c (.bool false))) .unit])
 .ret) .skip))))
 (.reg none [.p (.mv 9 (.t 3)) .unit,
  .p (.bin 10 false .add (.t 9) (.c (.int .i64 1))) .unit,
  .p (.mv 3 (.t 10)) .unit])))
def L_impl_NameOk_1 : Nat → (List UInt8) × Int → Option ((List UInt8) ⊕ (Bool)) := evL [fn_impl_inRange] (finT [.t 2] [] [.cell .bool]) 0 ⟨[(0, true), (3, false)], [.cell .str, .cell (.int .i64)]⟩ ⟨[(0, true)], [.cell .str]⟩ B_impl_NameOk_1
def F_impl_NameOk : TF := ⟨(.seq (.reg none [.p (.mv 2 (.c (.bool false))) .unit])
 (.seq (.seq (.reg none [.p (.mv 3 (.c (.int .i64 0))) .unit])
 (.jl 0 ⟨[(0, true), (3, false)], [.cell .str, .cell (.int .i64)]⟩ ⟨[(0, true)], [.cell .str]⟩ B_impl_NameOk_1))
 (.seq (.reg none [.p (.mv 39 (.t 0)) .unit,
  .p (.lenS 40 (.t 39)) .unit,
  .p (.callB 41 n_impl_inRange [((.t 40), 0), ((.c (.int .i64 1)), 0), ((.c (.int .i64 12)), 0)]) .unit,
  .p (.mv 2 (.t 41)) .unit])
 .ret))),
 42, 1, [.t 2]⟩
theorem m_impl_NameOk : mH Try.prog 76 [] = some (F_impl_NameOk.code.x, F_impl_NameOk.N, F_impl_NameOk.np, F_impl_NameOk.res) := by kernel_rfl
def T_impl_NameOk : List UInt8 → Option (Bool) := evF [fn_impl_inRange] F_impl_NameOk [.cell .str] [] [.cell .bool] []
def fn_impl_NameOk : TFn := ⟨76, [.cell .str], [], [.cell .bool], [], T_impl_NameOk⟩
theorem ok_impl_NameOk : FnOk Try.prog fn_impl_NameOk := evF_ok mixed (allOk_cons ok_impl_inRange allOk_nil) m_impl_NameOk (by decide)
def B_impl_areNames_1 : TC := (.seq (.reg none [.p (.bin 8 false .lss (.t 7) (.t 6)) .unit])
 (.seq (.cond (.t 8) .skip (.exit 0))
 (.seq (.block 1 (.seq (.reg none [.p (.mv 9 (.t 7)) .unit,
  .p (.iadr 10 1 (.t 5) (.t 7)) .unit,
  .p (.load 11 (.t 10) 1 false) .unit,
  .p (.mv 3 (.t 9)) .unit,
  .p (.mv 4 (.t 11)) .unit])
 (.seq (.join ⟨[(0, true), (5, false), (6, false), (7, false), (27, false)], [.cell (.sl false .str), .cell (.sl false .str), .cell (.int .i64), .cell (.int .i64), .cell .bool]⟩ (.reg none [.p (.mv 12 (.t 4)) .unit,
  .p (.callB 13 n_impl_NameOk [((.t 12), 0)]) .unit,
  .p (.un 14 .not (.t 13)) .unit,
  .p (.mv 15 (.t 14)) .unit,
  .g 15 false (some 16) (.mv 16 (.t 3)) .unit,
  .g 15 false (some 17) (.bin 17 false .gtr (.t 16) (.c (.int .i64 0))) .unit,
  .g 15 false (some 18) (.mv 18 (.t 17)) .unit,
  .g 18 true (some 19) (.mv 19 (.t 4)) .unit,
  .g 18 true (some 20) (.mv 20 (.t 0)) .unit,
  .g 18 true (some 21) (.mv 21 (.t 3)) .unit,
  .g 18 true (some 22) (.bin 22 false .sub (.t 21) (.c (.int .i64 1))) .unit,
  .g 18 true (some 23) (.iadr 23 1 (.t 20) (.t 22)) .unit,
  .g 18 true (some 24) (.load 24 (.t 23) 1 false) .unit,
  .g 18 true (some 25) (.bin 25 false .leq (.t 19) (.t 24)) .unit,
  .g 15 false (some 26) (.pick 26 (.t 18) (.t 25) (.c (.bool false))) .unit,
  .p (.pick 27 (.t 15) (.c (.bool true)) (.t 26)) .unit]))
 (.cond (.t 27) (.seq (.reg none [.p (.mv 2 (.c (.bool false))) .unit])
 .ret) .skip))))
 (.reg none [.p (.bin 28 false .add (.t 7) (.c (.int .i64 1))) .unit,
  .p (.mv 7 (.t 28)) .unit]))))
def L_impl_areNames_1 : Nat → (List (List UInt8)) × (List (List UInt8)) × (Int) × Int → Option ((Unit) ⊕ (Bool)) := evL [fn_impl_NameOk] (finT [.t 2] [] [.cell .bool]) 0 ⟨[(0, true), (5, false), (6, false), (7, false)], [.cell (.sl false .str), .cell (.sl false .str), .cell (.int .i64), .cell (.int .i64)]⟩ ⟨[], []⟩ B_impl_areNames_1
def F_impl_areNames : TF := ⟨(.seq (.reg none [.p (.mv 2 (.c (.bool false))) .unit])
 (.seq (.seq (.reg none [.p (.mv 5 (.t 0)) .unit,
  .p (.lenB 6 (.t 5)) .unit,
  .p (.mv 7 (.c (.int .i64 0))) .unit])
 (.jl 0 ⟨[(0, true), (5, false), (6, false), (7, false)], [.cell (.sl false .str), .cell (.sl false .str), .cell (.int .i64), .cell (.int .i64)]⟩ ⟨[], []⟩ B_impl_areNames_1))
 (.seq (.reg none [.p (.mv 2 (.c (.bool true))) .unit])
 .ret))),
 29, 1, [.t 2]⟩
theorem m_impl_areNames : mH Try.prog 84 [] = some (F_impl_areNames.code.x, F_impl_areNames.N, F_impl_areNames.np, F_impl_areNames.res) := by kernel_rfl
def T_impl_areNames : List (List UInt8) → Option (Bool) := evF [fn_impl_NameOk] F_impl_areNames [.cell (.sl false .str)] [] [.cell .bool] []
def fn_impl_areNames : TFn := ⟨84, [.cell (.sl false .str)], [], [.cell .bool], [], T_impl_areNames⟩
theorem ok_impl_areNames : FnOk Try.prog fn_impl_areNames := evF_ok mixed (allOk_cons ok_impl_NameOk allOk_nil) m_impl_areNames (by decide)
def F_impl_SessionOk : TF := ⟨(.seq (.reg none [.p (.box 1 (.t 0)) .unit,
  .p (.mv 2 (.c (.bool false))) .unit])
 (.seq (.seq (.join ⟨[(1, false), (29, false)], [.box (.pair (.int .i64) (.pair .str (.pair (.pair .str .bool) (.pair .bool (.sl false .str))))), .cell .bool]⟩ (.reg none [.p (.fadr 3 (.t 1) 0) .unit,
  .p (.load 4 (.t 3) 1 false) .unit,
  .p (.callB 5 n_impl_isDaemon [((.t 4), 0)]) .unit,
  .p (.un 6 .not (.t 5)) .unit,
  .p (.mv 7 (.t 6)) .unit,
  .g 7 false (some 8) (.fadr 8 (.t 1) 1) .unit,
  .g 7 false (some 9) (.load 9 (.t 8) 1 false) .unit,
  .g 7 false (some 10) (.bin 10 false .neq (.t 9) (.c (.string (ba [])))) .unit,
  .g 7 false (some 11) (.mv 11 (.t 10)) .unit,
  .g 11 true (some 12) (.fadr 12 (.t 1) 1) .unit,
  .g 11 true (some 13) (.load 13 (.t 12) 1 false) .unit,
  .g 11 true (some 14) (.callB 14 n_impl_NameOk [((.t 13), 0)]) .unit,
  .g 11 true (some 15) (.un 15 .not (.t 14)) .unit,
  .g 7 false (some 16) (.pick 16 (.t 11) (.t 15) (.c (.bool false))) .unit,
  .p (.pick 17 (.t 7) (.c (.bool true)) (.t 16)) .unit,
  .p (.mv 18 (.t 17)) .unit,
  .g 18 false (some 19) (.fadr 19 (.t 1) 2) .unit,
  .g 18 false (some 20) (.fadr 20 (.t 19) 1) .unit,
  .g 18 false (some 21) (.load 21 (.t 20) 1 false) .unit,
  .p (.pick 22 (.t 18) (.c (.bool true)) (.t 21)) .unit,
  .p (.mv 23 (.t 22)) .unit,
  .g 23 false (some 24) (.fadr 24 (.t 1) 2) .unit,
  .g 23 false (some 25) (.fadr 25 (.t 24) 0) .unit,
  .g 23 false (some 26) (.load 26 (.t 25) 1 false) .unit,
  .g 23 false (some 27) (.lenS 27 (.t 26)) .unit,
  .g 23 false (some 28) (.bin 28 false .gtr (.t 27) (.c (.int .i64 63))) .unit,
  .p (.pick 29 (.t 23) (.c (.bool true)) (.t 28)) .unit]))
 (.cond (.t 29) (.seq (.reg none [.p (.mv 2 (.c (.bool false))) .unit])
 .ret) .skip))
 (.seq (.seq (.join ⟨[(1, false), (50, false)], [.box (.pair (.int .i64) (.pair .str (.pair (.pair .str .bool) (.pair .bool (.sl false .str))))), .cell .bool]⟩ (.reg none [.p (.fadr 30 (.t 1) 5) .unit,
  .p (.load 31 (.t 30) 1 false) .unit,
  .p (.callB 32 n_impl_areNames [((.t 31), 0)]) .unit,
  .p (.un 33 .not (.t 32)) .unit,
  .p (.mv 34 (.t 33)) .unit,
  .g 34 false (some 35) (.fadr 35 (.t 1) 5) .unit,
  .g 34 false (some 36) (.load 36 (.t 35) 1 false) .unit,
  .g 34 false (some 37) (.lenB 37 (.t 36)) .unit,
  .g 34 false (some 38) (.bin 38 false .gtr (.t 37) (.c (.int .i64 6))) .unit,
  .p (.pick 39 (.t 34) (.c (.bool true)) (.t 38)) .unit,
  .p (.mv 40 (.t 39)) .unit,
  .g 40 false (some 41) (.fadr 41 (.t 1) 1) .unit,
  .g 40 false (some 42) (.load 42 (.t 41) 1 false) .unit,
  .g 40 false (some 43) (.bin 43 false .eql (.t 42) (.c (.string (ba [])))) .unit,
  .g 40 false (some 44) (.mv 44 (.t 43)) .unit,
  .g 44 true (some 45) (.fadr 45 (.t 1) 5) .unit,
  .g 44 true (some 46) (.load 46 (.t 45) 1 false) .unit,
  .g 44 true (some 47) (.lenB 47 (.t 46)) .unit,
  .g 44 true (some 48) (.bin 48 false .gtr (.t 47) (.c (.int .i64 0))) .unit,
  .g 40 false (some 49) (.pick 49 (.t 44) (.t 48) (.c (.bool false))) .unit,
  .p (.pick 50 (.t 40) (.c (.bool true)) (.t 49)) .unit]))
 (.cond (.t 50) (.seq (.reg none [.p (.mv 2 (.c (.bool false))) .unit])
 .ret) .skip))
 (.seq (.reg none [.p (.fadr 51 (.t 1) 4) .unit,
  .p (.load 52 (.t 51) 1 false) .unit,
  .p (.un 53 .not (.t 52)) .unit,
  .p (.mv 54 (.t 53)) .unit,
  .g 54 false (some 55) (.fadr 55 (.t 1) 2) .unit,
  .g 54 false (some 56) (.fadr 56 (.t 55) 0) .unit,
  .g 54 false (some 57) (.load 57 (.t 56) 1 false) .unit,
  .g 54 false (some 58) (.bin 58 false .eql (.t 57) (.c (.string (ba [])))) .unit,
  .g 54 false (some 59) (.mv 59 (.t 58)) .unit,
  .g 59 true (some 60) (.fadr 60 (.t 1) 1) .unit,
  .g 59 true (some 61) (.load 61 (.t 60) 1 false) .unit,
  .g 59 true (some 62) (.bin 62 false .eql (.t 61) (.c (.string (ba [])))) .unit,
  .g 54 false (some 63) (.pick 63 (.t 59) (.t 62) (.c (.bool false))) .unit,
  .p (.pick 64 (.t 54) (.c (.bool true)) (.t 63)) .unit,
  .p (.mv 2 (.t 64)) .unit])
 .ret)))),
 65, 1, [.t 2]⟩
theorem m_impl_SessionOk : mH Try.prog 36 [] = some (F_impl_SessionOk.code.x, F_impl_SessionOk.N, F_impl_SessionOk.np, F_impl_SessionOk.res) := by kernel_rfl
def T_impl_SessionOk : Int × List UInt8 × (List UInt8 × Bool) × Bool × List (List UInt8) → Option (Bool) := evF [fn_impl_isDaemon, fn_impl_NameOk, fn_impl_areNames] F_impl_SessionOk [.agg (.pair (.int .i64) (.pair .str (.pair (.pair .str .bool) (.pair .bool (.sl false .str)))))] [] [.cell .bool] []
def fn_impl_SessionOk : TFn := ⟨36, [.agg (.pair (.int .i64) (.pair .str (.pair (.pair .str .bool) (.pair .bool (.sl false .str)))))], [], [.cell .bool], [], T_impl_SessionOk⟩
theorem ok_impl_SessionOk : FnOk Try.prog fn_impl_SessionOk := evF_ok mixed (allOk_cons ok_impl_isDaemon (allOk_cons ok_impl_NameOk (allOk_cons ok_impl_areNames allOk_nil))) m_impl_SessionOk (by decide)
def F_laws_eqReader : TF := ⟨(.seq (.reg none [.p (.box 2 (.t 0)) .unit,
  .p (.box 3 (.t 1)) .unit,
  .p (.mv 4 (.c (.bool false))) .unit])
 (.seq (.seq (.reg none [.p (.fadr 5 (.t 2) 0) .unit,
  .p (.load 6 (.t 5) 1 false) .unit,
  .p (.fadr 7 (.t 3) 0) .unit,
  .p (.load 8 (.t 7) 1 false) .unit,
  .p (.bin 9 false .neq (.t 6) (.t 8)) .unit])
 (.cond (.t 9) (.seq (.reg none [.p (.mv 4 (.c (.bool false))) .unit])
 .ret) .skip))
 (.seq (.seq (.reg none [.p (.fadr 10 (.t 2) 1) .unit,
  .p (.load 11 (.t 10) 1 false) .unit,
  .p (.fadr 12 (.t 3) 1) .unit,
  .p (.load 13 (.t 12) 1 false) .unit,
  .p (.bin 14 true .neq (.t 11) (.t 13)) .unit])
 (.cond (.t 14) (.seq (.reg none [.p (.mv 4 (.c (.bool false))) .unit])
 .ret) .skip))
 (.seq (.reg none [.p (.mv 4 (.c (.bool true))) .unit])
 .ret)))),
 15, 2, [.t 4]⟩
theorem m_laws_eqReader : mH Try.prog 89 [] = some (F_laws_eqReader.code.x, F_laws_eqReader.N, F_laws_eqReader.np, F_laws_eqReader.res) := by kernel_rfl
def T_laws_eqReader : (List UInt8 × Bool) × List UInt8 × Bool → Option (Bool) := evF [] F_laws_eqReader [.agg (.pair .str .bool), .agg (.pair .str .bool)] [] [.cell .bool] []
def fn_laws_eqReader : TFn := ⟨89, [.agg (.pair .str .bool), .agg (.pair .str .bool)], [], [.cell .bool], [], T_laws_eqReader⟩
theorem ok_laws_eqReader : FnOk Try.prog fn_laws_eqReader := evF_ok mixed allOk_nil m_laws_eqReader (by decide)
def B_laws_eqStringS_1 : TC := (.seq (.seq (.reg none [.p (.mv 11 (.t 5)) .unit,
  .p (.mv 12 (.t 0)) .unit,
  .p (.lenB 13 (.t 12)) .unit,
  .p (.bin 14 false .lss (.t 11) (.t 13)) .unit])
 (.cond (.t 14) .skip (.exit 0)))
 (.seq (.block 1 (.seq (.reg (some [[], [], [0, 1], [2], [], [], [4, 5], [6], [3, 7]]) [.p (.mv 17 (.t 0)) .unit,
  .p (.mv 18 (.t 5)) .unit,
  .p (.iadr 19 1 (.t 17) (.t 18)) .unit,
  .p (.load 20 (.t 19) 1 false) .unit,
  .p (.mv 21 (.t 1)) .unit,
  .p (.mv 22 (.t 5)) .unit,
  .p (.iadr 23 1 (.t 21) (.t 22)) .unit,
  .p (.load 24 (.t 23) 1 false) .unit,
  .p (.bin 25 false .neq (.t 20) (.t 24)) .unit])
 (.cond (.t 25) (.seq (.reg none [.p (.mv 4 (.c (.bool false))) .unit])
 .ret) .skip)))
 (.reg none [.p (.mv 15 (.t 5)) .unit,
  .p (.bin 16 false .add (.t 15) (.c (.int .i64 1))) .unit,
  .p (.mv 5 (.t 16)) .unit])))
def L_laws_eqStringS_1 : Nat → (List (List UInt8)) × (List (List UInt8)) × Int → Option ((Unit) ⊕ (Bool)) := evL [] (finT [.t 4] [] [.cell .bool]) 0 ⟨[(0, true), (1, true), (5, false)], [.cell (.sl false .str), .cell (.sl false .str), .cell (.int .i64)]⟩ ⟨[], []⟩ B_laws_eqStringS_1
def F_laws_eqStringS : TF := ⟨(.seq (.reg none [.p (.mv 4 (.c (.bool false))) .unit])
 (.seq (.seq (.reg none [.p (.mv 6 (.t 0)) .unit,
  .p (.lenB 7 (.t 6)) .unit,
  .p (.mv 8 (.t 1)) .unit,
  .p (.lenB 9 (.t 8)) .unit,
  .p (.bin 10 false .neq (.t 7) (.t 9)) .unit])
 (.cond (.t 10) (.seq (.reg none [.p (.mv 4 (.c (.bool false))) .unit])
 .ret) .skip))
 (.seq (.seq (.reg none [.p (.mv 5 (.c (.int .i64 0))) .unit])
 (.jl 0 ⟨[(0, true), (1, true), (5, false)], [.cell (.sl false .str), .cell (.sl false .str), .cell (.int .i64)]⟩ ⟨[], []⟩ B_laws_eqStringS_1))
 (.seq (.reg none [.p (.mv 4 (.c (.bool true))) .unit])
 .ret)))),
 26, 2, [.t 4]⟩
theorem m_laws_eqStringS : mH Try.prog 45 [] = some (F_laws_eqStringS.code.x, F_laws_eqStringS.N, F_laws_eqStringS.np, F_laws_eqStringS.res) := by kernel_rfl
def T_laws_eqStringS : (List (List UInt8)) × List (List UInt8) → Option (Bool) := evF [] F_laws_eqStringS [.cell (.sl false .str), .cell (.sl false .str)] [] [.cell .bool] []
def fn_laws_eqStringS : TFn := ⟨45, [.cell (.sl false .str), .cell (.sl false .str)], [], [.cell .bool], [], T_laws_eqStringS⟩
theorem ok_laws_eqStringS : FnOk Try.prog fn_laws_eqStringS := evF_ok mixed allOk_nil m_laws_eqStringS (by decide)
def F_laws_eqSession : TF := ⟨(.seq (.reg none [.p (.box 2 (.t 0)) .unit,
  .p (.box 3 (.t 1)) .unit,
  .p (.mv 4 (.c (.bool false))) .unit])
 (.seq (.seq (.reg none [.p (.fadr 5 (.t 2) 0) .unit,
  .p (.load 6 (.t 5) 1 false) .unit,
  .p (.fadr 7 (.t 3) 0) .unit,
  .p (.load 8 (.t 7) 1 false) .unit,
  .p (.bin 9 false .neq (.t 6) (.t 8)) .unit])
 (.cond (.t 9) (.seq (.reg none [.p (.mv 4 (.c (.bool false))) .unit])
 .ret) .skip))
 (.seq (.seq (.reg none [.p (.fadr 10 (.t 2) 1) .unit,
  .p (.load 11 (.t 10) 1 false) .unit,
  .p (.fadr 12 (.t 3) 1) .unit,
  .p (.load 13 (.t 12) 1 false) .unit,
  .p (.bin 14 false .neq (.t 11) (.t 13)) .unit])
 (.cond (.t 14) (.seq (.reg none [.p (.mv 4 (.c (.bool false))) .unit])
 .ret) .skip))
 (.seq (.seq (.reg none [.p (.fadr 15 (.t 2) 2) .unit,
  .p (.load 16 (.t 15) 2 true) .unit,
  .p (.fadr 17 (.t 3) 2) .unit,
  .p (.load 18 (.t 17) 2 true) .unit,
  .p (.callB 19 n_laws_eqReader [((.t 16), 0), ((.t 18), 0)]) .unit,
  .p (.un 20 .not (.t 19)) .unit])
 (.cond (.t 20) (.seq (.reg none [.p (.mv 4 (.c (.bool false))) .unit])
 .ret) .skip))
 (.seq (.seq (.reg none [.p (.fadr 21 (.t 2) 4) .unit,
  .p (.load 22 (.t 21) 1 false) .unit,
  .p (.fadr 23 (.t 3) 4) .unit,
  .p (.load 24 (.t 23) 1 false) .unit,
  .p (.bin 25 true .neq (.t 22) (.t 24)) .unit])
 (.cond (.t 25) (.seq (.reg none [.p (.mv 4 (.c (.bool false))) .unit])
 .ret) .skip))
 (.seq (.seq (.reg none [.p (.fadr 26 (.t 2) 5) .unit,
  .p (.load 27 (.t 26) 1 false) .unit,
  .p (.fadr 28 (.t 3) 5) .unit,
  .p (.load 29 (.t 28) 1 false) .unit,
  .p (.callB 30 n_laws_eqStringS [((.t 27), 0), ((.t 29), 0)]) .unit,
  .p (.un 31 .not (.t 30)) .unit])
 (.cond (.t 31) (.seq (.reg none [.p (.mv 4 (.c (.bool false))) .unit])
 .ret) .skip))
 (.seq (.reg none [.p (.mv 4 (.c (.bool true))) .unit])
 .ret))))))),
 32, 2, [.t 4]⟩
theorem m_laws_eqSession : mH Try.prog 37 [] = some (F_laws_eqSession.code.x, F_laws_eqSession.N, F_laws_eqSession.np, F_laws_eqSession.res) := by kernel_rfl
def T_laws_eqSession : (Int × List UInt8 × (List UInt8 × Bool) × Bool × List (List UInt8)) × Int × List UInt8 × (List UInt8 × Bool) × Bool × List (List UInt8) → Option (Bool) := evF [fn_laws_eqReader, fn_laws_eqStringS] F_laws_eqSession [.agg (.pair (.int .i64) (.pair .str (.pair (.pair .str .bool) (.pair .bool (.sl false .str))))), .agg (.pair (.int .i64) (.pair .str (.pair (.pair .str .bool) (.pair .bool (.sl false .str)))))] [] [.cell .bool] []
def fn_laws_eqSession : TFn := ⟨37, [.agg (.pair (.int .i64) (.pair .str (.pair (.pair .str .bool) (.pair .bool (.sl false .str))))), .agg (.pair (.int .i64) (.pair .str (.pair (.pair .str .bool) (.pair .bool (.sl false .str)))))], [], [.cell .bool], [], T_laws_eqSession⟩
theorem ok_laws_eqSession : FnOk Try.prog fn_laws_eqSession := evF_ok mixed (allOk_cons ok_laws_eqReader (allOk_cons ok_laws_eqStringS allOk_nil)) m_laws_eqSession (by decide)
def F_laws_FnExactSessionOk : TF := ⟨(.seq (.reg none [.p (.box 1 (.t 0)) .unit,
  .p (.mv 2 (.c (.bool false))) .unit])
 (.seq (.reg none [.p (.mv 3 (.c (.int .i64 1048576))) .unit])
 (.seq (.reg none [.p (.load 7 (.t 1) 6 true) .unit,
  .p (.mv 8 (.t 3)) .unit,
  .p (.callB 9 n_laws_szSession [((.t 7), 0), ((.t 8), 0)]) .unit,
  .p (.mv 3 (.t 9)) .unit])
 (.seq (.seq (.reg none [.p (.mv 10 (.t 3)) .unit,
  .p (.bin 11 false .lss (.t 10) (.c (.int .i64 0))) .unit])
 (.cond (.t 11) (.seq (.reg none [.p (.mv 2 (.c (.bool true))) .unit])
 .ret) .skip))
 (.seq (.reg none [.p (.load 12 (.t 1) 6 true) .unit,
  .p (.callB 13 n_laws_toSession [((.t 12), 0)]) .unit,
  .p (.callB 14 n_spec_SessionOk [((.t 13), 0)]) .unit,
  .p (.mv 4 (.t 14)) .unit])
 (.seq (.reg none [.p (.load 15 (.t 1) 6 true) .unit,
  .p (.callB 16 n_laws_toSession [((.t 15), 0)]) .unit,
  .p (.alloc 5 [(.lit (.int .i64 0)), (.lit (.string (ba []))), (.lit (.string (ba []))), (.lit (.bool false)), (.lit (.bool false)), (.sl true 1 [])]) .unit,
  .p (.storeT (.t 5) 16 6) .unit])
 (.seq (.reg none [.p (.load 17 (.t 5) 6 true) .unit,
  .p (.callB 18 n_impl_SessionOk [((.t 17), 0)]) .unit,
  .p (.mv 6 (.t 18)) .unit])
 (.seq (.seq (.reg none [.p (.mv 19 (.t 6)) .unit,
  .p (.mv 20 (.t 4)) .unit,
  .p (.bin 21 true .neq (.t 19) (.t 20)) .unit])
 (.cond (.t 21) (.seq (.reg none [.p (.mv 2 (.c (.bool false))) .unit])
 .ret) .skip))
 (.seq (.seq (.reg (some [[], [], [1], [0, 2, 2], [3]]) [.p (.load 22 (.t 5) 6 true) .unit,
  .p (.load 23 (.t 1) 6 true) .unit,
  .p (.callB 24 n_laws_toSession [((.t 23), 0)]) .unit,
  .p (.callB 25 n_laws_eqSession [((.t 22), 0), ((.t 24), 0)]) .unit,
  .p (.un 26 .not (.t 25)) .unit])
 (.cond (.t 26) (.seq (.reg none [.p (.mv 2 (.c (.bool false))) .unit])
 .ret) .skip))
 (.seq (.reg none [.p (.mv 2 (.c (.bool true))) .unit])
 .ret)))))))))),
 27, 1, [.t 2]⟩
theorem m_laws_FnExactSessionOk : mH Try.prog 7 [(6, 3, .t)] = some (F_laws_FnExactSessionOk.code.x, F_laws_FnExactSessionOk.N, F_laws_FnExactSessionOk.np, F_laws_FnExactSessionOk.res) := by kernel_rfl
def T_laws_FnExactSessionOk : Int × List UInt8 × (List UInt8 × Bool) × Bool × List (List UInt8) → Option (Bool) := evF [fn_laws_szSession, fn_laws_toSession, fn_spec_SessionOk, fn_impl_SessionOk, fn_laws_eqSession] F_laws_FnExactSessionOk [.agg (.pair (.int .i64) (.pair .str (.pair (.pair .str .bool) (.pair .bool (.sl false .str)))))] [] [.cell .bool] []
def fn_laws_FnExactSessionOk : TFn := ⟨7, [.agg (.pair (.int .i64) (.pair .str (.pair (.pair .str .bool) (.pair .bool (.sl false .str)))))], [], [.cell .bool], [], T_laws_FnExactSessionOk⟩
theorem ok_laws_FnExactSessionOk : FnOk Try.prog fn_laws_FnExactSessionOk := evF_ok mixed (allOk_cons ok_laws_szSession (allOk_cons ok_laws_toSession (allOk_cons ok_spec_SessionOk (allOk_cons ok_impl_SessionOk (allOk_cons ok_laws_eqSession allOk_nil))))) m_laws_FnExactSessionOk (by decide)

end Xs
end Go.Proofs.Ytfepabohinkpgaa
