/- The typed code of the functions, printed by program. -/
import Derived.Test.YtkjpdhdmjjepfaaDoorT7
import Derived.Test.YtkjpdhdmjjepfaaDoorProg
import Derived.KernelRfl


import Derived.Test.YtkjpdhdmjjepfaaDoorItoa
import Derived.Test.YtkjpdhdmjjepfaaDoorSplit
namespace Go.Proofs.YtkjpdhdmjjepfaaDoor
open Go Vm
namespace Xs
theorem mixed : Tryd.prog.follows .mixedOrders = true := by kernel_rfl
abbrev n_laws_FnExactReadWord : Nat := 3
abbrev n_spec_ReadWord : Nat := 8
abbrev n_impl_ReadWord : Nat := 9
abbrev n_laws_eqWord : Nat := 10
abbrev n_laws_markWord : Nat := 11
abbrev n_laws_heldWord : Nat := 12
abbrev n_spec_WordOk : Nat := 26
abbrev n_impl_WordOk : Nat := 27
abbrev n_spec_l05One : Nat := 40
abbrev n_spec_l05ReadShort : Nat := 41
abbrev n_spec_l05Var : Nat := 42
abbrev n_spec_WordText : Nat := 43
abbrev n___impl_scanner__octet : Nat := 44
abbrev n___impl_scanner__short : Nat := 45
abbrev n___impl_scanner__names : Nat := 46
abbrev n___impl_scanner__done : Nat := 47
abbrev n_laws_eqStringS : Nat := 48
abbrev n_laws_markStringS : Nat := 49
abbrev n_laws_heldStringS : Nat := 50
abbrev n_spec_SplitPrivate : Nat := 53
abbrev n_impl_SplitPrivate : Nat := 61
abbrev n_spec_l01In : Nat := 71
abbrev n_spec_l17Private : Nat := 72
abbrev n_spec_l17Names : Nat := 73
abbrev n_impl_isPrivate : Nat := 74
abbrev n_impl_areNames : Nat := 75
abbrev n_impl_inRange : Nat := 76
abbrev n_laws_markText : Nat := 94
abbrev n_spec_l05Take : Nat := 96
abbrev n_spec_ReadVar : Nat := 97
abbrev n_spec_l05Byte : Nat := 98
abbrev n_spec_l05Short : Nat := 99
abbrev n_spec_l01Var : Nat := 100
abbrev n___impl_scanner__take : Nat := 101
abbrev n___impl_scanner__number : Nat := 102
abbrev n___impl_scanner__count : Nat := 103
abbrev n_spec_NameOk : Nat := 105
abbrev n_strings_Split : Nat := 111
abbrev n_impl_ReadDecimal : Nat := 112
abbrev n_impl_PrivateName : Nat := 113
abbrev n_impl_NameOk : Nat := 124
abbrev n_impl_ReadVar : Nat := 134
abbrev n_impl_Decimal : Nat := 141
abbrev n_strconv_Itoa : Nat := 157
def F_spec_l05Take : TF := ⟨(.seq (.reg none [.p (.mv 4 (.c (.string (ba [])))) .unit])
 (.seq (.seq (.join ⟨[(0, true), (1, true), (22, false)], [.box (.pair .str (.pair (.int .i64) .bool)), .cell (.int .i64), .cell .bool]⟩ (.reg (some [[], [0], [1], [2], [3], [4], [4], [6, 4], [7, 4], [8, 4], [9, 4], [4], [11, 4], [12, 4], [13, 4], [10, 14, 4], [5, 15, 4], [4, 16]]) [.p (.mvA 5 0) .unit,
  .p (.nilck 6 (.t 5)) .unit,
  .p (.fadr 7 (.t 6) 2) .unit,
  .p (.load 8 (.t 7) 1 false) .unit,
  .p (.mv 9 (.t 8)) .unit,
  .g 9 false (some 10) (.mv 10 (.t 1)) .unit,
  .g 9 false (some 11) (.mvA 11 0) .unit,
  .g 9 false (some 12) (.nilck 12 (.t 11)) .unit,
  .g 9 false (some 13) (.fadr 13 (.t 12) 0) .unit,
  .g 9 false (some 14) (.load 14 (.t 13) 1 false) .unit,
  .g 9 false (some 15) (.lenS 15 (.t 14)) .unit,
  .g 9 false (some 16) (.mvA 16 0) .unit,
  .g 9 false (some 17) (.nilck 17 (.t 16)) .unit,
  .g 9 false (some 18) (.fadr 18 (.t 17) 1) .unit,
  .g 9 false (some 19) (.load 19 (.t 18) 1 false) .unit,
  .g 9 false (some 20) (.bin 20 false .sub (.t 15) (.t 19)) .unit,
  .g 9 false (some 21) (.bin 21 false .gtr (.t 10) (.t 20)) .unit,
  .p (.pick 22 (.t 9) (.c (.bool true)) (.t 21)) .unit]))
 (.cond (.t 22) (.seq (.reg none [.p (.mvA 23 0) .unit,
  .p (.nilck 24 (.t 23)) .unit,
  .p (.fadr 25 (.t 24) 2) .unit,
  .p (.store (.t 25) (.c (.bool true)) 1) .unit])
 (.seq (.reg none [.p (.mv 4 (.c (.string (ba [])))) .unit])
 .ret)) .skip))
 (.seq (.reg none [.p (.mvA 26 0) .unit,
  .p (.mvA 27 0) .unit,
  .p (.nilck 28 (.t 27)) .unit,
  .p (.fadr 29 (.t 28) 1) .unit,
  .p (.load 30 (.t 29) 1 false) .unit,
  .p (.mv 31 (.t 1)) .unit,
  .p (.bin 32 false .add (.t 30) (.t 31)) .unit,
  .p (.nilck 33 (.t 26)) .unit,
  .p (.fadr 34 (.t 33) 1) .unit,
  .p (.store (.t 34) (.t 32) 1) .unit])
 (.seq (.reg (some [[], [0], [1], [2], [], [4], [5], [6], [], [7, 8], [], [10], [11], [12], [3, 9, 13], [14, 0, 1, 2, 3, 4, 5, 6, 7, 8, 9, 10, 11, 12, 13, 14]]) [.p (.mvA 35 0) .unit,
  .p (.nilck 36 (.t 35)) .unit,
  .p (.fadr 37 (.t 36) 0) .unit,
  .p (.load 38 (.t 37) 1 false) .unit,
  .p (.mvA 39 0) .unit,
  .p (.nilck 40 (.t 39)) .unit,
  .p (.fadr 41 (.t 40) 1) .unit,
  .p (.load 42 (.t 41) 1 false) .unit,
  .p (.mv 43 (.t 1)) .unit,
  .p (.bin 44 false .sub (.t 42) (.t 43)) .unit,
  .p (.mvA 45 0) .unit,
  .p (.nilck 46 (.t 45)) .unit,
  .p (.fadr 47 (.t 46) 1) .unit,
  .p (.load 48 (.t 47) 1 false) .unit,
  .p (.slcS 49 (.t 38) (some (.t 44)) (some (.t 48))) .unit,
  .p (.mv 4 (.t 49)) .unit])
 .ret)))),
 50, 2, [.t 4]⟩
theorem m_spec_l05Take : mH Tryd.prog 96 [(1, 0, .v), (1, 6, .v), (1, 11, .v), (2, 0, .v), (4, 0, .v), (4, 1, .v), (5, 0, .v), (5, 4, .v), (5, 10, .v)] = some (F_spec_l05Take.code.x, F_spec_l05Take.N, F_spec_l05Take.np, F_spec_l05Take.res) := by kernel_rfl
noncomputable def T_spec_l05Take : (List UInt8 × Int × Bool) × Int → Option ((List UInt8) × List UInt8 × Int × Bool) := evF [] F_spec_l05Take [.box (.pair .str (.pair (.int .i64) .bool)), .cell (.int .i64)] [0] [.cell .str] [.box (.pair .str (.pair (.int .i64) .bool))]
noncomputable def fn_spec_l05Take : TFn := ⟨96, [.box (.pair .str (.pair (.int .i64) .bool)), .cell (.int .i64)], [0], [.cell .str], [.box (.pair .str (.pair (.int .i64) .bool))], T_spec_l05Take⟩
theorem ok_spec_l05Take : FnOk Tryd.prog fn_spec_l05Take := evF_ok mixed allOk_nil m_spec_l05Take (by decide)
def F_spec_l05One : TF := ⟨(.seq (.reg none [.p (.mv 2 (.c (.int .i64 0))) .unit])
 (.seq (.reg none [.p (.mvA 4 0) .unit,
  .p (.callM 5 n_spec_l05Take [] (.ptr (.t 4) 0) [((.c (.int .i64 1)), 0)]) .unit,
  .p (.mv 3 (.t 5)) .unit])
 (.seq (.seq (.reg none [.p (.mvA 6 0) .unit,
  .p (.nilck 7 (.t 6)) .unit,
  .p (.fadr 8 (.t 7) 2) .unit,
  .p (.load 9 (.t 8) 1 false) .unit])
 (.cond (.t 9) (.seq (.reg none [.p (.mv 2 (.c (.int .i64 0))) .unit])
 .ret) .skip))
 (.seq (.reg none [.p (.mv 10 (.t 3)) .unit,
  .p (.idx 11 (.t 10) (.c (.int .i64 0))) .unit,
  .p (.cvi 12 .i64 .u8 (.t 11)) .unit,
  .p (.mv 2 (.t 12)) .unit])
 .ret)))),
 13, 1, [.t 2]⟩
theorem m_spec_l05One : mH Tryd.prog 40 [(1, 0, .v), (1, 1, (.p 0 0)), (2, 0, .v)] = some (F_spec_l05One.code.x, F_spec_l05One.N, F_spec_l05One.np, F_spec_l05One.res) := by kernel_rfl
noncomputable def T_spec_l05One : List UInt8 × Int × Bool → Option ((Int) × List UInt8 × Int × Bool) := evF [fn_spec_l05Take] F_spec_l05One [.box (.pair .str (.pair (.int .i64) .bool))] [0] [.cell (.int .i64)] [.box (.pair .str (.pair (.int .i64) .bool))]
noncomputable def fn_spec_l05One : TFn := ⟨40, [.box (.pair .str (.pair (.int .i64) .bool))], [0], [.cell (.int .i64)], [.box (.pair .str (.pair (.int .i64) .bool))], T_spec_l05One⟩
theorem ok_spec_l05One : FnOk Tryd.prog fn_spec_l05One := evF_ok mixed (allOk_cons ok_spec_l05Take allOk_nil) m_spec_l05One (by decide)
def F_spec_l01In : TF := ⟨(.seq (.reg none [.p (.mv 6 (.c (.bool false))) .unit])
 (.seq (.reg none [.p (.mv 7 (.t 0)) .unit,
  .p (.mv 8 (.t 1)) .unit,
  .p (.bin 9 false .geq (.t 7) (.t 8)) .unit,
  .p (.mv 10 (.t 9)) .unit,
  .g 10 true (some 11) (.mv 11 (.t 0)) .unit,
  .g 10 true (some 12) (.mv 12 (.t 2)) .unit,
  .g 10 true (some 13) (.bin 13 false .leq (.t 11) (.t 12)) .unit,
  .p (.pick 14 (.t 10) (.t 13) (.c (.bool false))) .unit,
  .p (.mv 6 (.t 14)) .unit])
 .ret)),
 15, 3, [.t 6]⟩
theorem m_spec_l01In : mH Tryd.prog 71 [] = some (F_spec_l01In.code.x, F_spec_l01In.N, F_spec_l01In.np, F_spec_l01In.res) := by kernel_rfl
noncomputable def T_spec_l01In : (Int) × (Int) × Int → Option (Bool) := evF [] F_spec_l01In [.cell (.int .i64), .cell (.int .i64), .cell (.int .i64)] [] [.cell .bool] []
noncomputable def fn_spec_l01In : TFn := ⟨71, [.cell (.int .i64), .cell (.int .i64), .cell (.int .i64)], [], [.cell .bool], [], T_spec_l01In⟩
theorem ok_spec_l01In : FnOk Tryd.prog fn_spec_l01In := evF_ok mixed allOk_nil m_spec_l01In (by decide)
def B_spec_l01Var_1 : TC := (.seq (.seq (.reg none [.p (.mv 5 (.t 0)) .unit,
  .p (.bin 6 false .gtr (.t 5) (.c (.int .i64 127))) .unit])
 (.cond (.t 6) .skip (.exit 0)))
 (.block 1 (.seq (.reg none [.p (.mvT 7 3) .unit,
  .p (.mv 8 (.t 0)) .unit,
  .p (.bin 9 false .rem (.t 8) (.c (.int .i64 128))) .unit,
  .p (.bin 10 false .add (.t 9) (.c (.int .i64 128))) .unit,
  .p (.cvi 11 .u8 .i64 (.t 10)) .unit,
  .p (.bldS 12 1 [(.lit (.int .u8 0))] [⟨0, 1, (.t 11)⟩]) (.int .u8),
  .p (.app 13 1 1 (.t 7) (.t 12)) (.int .u8),
  .p (.mvT 3 13) .unit])
 (.reg none [.p (.mv 14 (.t 0)) .unit,
  .p (.bin 15 false .quo (.t 14) (.c (.int .i64 128))) .unit,
  .p (.mv 0 (.t 15)) .unit]))))
noncomputable def L_spec_l01Var_1 : Nat → (Int) × List (Int) → Option (((Int) × List (Int)) ⊕ (List UInt8)) := evL [] (finT [.t 2] [] [.cell .str]) 0 ⟨[(0, false), (3, false)], [.cell (.int .i64), .cell (.sl true (.int .u8))]⟩ ⟨[(0, false), (3, false)], [.cell (.int .i64), .cell (.sl true (.int .u8))]⟩ B_spec_l01Var_1
def F_spec_l01Var : TF := ⟨(.seq (.reg none [.p (.mv 2 (.c (.string (ba [])))) .unit])
 (.seq (.reg none [.p (.bldS 4 0 [(.lit (.int .u8 0))] []) (.int .u8),
  .p (.mvT 3 4) .unit])
 (.seq (.jl 0 ⟨[(0, false), (3, false)], [.cell (.int .i64), .cell (.sl true (.int .u8))]⟩ ⟨[(0, false), (3, false)], [.cell (.int .i64), .cell (.sl true (.int .u8))]⟩ B_spec_l01Var_1)
 (.seq (.reg none [.p (.mvT 16 3) .unit,
  .p (.mv 17 (.t 0)) .unit,
  .p (.cvi 18 .u8 .i64 (.t 17)) .unit,
  .p (.bldS 19 1 [(.lit (.int .u8 0))] [⟨0, 1, (.t 18)⟩]) (.int .u8),
  .p (.app 20 1 1 (.t 16) (.t 19)) (.int .u8),
  .p (.b2s 21 (.t 20)) .unit,
  .p (.mv 2 (.t 21)) .unit])
 .ret)))),
 22, 1, [.t 2]⟩
theorem m_spec_l01Var : mH Tryd.prog 100 [(1, 1, .t), (3, 0, .t), (3, 7, .t), (5, 0, .t)] = some (F_spec_l01Var.code.x, F_spec_l01Var.N, F_spec_l01Var.np, F_spec_l01Var.res) := by kernel_rfl
noncomputable def T_spec_l01Var : Int → Option (List UInt8) := evF [] F_spec_l01Var [.cell (.int .i64)] [] [.cell .str] []
noncomputable def fn_spec_l01Var : TFn := ⟨100, [.cell (.int .i64)], [], [.cell .str], [], T_spec_l01Var⟩
theorem ok_spec_l01Var : FnOk Tryd.prog fn_spec_l01Var := evF_ok mixed allOk_nil m_spec_l01Var (by decide)
def B_spec_ReadVar_1 : TC := (.seq (.seq (.join ⟨[(0, true), (1, true), (7, false), (8, false), (9, false), (25, false)], [.cell .str, .cell (.int .i64), .cell (.int .i64), .cell (.int .i64), .cell (.int .i64), .cell .bool]⟩ (.reg none [.p (.mv 16 (.t 9)) .unit,
  .p (.mv 17 (.t 0)) .unit,
  .p (.lenS 18 (.t 17)) .unit,
  .p (.bin 19 false .lss (.t 16) (.t 18)) .unit,
  .p (.mv 20 (.t 19)) .unit,
  .g 20 true (some 21) (.mv 21 (.t 9)) .unit,
  .g 20 true (some 22) (.mv 22 (.t 1)) .unit,
  .g 20 true (some 23) (.bin 23 false .add (.t 22) (.c (.int .i64 5))) .unit,
  .g 20 true (some 24) (.bin 24 false .lss (.t 21) (.t 23)) .unit,
  .p (.pick 25 (.t 20) (.t 24) (.c (.bool false))) .unit]))
 (.cond (.t 25) .skip (.exit 0)))
 (.seq (.block 1 (.seq (.reg none [.p (.mv 28 (.t 7)) .unit,
  .p (.mv 29 (.t 0)) .unit,
  .p (.mv 30 (.t 9)) .unit,
  .p (.idx 31 (.t 29) (.t 30)) .unit,
  .p (.cvi 32 .i64 .u8 (.t 31)) .unit,
  .p (.bin 33 false .rem (.t 32) (.c (.int .i64 128))) .unit,
  .p (.mv 34 (.t 8)) .unit,
  .p (.bin 35 false .mul (.t 33) (.t 34)) .unit,
  .p (.bin 36 false .add (.t 28) (.t 35)) .unit,
  .p (.mv 7 (.t 36)) .unit])
 (.seq (.reg none [.p (.mv 37 (.t 8)) .unit,
  .p (.bin 38 false .mul (.t 37) (.c (.int .i64 128))) .unit,
  .p (.mv 8 (.t 38)) .unit])
 (.seq (.reg none [.p (.mv 39 (.t 0)) .unit,
  .p (.mv 40 (.t 9)) .unit,
  .p (.idx 41 (.t 39) (.t 40)) .unit,
  .p (.bin 42 false .lss (.t 41) (.c (.int .u8 128))) .unit])
 (.cond (.t 42) (.seq (.seq (.join ⟨[(7, false), (9, false), (54, false)], [.cell (.int .i64), .cell (.int .i64), .cell .bool]⟩ (.reg (some [[], [0], [1], [2], [3, 2, 2], [2], [2], [2], [7, 2], [5, 6, 8, 2], [4, 9, 2], [2, 10]]) [.p (.mv 43 (.t 7)) .unit,
  .p (.bin 44 false .gtr (.t 43) (.c (.int .i64 1000000000))) .unit,
  .p (.mv 45 (.t 44)) .unit,
  .g 45 false (some 46) (.mv 46 (.t 7)) .unit,
  .g 45 false (some 47) (.callB 47 n_spec_l01Var [((.t 46), 0)]) .unit,
  .g 45 false (some 48) (.mv 48 (.t 0)) .unit,
  .g 45 false (some 49) (.mv 49 (.t 1)) .unit,
  .g 45 false (some 50) (.mv 50 (.t 9)) .unit,
  .g 45 false (some 51) (.bin 51 false .add (.t 50) (.c (.int .i64 1))) .unit,
  .g 45 false (some 52) (.slcS 52 (.t 48) (some (.t 49)) (some (.t 51))) .unit,
  .g 45 false (some 53) (.bin 53 false .neq (.t 47) (.t 52)) .unit,
  .p (.pick 54 (.t 45) (.c (.bool true)) (.t 53)) .unit]))
 (.cond (.t 54) (.seq (.reg none [.p (.mv 4 (.c (.int .i64 0))) .unit,
  .p (.mv 5 (.c (.int .i64 0))) .unit,
  .p (.mv 6 (.c (.bool false))) .unit])
 .ret) .skip))
 (.seq (.reg none [.p (.mv 55 (.t 7)) .unit,
  .p (.mv 56 (.t 9)) .unit,
  .p (.bin 57 false .add (.t 56) (.c (.int .i64 1))) .unit,
  .p (.mv 4 (.t 55)) .unit,
  .p (.mv 5 (.t 57)) .unit,
  .p (.mv 6 (.c (.bool true))) .unit])
 .ret)) .skip)))))
 (.reg none [.p (.mv 26 (.t 9)) .unit,
  .p (.bin 27 false .add (.t 26) (.c (.int .i64 1))) .unit,
  .p (.mv 9 (.t 27)) .unit])))
noncomputable def L_spec_ReadVar_1 : Nat → (List UInt8) × (Int) × (Int) × (Int) × Int → Option ((Unit) ⊕ ((Int) × (Int) × Bool)) := evL [fn_spec_l01In, fn_spec_l01Var] (finT [.t 4, .t 5, .t 6] [] [.cell (.int .i64), .cell (.int .i64), .cell .bool]) 0 ⟨[(0, true), (1, true), (7, false), (8, false), (9, false)], [.cell .str, .cell (.int .i64), .cell (.int .i64), .cell (.int .i64), .cell (.int .i64)]⟩ ⟨[], []⟩ B_spec_ReadVar_1
def F_spec_ReadVar : TF := ⟨(.seq (.reg none [.p (.mv 4 (.c (.int .i64 0))) .unit,
  .p (.mv 5 (.c (.int .i64 0))) .unit,
  .p (.mv 6 (.c (.bool false))) .unit])
 (.seq (.seq (.reg none [.p (.mv 10 (.t 1)) .unit,
  .p (.mv 11 (.t 0)) .unit,
  .p (.lenS 12 (.t 11)) .unit,
  .p (.callB 13 n_spec_l01In [((.t 10), 0), ((.c (.int .i64 0)), 0), ((.t 12), 0)]) .unit,
  .p (.un 14 .not (.t 13)) .unit])
 (.cond (.t 14) (.seq (.reg none [.p (.mv 4 (.c (.int .i64 0))) .unit,
  .p (.mv 5 (.c (.int .i64 0))) .unit,
  .p (.mv 6 (.c (.bool false))) .unit])
 .ret) .skip))
 (.seq (.reg none [.p (.mv 7 (.c (.int .i64 0))) .unit])
 (.seq (.reg none [.p (.mv 8 (.c (.int .i64 1))) .unit])
 (.seq (.seq (.reg none [.p (.mv 15 (.t 1)) .unit,
  .p (.mv 9 (.t 15)) .unit])
 (.jl 0 ⟨[(0, true), (1, true), (7, false), (8, false), (9, false)], [.cell .str, .cell (.int .i64), .cell (.int .i64), .cell (.int .i64), .cell (.int .i64)]⟩ ⟨[], []⟩ B_spec_ReadVar_1))
 (.seq (.reg none [.p (.mv 4 (.c (.int .i64 0))) .unit,
  .p (.mv 5 (.c (.int .i64 0))) .unit,
  .p (.mv 6 (.c (.bool false))) .unit])
 .ret)))))),
 58, 2, [.t 4, .t 5, .t 6]⟩
theorem m_spec_ReadVar : mH Tryd.prog 97 [] = some (F_spec_ReadVar.code.x, F_spec_ReadVar.N, F_spec_ReadVar.np, F_spec_ReadVar.res) := by kernel_rfl
noncomputable def T_spec_ReadVar : (List UInt8) × Int → Option ((Int) × (Int) × Bool) := evF [fn_spec_l01In, fn_spec_l01Var] F_spec_ReadVar [.cell .str, .cell (.int .i64)] [] [.cell (.int .i64), .cell (.int .i64), .cell .bool] []
noncomputable def fn_spec_ReadVar : TFn := ⟨97, [.cell .str, .cell (.int .i64)], [], [.cell (.int .i64), .cell (.int .i64), .cell .bool], [], T_spec_ReadVar⟩
theorem ok_spec_ReadVar : FnOk Tryd.prog fn_spec_ReadVar := evF_ok mixed (allOk_cons ok_spec_l01In (allOk_cons ok_spec_l01Var allOk_nil)) m_spec_ReadVar (by decide)
def F_spec_l05Var : TF := ⟨(.seq (.reg none [.p (.mv 2 (.c (.int .i64 0))) .unit])
 (.seq (.reg (some [[], [0], [1], [2], [], [4], [5], [6], [3, 7], [8], [9], [9], [9], [10, 8, 0, 1, 2, 3, 4, 5, 6, 7, 8, 9, 10], [11, 13, 0, 1, 2, 3, 4, 5, 6, 7, 8, 9, 10, 11, 13], [12, 14, 0, 1, 2, 3, 4, 5, 6, 7, 8, 9, 10, 11, 12, 13, 14]]) [.p (.mvA 7 0) .unit,
  .p (.nilck 8 (.t 7)) .unit,
  .p (.fadr 9 (.t 8) 0) .unit,
  .p (.load 10 (.t 9) 1 false) .unit,
  .p (.mvA 11 0) .unit,
  .p (.nilck 12 (.t 11)) .unit,
  .p (.fadr 13 (.t 12) 1) .unit,
  .p (.load 14 (.t 13) 1 false) .unit,
  .p (.callB 15 n_spec_ReadVar [((.t 10), 0), ((.t 14), 0)]) .unit,
  .p (.mv 6 (.t 15)) .unit,
  .p (.ext 16 (.t 6) 0) .unit,
  .p (.ext 17 (.t 6) 1) .unit,
  .p (.ext 18 (.t 6) 2) .unit,
  .p (.mv 3 (.t 16)) .unit,
  .p (.mv 4 (.t 17)) .unit,
  .p (.mv 5 (.t 18)) .unit])
 (.seq (.seq (.join ⟨[(0, true), (3, false), (4, false), (26, false)], [.box (.pair .str (.pair (.int .i64) .bool)), .cell (.int .i64), .cell (.int .i64), .cell .bool]⟩ (.reg none [.p (.mvA 19 0) .unit,
  .p (.nilck 20 (.t 19)) .unit,
  .p (.fadr 21 (.t 20) 2) .unit,
  .p (.load 22 (.t 21) 1 false) .unit,
  .p (.mv 23 (.t 22)) .unit,
  .g 23 false (some 24) (.mv 24 (.t 5)) .unit,
  .g 23 false (some 25) (.un 25 .not (.t 24)) .unit,
  .p (.pick 26 (.t 23) (.c (.bool true)) (.t 25)) .unit]))
 (.cond (.t 26) (.seq (.reg none [.p (.mvA 27 0) .unit,
  .p (.nilck 28 (.t 27)) .unit,
  .p (.fadr 29 (.t 28) 2) .unit,
  .p (.store (.t 29) (.c (.bool true)) 1) .unit])
 (.seq (.reg none [.p (.mv 2 (.c (.int .i64 0))) .unit])
 .ret)) .skip))
 (.seq (.reg none [.p (.mvA 30 0) .unit,
  .p (.mv 31 (.t 4)) .unit,
  .p (.nilck 32 (.t 30)) .unit,
  .p (.fadr 33 (.t 32) 1) .unit,
  .p (.store (.t 33) (.t 31) 1) .unit])
 (.seq (.reg none [.p (.mv 34 (.t 3)) .unit,
  .p (.mv 2 (.t 34)) .unit])
 .ret))))),
 35, 1, [.t 2]⟩
theorem m_spec_l05Var : mH Tryd.prog 42 [(1, 0, .v), (1, 4, .v), (2, 0, .v), (3, 0, .v), (5, 0, .v)] = some (F_spec_l05Var.code.x, F_spec_l05Var.N, F_spec_l05Var.np, F_spec_l05Var.res) := by kernel_rfl
noncomputable def T_spec_l05Var : List UInt8 × Int × Bool → Option ((Int) × List UInt8 × Int × Bool) := evF [fn_spec_ReadVar] F_spec_l05Var [.box (.pair .str (.pair (.int .i64) .bool))] [0] [.cell (.int .i64)] [.box (.pair .str (.pair (.int .i64) .bool))]
noncomputable def fn_spec_l05Var : TFn := ⟨42, [.box (.pair .str (.pair (.int .i64) .bool))], [0], [.cell (.int .i64)], [.box (.pair .str (.pair (.int .i64) .bool))], T_spec_l05Var⟩
theorem ok_spec_l05Var : FnOk Tryd.prog fn_spec_l05Var := evF_ok mixed (allOk_cons ok_spec_ReadVar allOk_nil) m_spec_l05Var (by decide)
def F_spec_l05ReadShort : TF := ⟨(.seq (.reg none [.p (.mv 2 (.c (.string (ba [])))) .unit])
 (.seq (.reg none [.p (.mvA 4 0) .unit,
  .p (.callM 5 n_spec_l05Var [] (.ptr (.t 4) 0) []) .unit,
  .p (.mv 3 (.t 5)) .unit])
 (.seq (.reg none [.p (.mvA 6 0) .unit,
  .p (.mv 7 (.t 3)) .unit,
  .p (.callM 8 n_spec_l05Take [] (.ptr (.t 6) 0) [((.t 7), 0)]) .unit,
  .p (.mv 2 (.t 8)) .unit])
 .ret))),
 9, 1, [.t 2]⟩
theorem m_spec_l05ReadShort : mH Tryd.prog 41 [(1, 0, .v), (1, 1, (.p 0 0)), (2, 0, .v), (2, 2, (.p 0 0))] = some (F_spec_l05ReadShort.code.x, F_spec_l05ReadShort.N, F_spec_l05ReadShort.np, F_spec_l05ReadShort.res) := by kernel_rfl
noncomputable def T_spec_l05ReadShort : List UInt8 × Int × Bool → Option ((List UInt8) × List UInt8 × Int × Bool) := evF [fn_spec_l05Var, fn_spec_l05Take] F_spec_l05ReadShort [.box (.pair .str (.pair (.int .i64) .bool))] [0] [.cell .str] [.box (.pair .str (.pair (.int .i64) .bool))]
noncomputable def fn_spec_l05ReadShort : TFn := ⟨41, [.box (.pair .str (.pair (.int .i64) .bool))], [0], [.cell .str], [.box (.pair .str (.pair (.int .i64) .bool))], T_spec_l05ReadShort⟩
theorem ok_spec_l05ReadShort : FnOk Tryd.prog fn_spec_l05ReadShort := evF_ok mixed (allOk_cons ok_spec_l05Var (allOk_cons ok_spec_l05Take allOk_nil)) m_spec_l05ReadShort (by decide)
def B_spec_NameOk_1 : TC := (.seq (.seq (.reg none [.p (.mv 18 (.t 3)) .unit,
  .p (.mv 19 (.t 0)) .unit,
  .p (.lenS 20 (.t 19)) .unit,
  .p (.bin 21 false .lss (.t 18) (.t 20)) .unit])
 (.cond (.t 21) .skip (.exit 0)))
 (.seq (.block 1 (.seq (.join ⟨[(0, true), (3, false), (45, false)], [.cell .str, .cell (.int .i64), .cell .bool]⟩ (.reg none [.p (.mv 24 (.t 0)) .unit,
  .p (.mv 25 (.t 3)) .unit,
  .p (.idx 26 (.t 24) (.t 25)) .unit,
  .p (.bin 27 false .lss (.t 26) (.c (.int .u8 97))) .unit,
  .p (.mv 28 (.t 27)) .unit,
  .g 28 false (some 29) (.mv 29 (.t 0)) .unit,
  .g 28 false (some 30) (.mv 30 (.t 3)) .unit,
  .g 28 false (some 31) (.idx 31 (.t 29) (.t 30)) .unit,
  .g 28 false (some 32) (.bin 32 false .gtr (.t 31) (.c (.int .u8 122))) .unit,
  .p (.pick 33 (.t 28) (.c (.bool true)) (.t 32)) .unit,
  .p (.mv 34 (.t 33)) .unit,
  .g 34 true (some 35) (.mv 35 (.t 0)) .unit,
  .g 34 true (some 36) (.mv 36 (.t 3)) .unit,
  .g 34 true (some 37) (.idx 37 (.t 35) (.t 36)) .unit,
  .g 34 true (some 38) (.bin 38 false .lss (.t 37) (.c (.int .u8 48))) .unit,
  .g 34 true (some 39) (.mv 39 (.t 38)) .unit,
  .g 39 false (some 40) (.mv 40 (.t 0)) .unit,
  .g 39 false (some 41) (.mv 41 (.t 3)) .unit,
  .g 39 false (some 42) (.idx 42 (.t 40) (.t 41)) .unit,
  .g 39 false (some 43) (.bin 43 false .gtr (.t 42) (.c (.int .u8 57))) .unit,
  .g 34 true (some 44) (.pick 44 (.t 39) (.c (.bool true)) (.t 43)) .unit,
  .p (.pick 45 (.t 34) (.t 44) (.c (.bool false))) .unit]))
 (.cond (.t 45) (.seq (.reg none [.p (.mv 2 (.c (.bool false))) .unit])
 .ret) .skip)))
 (.reg none [.p (.mv 22 (.t 3)) .unit,
  .p (.bin 23 false .add (.t 22) (.c (.int .i64 1))) .unit,
  .p (.mv 3 (.t 23)) .unit])))
noncomputable def L_spec_NameOk_1 : Nat → (List UInt8) × Int → Option ((Unit) ⊕ (Bool)) := evL [fn_spec_l01In] (finT [.t 2] [] [.cell .bool]) 0 ⟨[(0, true), (3, false)], [.cell .str, .cell (.int .i64)]⟩ ⟨[], []⟩ B_spec_NameOk_1
def F_spec_NameOk : TF := ⟨(.seq (.reg none [.p (.mv 2 (.c (.bool false))) .unit])
 (.seq (.seq (.join ⟨[(0, true), (17, false)], [.cell .str, .cell .bool]⟩ (.reg none [.p (.mv 4 (.t 0)) .unit,
  .p (.lenS 5 (.t 4)) .unit,
  .p (.callB 6 n_spec_l01In [((.t 5), 0), ((.c (.int .i64 1)), 0), ((.c (.int .i64 12)), 0)]) .unit,
  .p (.un 7 .not (.t 6)) .unit,
  .p (.mv 8 (.t 7)) .unit,
  .g 8 false (some 9) (.mv 9 (.t 0)) .unit,
  .g 8 false (some 10) (.idx 10 (.t 9) (.c (.int .i64 0))) .unit,
  .g 8 false (some 11) (.bin 11 false .lss (.t 10) (.c (.int .u8 97))) .unit,
  .p (.pick 12 (.t 8) (.c (.bool true)) (.t 11)) .unit,
  .p (.mv 13 (.t 12)) .unit,
  .g 13 false (some 14) (.mv 14 (.t 0)) .unit,
  .g 13 false (some 15) (.idx 15 (.t 14) (.c (.int .i64 0))) .unit,
  .g 13 false (some 16) (.bin 16 false .gtr (.t 15) (.c (.int .u8 122))) .unit,
  .p (.pick 17 (.t 13) (.c (.bool true)) (.t 16)) .unit]))
 (.cond (.t 17) (.seq (.reg none [.p (.mv 2 (.c (.bool false))) .unit])
 .ret) .skip))
 (.seq (.seq (.reg none [.p (.mv 3 (.c (.int .i64 0))) .unit])
 (.jl 0 ⟨[(0, true), (3, false)], [.cell .str, .cell (.int .i64)]⟩ ⟨[], []⟩ B_spec_NameOk_1))
 (.seq (.reg none [.p (.mv 2 (.c (.bool true))) .unit])
 .ret)))),
 46, 1, [.t 2]⟩
theorem m_spec_NameOk : mH Tryd.prog 105 [] = some (F_spec_NameOk.code.x, F_spec_NameOk.N, F_spec_NameOk.np, F_spec_NameOk.res) := by kernel_rfl
noncomputable def T_spec_NameOk : List UInt8 → Option (Bool) := evF [fn_spec_l01In] F_spec_NameOk [.cell .str] [] [.cell .bool] []
noncomputable def fn_spec_NameOk : TFn := ⟨105, [.cell .str], [], [.cell .bool], [], T_spec_NameOk⟩
theorem ok_spec_NameOk : FnOk Tryd.prog fn_spec_NameOk := evF_ok mixed (allOk_cons ok_spec_l01In allOk_nil) m_spec_NameOk (by decide)
def F_spec_SplitPrivate : TF := ⟨(.seq (.reg none [.p (.mv 2 (.c (.int .i64 0))) .unit,
  .p (.mv 3 (.c (.string (ba [])))) .unit,
  .p (.mv 4 (.c (.bool false))) .unit])
 (.seq (.seq (.join ⟨[(0, true), (33, false)], [.cell .str, .cell .bool]⟩ (.reg none [.p (.mv 5 (.t 0)) .unit,
  .p (.lenS 6 (.t 5)) .unit,
  .p (.bin 7 false .lss (.t 6) (.c (.int .i64 4))) .unit,
  .p (.mv 8 (.t 7)) .unit,
  .g 8 false (some 9) (.mv 9 (.t 0)) .unit,
  .g 8 false (some 10) (.idx 10 (.t 9) (.c (.int .i64 0))) .unit,
  .g 8 false (some 11) (.bin 11 false .neq (.t 10) (.c (.int .u8 35))) .unit,
  .p (.pick 12 (.t 8) (.c (.bool true)) (.t 11)) .unit,
  .p (.mv 13 (.t 12)) .unit,
  .g 13 false (some 14) (.mv 14 (.t 0)) .unit,
  .g 13 false (some 15) (.idx 15 (.t 14) (.c (.int .i64 2))) .unit,
  .g 13 false (some 16) (.bin 16 false .neq (.t 15) (.c (.int .u8 35))) .unit,
  .p (.pick 17 (.t 13) (.c (.bool true)) (.t 16)) .unit,
  .p (.mv 18 (.t 17)) .unit,
  .g 18 false (some 19) (.mv 19 (.t 0)) .unit,
  .g 18 false (some 20) (.idx 20 (.t 19) (.c (.int .i64 1))) .unit,
  .g 18 false (some 21) (.bin 21 false .lss (.t 20) (.c (.int .u8 49))) .unit,
  .p (.pick 22 (.t 18) (.c (.bool true)) (.t 21)) .unit,
  .p (.mv 23 (.t 22)) .unit,
  .g 23 false (some 24) (.mv 24 (.t 0)) .unit,
  .g 23 false (some 25) (.idx 25 (.t 24) (.c (.int .i64 1))) .unit,
  .g 23 false (some 26) (.bin 26 false .gtr (.t 25) (.c (.int .u8 57))) .unit,
  .p (.pick 27 (.t 23) (.c (.bool true)) (.t 26)) .unit,
  .p (.mv 28 (.t 27)) .unit,
  .g 28 false (some 29) (.mv 29 (.t 0)) .unit,
  .g 28 false (some 30) (.slcS 30 (.t 29) (some (.c (.int .i64 3))) none) .unit,
  .g 28 false (some 31) (.callB 31 n_spec_NameOk [((.t 30), 0)]) .unit,
  .g 28 false (some 32) (.un 32 .not (.t 31)) .unit,
  .p (.pick 33 (.t 28) (.c (.bool true)) (.t 32)) .unit]))
 (.cond (.t 33) (.seq (.reg none [.p (.mv 2 (.c (.int .i64 0))) .unit,
  .p (.mv 3 (.c (.string (ba [])))) .unit,
  .p (.mv 4 (.c (.bool false))) .unit])
 .ret) .skip))
 (.seq (.reg (some [[], [0], [1], [2], [], [4], [3, 0, 1, 2, 3], [5, 6, 0, 1, 2, 3, 4, 5, 6], [7, 0, 1, 2, 3, 4, 5, 6, 7]]) [.p (.mv 34 (.t 0)) .unit,
  .p (.idx 35 (.t 34) (.c (.int .i64 1))) .unit,
  .p (.cvi 36 .i64 .u8 (.t 35)) .unit,
  .p (.bin 37 false .sub (.t 36) (.c (.int .i64 48))) .unit,
  .p (.mv 38 (.t 0)) .unit,
  .p (.slcS 39 (.t 38) (some (.c (.int .i64 3))) none) .unit,
  .p (.mv 2 (.t 37)) .unit,
  .p (.mv 3 (.t 39)) .unit,
  .p (.mv 4 (.c (.bool true))) .unit])
 .ret))),
 40, 1, [.t 2, .t 3, .t 4]⟩
theorem m_spec_SplitPrivate : mH Tryd.prog 53 [] = some (F_spec_SplitPrivate.code.x, F_spec_SplitPrivate.N, F_spec_SplitPrivate.np, F_spec_SplitPrivate.res) := by kernel_rfl
noncomputable def T_spec_SplitPrivate : List UInt8 → Option ((Int) × (List UInt8) × Bool) := evF [fn_spec_NameOk] F_spec_SplitPrivate [.cell .str] [] [.cell (.int .i64), .cell .str, .cell .bool] []
noncomputable def fn_spec_SplitPrivate : TFn := ⟨53, [.cell .str], [], [.cell (.int .i64), .cell .str, .cell .bool], [], T_spec_SplitPrivate⟩
theorem ok_spec_SplitPrivate : FnOk Tryd.prog fn_spec_SplitPrivate := evF_ok mixed (allOk_cons ok_spec_NameOk allOk_nil) m_spec_SplitPrivate (by decide)
def F_spec_l17Private : TF := ⟨(.seq (.reg none [.p (.mv 2 (.c (.bool false))) .unit])
 (.seq (.reg none [.p (.mv 7 (.t 0)) .unit,
  .p (.callB 8 n_spec_SplitPrivate [((.t 7), 0)]) .unit,
  .p (.mv 6 (.t 8)) .unit,
  .p (.ext 9 (.t 6) 0) .unit,
  .p (.ext 10 (.t 6) 1) .unit,
  .p (.ext 11 (.t 6) 2) .unit,
  .p (.mv 3 (.t 9)) .unit,
  .p (.mv 4 (.t 10)) .unit,
  .p (.mv 5 (.t 11)) .unit])
 (.seq (.reg none [.p (.mv 12 (.t 5)) .unit,
  .p (.mv 2 (.t 12)) .unit])
 .ret))),
 13, 1, [.t 2]⟩
theorem m_spec_l17Private : mH Tryd.prog 72 [] = some (F_spec_l17Private.code.x, F_spec_l17Private.N, F_spec_l17Private.np, F_spec_l17Private.res) := by kernel_rfl
noncomputable def T_spec_l17Private : List UInt8 → Option (Bool) := evF [fn_spec_SplitPrivate] F_spec_l17Private [.cell .str] [] [.cell .bool] []
noncomputable def fn_spec_l17Private : TFn := ⟨72, [.cell .str], [], [.cell .bool], [], T_spec_l17Private⟩
theorem ok_spec_l17Private : FnOk Tryd.prog fn_spec_l17Private := evF_ok mixed (allOk_cons ok_spec_SplitPrivate allOk_nil) m_spec_l17Private (by decide)
def B_spec_l17Names_1 : TC := (.seq (.seq (.reg none [.p (.mv 4 (.t 3)) .unit,
  .p (.mv 5 (.t 0)) .unit,
  .p (.lenB 6 (.t 5)) .unit,
  .p (.bin 7 false .lss (.t 4) (.t 6)) .unit])
 (.cond (.t 7) .skip (.exit 0)))
 (.seq (.block 1 (.seq (.join ⟨[(0, true), (3, false), (31, false)], [.cell (.sl false .str), .cell (.int .i64), .cell .bool]⟩ (.reg (some [[], [], [0, 1], [2], [3], [4], [5, 4], [6], [7, 6], [8, 6, 6], [9], [9], [11, 9], [10, 12, 9], [13, 9], [9], [9], [15, 16, 9], [17, 9], [14, 18, 9], [9, 19, 6], [6, 20]]) [.p (.mv 10 (.t 0)) .unit,
  .p (.mv 11 (.t 3)) .unit,
  .p (.iadr 12 1 (.t 10) (.t 11)) .unit,
  .p (.load 13 (.t 12) 1 false) .unit,
  .p (.callB 14 n_spec_NameOk [((.t 13), 0)]) .unit,
  .p (.un 15 .not (.t 14)) .unit,
  .p (.mv 16 (.t 15)) .unit,
  .g 16 false (some 17) (.mv 17 (.t 3)) .unit,
  .g 16 false (some 18) (.bin 18 false .gtr (.t 17) (.c (.int .i64 0))) .unit,
  .g 16 false (some 19) (.mv 19 (.t 18)) .unit,
  .g 19 true (some 20) (.mv 20 (.t 0)) .unit,
  .g 19 true (some 21) (.mv 21 (.t 3)) .unit,
  .g 19 true (some 22) (.bin 22 false .sub (.t 21) (.c (.int .i64 1))) .unit,
  .g 19 true (some 23) (.iadr 23 1 (.t 20) (.t 22)) .unit,
  .g 19 true (some 24) (.load 24 (.t 23) 1 false) .unit,
  .g 19 true (some 25) (.mv 25 (.t 0)) .unit,
  .g 19 true (some 26) (.mv 26 (.t 3)) .unit,
  .g 19 true (some 27) (.iadr 27 1 (.t 25) (.t 26)) .unit,
  .g 19 true (some 28) (.load 28 (.t 27) 1 false) .unit,
  .g 19 true (some 29) (.bin 29 false .geq (.t 24) (.t 28)) .unit,
  .g 16 false (some 30) (.pick 30 (.t 19) (.t 29) (.c (.bool false))) .unit,
  .p (.pick 31 (.t 16) (.c (.bool true)) (.t 30)) .unit]))
 (.cond (.t 31) (.seq (.reg none [.p (.mv 2 (.c (.bool false))) .unit])
 .ret) .skip)))
 (.reg none [.p (.mv 8 (.t 3)) .unit,
  .p (.bin 9 false .add (.t 8) (.c (.int .i64 1))) .unit,
  .p (.mv 3 (.t 9)) .unit])))
noncomputable def L_spec_l17Names_1 : Nat → (List (List UInt8)) × Int → Option ((Unit) ⊕ (Bool)) := evL [fn_spec_NameOk] (finT [.t 2] [] [.cell .bool]) 0 ⟨[(0, true), (3, false)], [.cell (.sl false .str), .cell (.int .i64)]⟩ ⟨[], []⟩ B_spec_l17Names_1
def F_spec_l17Names : TF := ⟨(.seq (.reg none [.p (.mv 2 (.c (.bool false))) .unit])
 (.seq (.seq (.reg none [.p (.mv 3 (.c (.int .i64 0))) .unit])
 (.jl 0 ⟨[(0, true), (3, false)], [.cell (.sl false .str), .cell (.int .i64)]⟩ ⟨[], []⟩ B_spec_l17Names_1))
 (.seq (.reg none [.p (.mv 2 (.c (.bool true))) .unit])
 .ret))),
 32, 1, [.t 2]⟩
theorem m_spec_l17Names : mH Tryd.prog 73 [] = some (F_spec_l17Names.code.x, F_spec_l17Names.N, F_spec_l17Names.np, F_spec_l17Names.res) := by kernel_rfl
noncomputable def T_spec_l17Names : List (List UInt8) → Option (Bool) := evF [fn_spec_NameOk] F_spec_l17Names [.cell (.sl false .str)] [] [.cell .bool] []
noncomputable def fn_spec_l17Names : TFn := ⟨73, [.cell (.sl false .str)], [], [.cell .bool], [], T_spec_l17Names⟩
theorem ok_spec_l17Names : FnOk Tryd.prog fn_spec_l17Names := evF_ok mixed (allOk_cons ok_spec_NameOk allOk_nil) m_spec_l17Names (by decide)
def F_spec_WordOk : TF := ⟨(.seq (.reg none [.p (.box 1 (.t 0)) .unit,
  .p (.mv 2 (.c (.bool false))) .unit])
 (.seq (.seq (.join ⟨[(1, false), (18, false)], [.box (.pair (.int .i64) (.pair .str (.pair (.sl false .str) .str))), .cell .bool]⟩ (.reg none [.p (.fadr 3 (.t 1) 0) .unit,
  .p (.load 4 (.t 3) 1 false) .unit,
  .p (.callB 5 n_spec_l01In [((.t 4), 0), ((.c (.int .i64 1)), 0), ((.c (.int .i64 4)), 0)]) .unit,
  .p (.un 6 .not (.t 5)) .unit,
  .p (.mv 7 (.t 6)) .unit,
  .g 7 false (some 8) (.fadr 8 (.t 1) 1) .unit,
  .g 7 false (some 9) (.load 9 (.t 8) 1 false) .unit,
  .g 7 false (some 10) (.callB 10 n_spec_l17Private [((.t 9), 0)]) .unit,
  .g 7 false (some 11) (.un 11 .not (.t 10)) .unit,
  .p (.pick 12 (.t 7) (.c (.bool true)) (.t 11)) .unit,
  .p (.mv 13 (.t 12)) .unit,
  .g 13 false (some 14) (.fadr 14 (.t 1) 2) .unit,
  .g 13 false (some 15) (.load 15 (.t 14) 1 false) .unit,
  .g 13 false (some 16) (.callB 16 n_spec_l17Names [((.t 15), 0)]) .unit,
  .g 13 false (some 17) (.un 17 .not (.t 16)) .unit,
  .p (.pick 18 (.t 13) (.c (.bool true)) (.t 17)) .unit]))
 (.cond (.t 18) (.seq (.reg none [.p (.mv 2 (.c (.bool false))) .unit])
 .ret) .skip))
 (.seq (.seq (.reg none [.p (.fadr 19 (.t 1) 0) .unit,
  .p (.load 20 (.t 19) 1 false) .unit])
 (.block 0 (.seq (.reg none [.p (.bin 22 false .eql (.t 20) (.c (.int .i64 4))) .unit,
  .p (.mv 21 (.t 22)) .unit])
 (.cond (.t 21) (.seq (.reg none [.p (.fadr 23 (.t 1) 2) .unit,
  .p (.load 24 (.t 23) 1 false) .unit,
  .p (.lenB 25 (.t 24)) .unit,
  .p (.callB 26 n_spec_l01In [((.t 25), 0), ((.c (.int .i64 1)), 0), ((.c (.int .i64 3)), 0)]) .unit,
  .p (.mv 27 (.t 26)) .unit,
  .g 27 true (some 28) (.fadr 28 (.t 1) 3) .unit,
  .g 27 true (some 29) (.load 29 (.t 28) 1 false) .unit,
  .g 27 true (some 30) (.lenS 30 (.t 29)) .unit,
  .g 27 true (some 31) (.bin 31 false .leq (.t 30) (.c (.int .i64 20))) .unit,
  .p (.pick 32 (.t 27) (.t 31) (.c (.bool false))) .unit,
  .p (.mv 2 (.t 32)) .unit])
 .ret) (.seq (.reg none [.p (.bin 34 false .eql (.t 20) (.c (.int .i64 3))) .unit,
  .p (.mv 33 (.t 34)) .unit])
 (.cond (.t 33) (.seq (.reg none [.p (.fadr 35 (.t 1) 2) .unit,
  .p (.load 36 (.t 35) 1 false) .unit,
  .p (.lenB 37 (.t 36)) .unit,
  .p (.bin 38 false .eql (.t 37) (.c (.int .i64 0))) .unit,
  .p (.mv 39 (.t 38)) .unit,
  .g 39 true (some 40) (.fadr 40 (.t 1) 3) .unit,
  .g 39 true (some 41) (.load 41 (.t 40) 1 false) .unit,
  .g 39 true (some 42) (.bin 42 false .eql (.t 41) (.c (.string (ba [])))) .unit,
  .p (.pick 43 (.t 39) (.t 42) (.c (.bool false))) .unit,
  .p (.mv 2 (.t 43)) .unit])
 .ret) .skip))))))
 (.seq (.reg none [.p (.fadr 44 (.t 1) 2) .unit,
  .p (.load 45 (.t 44) 1 false) .unit,
  .p (.lenB 46 (.t 45)) .unit,
  .p (.bin 47 false .eql (.t 46) (.c (.int .i64 1))) .unit,
  .p (.mv 48 (.t 47)) .unit,
  .g 48 true (some 49) (.fadr 49 (.t 1) 3) .unit,
  .g 48 true (some 50) (.load 50 (.t 49) 1 false) .unit,
  .g 48 true (some 51) (.bin 51 false .eql (.t 50) (.c (.string (ba [])))) .unit,
  .p (.pick 52 (.t 48) (.t 51) (.c (.bool false))) .unit,
  .p (.mv 2 (.t 52)) .unit])
 .ret)))),
 53, 1, [.t 2]⟩
theorem m_spec_WordOk : mH Tryd.prog 26 [] = some (F_spec_WordOk.code.x, F_spec_WordOk.N, F_spec_WordOk.np, F_spec_WordOk.res) := by kernel_rfl
noncomputable def T_spec_WordOk : Int × List UInt8 × List (List UInt8) × List UInt8 → Option (Bool) := evF [fn_spec_l01In, fn_spec_l17Private, fn_spec_l17Names] F_spec_WordOk [.agg (.pair (.int .i64) (.pair .str (.pair (.sl false .str) .str)))] [] [.cell .bool] []
noncomputable def fn_spec_WordOk : TFn := ⟨26, [.agg (.pair (.int .i64) (.pair .str (.pair (.sl false .str) .str)))], [], [.cell .bool], [], T_spec_WordOk⟩
theorem ok_spec_WordOk : FnOk Tryd.prog fn_spec_WordOk := evF_ok mixed (allOk_cons ok_spec_l01In (allOk_cons ok_spec_l17Private (allOk_cons ok_spec_l17Names allOk_nil))) m_spec_WordOk (by decide)
def F_spec_l05Byte : TF := ⟨(.seq (.reg none [.p (.mv 2 (.c (.string (ba [])))) .unit])
 (.seq (.reg none [.p (.mv 3 (.t 0)) .unit,
  .p (.cvi 4 .u8 .i64 (.t 3)) .unit,
  .p (.bldS 5 1 [(.lit (.int .u8 0))] [⟨0, 1, (.t 4)⟩]) (.int .u8),
  .p (.b2s 6 (.t 5)) .unit,
  .p (.mv 2 (.t 6)) .unit])
 .ret)),
 7, 1, [.t 2]⟩
theorem m_spec_l05Byte : mH Tryd.prog 98 [] = some (F_spec_l05Byte.code.x, F_spec_l05Byte.N, F_spec_l05Byte.np, F_spec_l05Byte.res) := by kernel_rfl
noncomputable def T_spec_l05Byte : Int → Option (List UInt8) := evF [] F_spec_l05Byte [.cell (.int .i64)] [] [.cell .str] []
noncomputable def fn_spec_l05Byte : TFn := ⟨98, [.cell (.int .i64)], [], [.cell .str], [], T_spec_l05Byte⟩
theorem ok_spec_l05Byte : FnOk Tryd.prog fn_spec_l05Byte := evF_ok mixed allOk_nil m_spec_l05Byte (by decide)
def F_spec_l05Short : TF := ⟨(.seq (.reg none [.p (.mv 2 (.c (.string (ba [])))) .unit])
 (.seq (.reg none [.p (.mv 3 (.t 0)) .unit,
  .p (.lenS 4 (.t 3)) .unit,
  .p (.callB 5 n_spec_l01Var [((.t 4), 0)]) .unit,
  .p (.mv 6 (.t 0)) .unit,
  .p (.bin 7 false .add (.t 5) (.t 6)) .unit,
  .p (.mv 2 (.t 7)) .unit])
 .ret)),
 8, 1, [.t 2]⟩
theorem m_spec_l05Short : mH Tryd.prog 99 [] = some (F_spec_l05Short.code.x, F_spec_l05Short.N, F_spec_l05Short.np, F_spec_l05Short.res) := by kernel_rfl
noncomputable def T_spec_l05Short : List UInt8 → Option (List UInt8) := evF [fn_spec_l01Var] F_spec_l05Short [.cell .str] [] [.cell .str] []
noncomputable def fn_spec_l05Short : TFn := ⟨99, [.cell .str], [], [.cell .str], [], T_spec_l05Short⟩
theorem ok_spec_l05Short : FnOk Tryd.prog fn_spec_l05Short := evF_ok mixed (allOk_cons ok_spec_l01Var allOk_nil) m_spec_l05Short (by decide)
def B_spec_WordText_1 : TC := (.seq (.seq (.reg none [.p (.mv 21 (.t 5)) .unit,
  .p (.fadr 22 (.t 1) 2) .unit,
  .p (.load 23 (.t 22) 1 false) .unit,
  .p (.lenB 24 (.t 23)) .unit,
  .p (.bin 25 false .lss (.t 21) (.t 24)) .unit])
 (.cond (.t 25) .skip (.exit 0)))
 (.seq (.block 1 (.reg none [.p (.mv 28 (.t 4)) .unit,
  .p (.fadr 29 (.t 1) 2) .unit,
  .p (.load 30 (.t 29) 1 false) .unit,
  .p (.mv 31 (.t 5)) .unit,
  .p (.iadr 32 1 (.t 30) (.t 31)) .unit,
  .p (.load 33 (.t 32) 1 false) .unit,
  .p (.callB 34 n_spec_l05Short [((.t 33), 0)]) .unit,
  .p (.bin 35 false .add (.t 28) (.t 34)) .unit,
  .p (.mv 4 (.t 35)) .unit]))
 (.reg none [.p (.mv 26 (.t 5)) .unit,
  .p (.bin 27 false .add (.t 26) (.c (.int .i64 1))) .unit,
  .p (.mv 5 (.t 27)) .unit])))
noncomputable def L_spec_WordText_1 : Nat → (Int × List UInt8 × List (List UInt8) × List UInt8) × (List UInt8) × Int → Option (((Int × List UInt8 × List (List UInt8) × List UInt8) × List UInt8) ⊕ ((List UInt8) × Bool)) := evL [fn_spec_WordOk, fn_spec_l05Byte, fn_spec_l05Short, fn_spec_l01Var] (finT [.t 2, .t 3] [] [.cell .str, .cell .bool]) 0 ⟨[(1, false), (4, false), (5, false)], [.box (.pair (.int .i64) (.pair .str (.pair (.sl false .str) .str))), .cell .str, .cell (.int .i64)]⟩ ⟨[(1, false), (4, false)], [.box (.pair (.int .i64) (.pair .str (.pair (.sl false .str) .str))), .cell .str]⟩ B_spec_WordText_1
def F_spec_WordText : TF := ⟨(.seq (.reg none [.p (.box 1 (.t 0)) .unit,
  .p (.mv 2 (.c (.string (ba [])))) .unit,
  .p (.mv 3 (.c (.bool false))) .unit])
 (.seq (.seq (.reg none [.p (.load 6 (.t 1) 4 true) .unit,
  .p (.callB 7 n_spec_WordOk [((.t 6), 0)]) .unit,
  .p (.un 8 .not (.t 7)) .unit])
 (.cond (.t 8) (.seq (.reg none [.p (.mv 2 (.c (.string (ba [])))) .unit,
  .p (.mv 3 (.c (.bool false))) .unit])
 .ret) .skip))
 (.seq (.reg (some [[], [0], [1], [], [3], [4, 2], [2, 5], [], [7], [8], [9, 5], [6, 10], [11, 10, 0, 1, 2, 3, 4, 5, 6, 7, 8, 9, 10, 11]]) [.p (.fadr 9 (.t 1) 0) .unit,
  .p (.load 10 (.t 9) 1 false) .unit,
  .p (.callB 11 n_spec_l05Byte [((.t 10), 0)]) .unit,
  .p (.fadr 12 (.t 1) 1) .unit,
  .p (.load 13 (.t 12) 1 false) .unit,
  .p (.callB 14 n_spec_l05Short [((.t 13), 0)]) .unit,
  .p (.bin 15 false .add (.t 11) (.t 14)) .unit,
  .p (.fadr 16 (.t 1) 2) .unit,
  .p (.load 17 (.t 16) 1 false) .unit,
  .p (.lenB 18 (.t 17)) .unit,
  .p (.callB 19 n_spec_l01Var [((.t 18), 0)]) .unit,
  .p (.bin 20 false .add (.t 15) (.t 19)) .unit,
  .p (.mv 4 (.t 20)) .unit])
 (.seq (.seq (.reg none [.p (.mv 5 (.c (.int .i64 0))) .unit])
 (.jl 0 ⟨[(1, false), (4, false), (5, false)], [.box (.pair (.int .i64) (.pair .str (.pair (.sl false .str) .str))), .cell .str, .cell (.int .i64)]⟩ ⟨[(1, false), (4, false)], [.box (.pair (.int .i64) (.pair .str (.pair (.sl false .str) .str))), .cell .str]⟩ B_spec_WordText_1))
 (.seq (.reg none [.p (.mv 36 (.t 4)) .unit,
  .p (.fadr 37 (.t 1) 3) .unit,
  .p (.load 38 (.t 37) 1 false) .unit,
  .p (.callB 39 n_spec_l05Short [((.t 38), 0)]) .unit,
  .p (.bin 40 false .add (.t 36) (.t 39)) .unit,
  .p (.mv 2 (.t 40)) .unit,
  .p (.mv 3 (.c (.bool true))) .unit])
 .ret))))),
 41, 1, [.t 2, .t 3]⟩
theorem m_spec_WordText : mH Tryd.prog 43 [] = some (F_spec_WordText.code.x, F_spec_WordText.N, F_spec_WordText.np, F_spec_WordText.res) := by kernel_rfl
noncomputable def T_spec_WordText : Int × List UInt8 × List (List UInt8) × List UInt8 → Option ((List UInt8) × Bool) := evF [fn_spec_WordOk, fn_spec_l05Byte, fn_spec_l05Short, fn_spec_l01Var] F_spec_WordText [.agg (.pair (.int .i64) (.pair .str (.pair (.sl false .str) .str)))] [] [.cell .str, .cell .bool] []
noncomputable def fn_spec_WordText : TFn := ⟨43, [.agg (.pair (.int .i64) (.pair .str (.pair (.sl false .str) .str)))], [], [.cell .str, .cell .bool], [], T_spec_WordText⟩
theorem ok_spec_WordText : FnOk Tryd.prog fn_spec_WordText := evF_ok mixed (allOk_cons ok_spec_WordOk (allOk_cons ok_spec_l05Byte (allOk_cons ok_spec_l05Short (allOk_cons ok_spec_l01Var allOk_nil)))) m_spec_WordText (by decide)
def B_spec_ReadWord_1 : TC := (.seq (.seq (.join ⟨[(0, true), (2, false), (4, false), (5, false), (6, false), (7, false), (34, false)], [.cell .str, .box (.pair (.int .i64) (.pair .str (.pair (.sl true .str) .str))), .box (.pair .str (.pair (.int .i64) .bool)), .box (.pair (.int .i64) (.pair .str (.pair (.sl true .str) .str))), .cell (.int .i64), .cell (.int .i64), .cell .bool]⟩ (.reg none [.p (.mv 21 (.t 7)) .unit,
  .p (.mv 22 (.t 6)) .unit,
  .p (.bin 23 false .lss (.t 21) (.t 22)) .unit,
  .p (.mv 24 (.t 23)) .unit,
  .g 24 true (some 25) (.mv 25 (.t 7)) .unit,
  .g 24 true (some 26) (.bin 26 false .lss (.t 25) (.c (.int .i64 20))) .unit,
  .p (.pick 27 (.t 24) (.t 26) (.c (.bool false))) .unit,
  .p (.mv 28 (.t 27)) .unit,
  .g 28 true (some 29) (.mvA 29 4) .unit,
  .g 28 true (some 30) (.nilck 30 (.t 29)) .unit,
  .g 28 true (some 31) (.fadr 31 (.t 30) 2) .unit,
  .g 28 true (some 32) (.load 32 (.t 31) 1 false) .unit,
  .g 28 true (some 33) (.un 33 .not (.t 32)) .unit,
  .p (.pick 34 (.t 28) (.t 33) (.c (.bool false))) .unit]))
 (.cond (.t 34) .skip (.exit 0)))
 (.seq (.block 1 (.reg (some [[], [0], [], [2], [3], [1, 4, 3], [0, 1, 2, 3, 4, 5], [6, 5, 5, 0, 1, 2, 3, 4, 5]]) [.p (.fadr 37 (.t 5) 2) .unit,
  .p (.load 38 (.t 37) 1 false) .unit,
  .p (.mvA 39 4) .unit,
  .p (.callM 40 n_spec_l05ReadShort [] (.ptr (.t 39) 4) []) .unit,
  .p (.bldS 41 1 [(.lit (.string (ba [])))] [⟨0, 1, (.t 40)⟩]) .str,
  .p (.appC 42 1 16 38 (.t 41) false) .str,
  .p (.fadr 43 (.t 5) 2) .unit,
  .p (.storeT (.t 43) 42 1) .unit]))
 (.reg none [.p (.mv 35 (.t 7)) .unit,
  .p (.bin 36 false .add (.t 35) (.c (.int .i64 1))) .unit,
  .p (.mv 7 (.t 36)) .unit])))
noncomputable def L_spec_ReadWord_1 : Nat → (List UInt8) × (Int × List UInt8 × List (List UInt8) × List UInt8) × (List UInt8 × Int × Bool) × (Int × List UInt8 × List (List UInt8) × List UInt8) × (Int) × Int → Option (((List UInt8) × (Int × List UInt8 × List (List UInt8) × List UInt8) × (List UInt8 × Int × Bool) × Int × List UInt8 × List (List UInt8) × List UInt8) ⊕ ((Int × List UInt8 × List (List UInt8) × List UInt8) × Bool)) := evL [fn_spec_l05One, fn_spec_l05ReadShort, fn_spec_l05Var, fn_spec_WordText] (finT [.c 2 4 true, .t 3] [] [.agg (.pair (.int .i64) (.pair .str (.pair (.sl true .str) .str))), .cell .bool]) 0 ⟨[(0, true), (2, false), (4, false), (5, false), (6, false), (7, false)], [.cell .str, .box (.pair (.int .i64) (.pair .str (.pair (.sl true .str) .str))), .box (.pair .str (.pair (.int .i64) .bool)), .box (.pair (.int .i64) (.pair .str (.pair (.sl true .str) .str))), .cell (.int .i64), .cell (.int .i64)]⟩ ⟨[(0, true), (2, false), (4, false), (5, false)], [.cell .str, .box (.pair (.int .i64) (.pair .str (.pair (.sl true .str) .str))), .box (.pair .str (.pair (.int .i64) .bool)), .box (.pair (.int .i64) (.pair .str (.pair (.sl true .str) .str)))]⟩ B_spec_ReadWord_1
def F_spec_ReadWord : TF := ⟨(.seq (.reg none [.p (.alloc 2 [(.lit (.int .i64 0)), (.lit (.string (ba []))), (.sl true 1 []), (.lit (.string (ba [])))]) .unit,
  .p (.mv 3 (.c (.bool false))) .unit])
 (.seq (.reg none [.p (.mv 10 (.t 0)) .unit,
  .p (.bld 11 [(.lit (.string (ba []))), (.lit (.int .i64 0)), (.lit (.bool false))] [⟨0, 1, (.t 10)⟩]) .unit,
  .p (.box 12 (.t 11)) .unit,
  .p (.mvT 4 12) .unit])
 (.seq (.reg none [.p (.mvA 13 4) .unit,
  .p (.callM 14 n_spec_l05One [] (.ptr (.t 13) 4) []) .unit,
  .p (.bld 15 [(.lit (.int .i64 0)), (.lit (.string (ba []))), (.sl true 1 []), (.lit (.string (ba [])))] [⟨0, 1, (.t 14)⟩]) .unit,
  .p (.alloc 5 [(.lit (.int .i64 0)), (.lit (.string (ba []))), (.sl true 1 []), (.lit (.string (ba [])))]) .unit,
  .p (.storeT (.t 5) 15 4) .unit])
 (.seq (.reg none [.p (.mvA 16 4) .unit,
  .p (.callM 17 n_spec_l05ReadShort [] (.ptr (.t 16) 4) []) .unit,
  .p (.fadr 18 (.t 5) 1) .unit,
  .p (.store (.t 18) (.t 17) 1) .unit])
 (.seq (.reg none [.p (.mvA 19 4) .unit,
  .p (.callM 20 n_spec_l05Var [] (.ptr (.t 19) 4) []) .unit,
  .p (.mv 6 (.t 20)) .unit])
 (.seq (.seq (.reg none [.p (.mv 7 (.c (.int .i64 0))) .unit])
 (.jl 0 ⟨[(0, true), (2, false), (4, false), (5, false), (6, false), (7, false)], [.cell .str, .box (.pair (.int .i64) (.pair .str (.pair (.sl true .str) .str))), .box (.pair .str (.pair (.int .i64) .bool)), .box (.pair (.int .i64) (.pair .str (.pair (.sl true .str) .str))), .cell (.int .i64), .cell (.int .i64)]⟩ ⟨[(0, true), (2, false), (4, false), (5, false)], [.cell .str, .box (.pair (.int .i64) (.pair .str (.pair (.sl true .str) .str))), .box (.pair .str (.pair (.int .i64) .bool)), .box (.pair (.int .i64) (.pair .str (.pair (.sl true .str) .str)))]⟩ B_spec_ReadWord_1))
 (.seq (.reg none [.p (.mvA 44 4) .unit,
  .p (.callM 45 n_spec_l05ReadShort [] (.ptr (.t 44) 4) []) .unit,
  .p (.fadr 46 (.t 5) 3) .unit,
  .p (.store (.t 46) (.t 45) 1) .unit])
 (.seq (.reg none [.p (.load 48 (.t 5) 4 true) .unit,
  .p (.callB 49 n_spec_WordText [((.t 48), 0)]) .unit,
  .p (.mv 47 (.t 49)) .unit,
  .p (.ext 50 (.t 47) 0) .unit,
  .p (.ext 51 (.t 47) 1) .unit,
  .p (.mv 8 (.t 50)) .unit,
  .p (.mv 9 (.t 51)) .unit])
 (.seq (.seq (.join ⟨[(2, false), (5, false), (64, false)], [.box (.pair (.int .i64) (.pair .str (.pair (.sl true .str) .str))), .box (.pair (.int .i64) (.pair .str (.pair (.sl true .str) .str))), .cell .bool]⟩ (.reg none [.p (.mvT 52 4) .unit,
  .p (.nilck 53 (.t 52)) .unit,
  .p (.fadr 54 (.t 53) 2) .unit,
  .p (.load 55 (.t 54) 1 false) .unit,
  .p (.mv 56 (.t 55)) .unit,
  .g 56 false (some 57) (.mv 57 (.t 9)) .unit,
  .g 56 false (some 58) (.un 58 .not (.t 57)) .unit,
  .p (.pick 59 (.t 56) (.c (.bool true)) (.t 58)) .unit,
  .p (.mv 60 (.t 59)) .unit,
  .g 60 false (some 61) (.mv 61 (.t 8)) .unit,
  .g 60 false (some 62) (.mv 62 (.t 0)) .unit,
  .g 60 false (some 63) (.bin 63 false .neq (.t 61) (.t 62)) .unit,
  .p (.pick 64 (.t 60) (.c (.bool true)) (.t 63)) .unit]))
 (.cond (.t 64) (.seq (.reg none [.p (.bld 65 [(.lit (.int .i64 0)), (.lit (.string (ba []))), (.sl true 1 []), (.lit (.string (ba [])))] []) .unit,
  .p (.storeT (.t 2) 65 4) .unit,
  .p (.mv 3 (.c (.bool false))) .unit])
 .ret) .skip))
 (.seq (.reg none [.p (.loadT 66 (.t 5) 4 true) .unit,
  .p (.storeT (.t 2) 66 4) .unit,
  .p (.mv 3 (.c (.bool true))) .unit])
 .ret)))))))))),
 67, 1, [.c 2 4 true, .t 3]⟩
theorem m_spec_ReadWord : mH Tryd.prog 8 [(1, 3, .t), (2, 0, .v), (2, 1, (.p 0 4)), (2, 4, .t), (3, 0, .v), (3, 1, (.p 0 4)), (4, 0, .v), (4, 1, (.p 0 4)), (6, 8, .v), (8, 2, .v), (8, 3, (.p 0 4)), (8, 5, .z), (8, 7, .t), (9, 0, .v), (9, 1, (.p 0 4)), (11, 0, .t), (12, 1, .t), (13, 0, .t), (13, 1, .t)] = some (F_spec_ReadWord.code.x, F_spec_ReadWord.N, F_spec_ReadWord.np, F_spec_ReadWord.res) := by kernel_rfl
noncomputable def T_spec_ReadWord : List UInt8 → Option ((Int × List UInt8 × List (List UInt8) × List UInt8) × Bool) := evF [fn_spec_l05One, fn_spec_l05ReadShort, fn_spec_l05Var, fn_spec_WordText] F_spec_ReadWord [.cell .str] [] [.agg (.pair (.int .i64) (.pair .str (.pair (.sl true .str) .str))), .cell .bool] []
noncomputable def fn_spec_ReadWord : TFn := ⟨8, [.cell .str], [], [.agg (.pair (.int .i64) (.pair .str (.pair (.sl true .str) .str))), .cell .bool], [], T_spec_ReadWord⟩
theorem ok_spec_ReadWord : FnOk Tryd.prog fn_spec_ReadWord := evF_ok mixed (allOk_cons ok_spec_l05One (allOk_cons ok_spec_l05ReadShort (allOk_cons ok_spec_l05Var (allOk_cons ok_spec_WordText allOk_nil)))) m_spec_ReadWord (by decide)
def F___impl_scanner__take : TF := ⟨(.seq (.reg none [.p (.mv 4 (.c (.string (ba [])))) .unit])
 (.seq (.seq (.join ⟨[(0, true), (1, true), (22, false)], [.box (.pair .str (.pair (.int .i64) .bool)), .cell (.int .i64), .cell .bool]⟩ (.reg (some [[], [0], [1], [2], [3], [4], [4], [6, 4], [7, 4], [8, 4], [9, 4], [4], [11, 4], [12, 4], [13, 4], [10, 14, 4], [5, 15, 4], [4, 16]]) [.p (.mvA 5 0) .unit,
  .p (.nilck 6 (.t 5)) .unit,
  .p (.fadr 7 (.t 6) 2) .unit,
  .p (.load 8 (.t 7) 1 false) .unit,
  .p (.mv 9 (.t 8)) .unit,
  .g 9 false (some 10) (.mv 10 (.t 1)) .unit,
  .g 9 false (some 11) (.mvA 11 0) .unit,
  .g 9 false (some 12) (.nilck 12 (.t 11)) .unit,
  .g 9 false (some 13) (.fadr 13 (.t 12) 0) .unit,
  .g 9 false (some 14) (.load 14 (.t 13) 1 false) .unit,
  .g 9 false (some 15) (.lenS 15 (.t 14)) .unit,
  .g 9 false (some 16) (.mvA 16 0) .unit,
  .g 9 false (some 17) (.nilck 17 (.t 16)) .unit,
  .g 9 false (some 18) (.fadr 18 (.t 17) 1) .unit,
  .g 9 false (some 19) (.load 19 (.t 18) 1 false) .unit,
  .g 9 false (some 20) (.bin 20 false .sub (.t 15) (.t 19)) .unit,
  .g 9 false (some 21) (.bin 21 false .gtr (.t 10) (.t 20)) .unit,
  .p (.pick 22 (.t 9) (.c (.bool true)) (.t 21)) .unit]))
 (.cond (.t 22) (.seq (.reg none [.p (.mvA 23 0) .unit,
  .p (.nilck 24 (.t 23)) .unit,
  .p (.fadr 25 (.t 24) 2) .unit,
  .p (.store (.t 25) (.c (.bool true)) 1) .unit])
 (.seq (.reg none [.p (.mv 4 (.c (.string (ba [])))) .unit])
 .ret)) .skip))
 (.seq (.reg none [.p (.mvA 26 0) .unit,
  .p (.nilck 27 (.t 26)) .unit,
  .p (.fadr 28 (.t 27) 1) .unit,
  .p (.load 29 (.t 28) 1 false) .unit,
  .p (.mv 30 (.t 1)) .unit,
  .p (.bin 31 false .add (.t 29) (.t 30)) .unit,
  .p (.nilck 32 (.t 26)) .unit,
  .p (.fadr 33 (.t 32) 1) .unit,
  .p (.store (.t 33) (.t 31) 1) .unit])
 (.seq (.reg (some [[], [0], [1], [2], [], [4], [5], [6], [], [7, 8], [], [10], [11], [12], [3, 9, 13], [14, 0, 1, 2, 3, 4, 5, 6, 7, 8, 9, 10, 11, 12, 13, 14]]) [.p (.mvA 34 0) .unit,
  .p (.nilck 35 (.t 34)) .unit,
  .p (.fadr 36 (.t 35) 0) .unit,
  .p (.load 37 (.t 36) 1 false) .unit,
  .p (.mvA 38 0) .unit,
  .p (.nilck 39 (.t 38)) .unit,
  .p (.fadr 40 (.t 39) 1) .unit,
  .p (.load 41 (.t 40) 1 false) .unit,
  .p (.mv 42 (.t 1)) .unit,
  .p (.bin 43 false .sub (.t 41) (.t 42)) .unit,
  .p (.mvA 44 0) .unit,
  .p (.nilck 45 (.t 44)) .unit,
  .p (.fadr 46 (.t 45) 1) .unit,
  .p (.load 47 (.t 46) 1 false) .unit,
  .p (.slcS 48 (.t 37) (some (.t 43)) (some (.t 47))) .unit,
  .p (.mv 4 (.t 48)) .unit])
 .ret)))),
 49, 2, [.t 4]⟩
theorem m___impl_scanner__take : mH Tryd.prog 101 [(1, 0, .v), (1, 6, .v), (1, 11, .v), (2, 0, .v), (4, 0, .v), (5, 0, .v), (5, 4, .v), (5, 10, .v)] = some (F___impl_scanner__take.code.x, F___impl_scanner__take.N, F___impl_scanner__take.np, F___impl_scanner__take.res) := by kernel_rfl
noncomputable def T___impl_scanner__take : (List UInt8 × Int × Bool) × Int → Option ((List UInt8) × List UInt8 × Int × Bool) := evF [] F___impl_scanner__take [.box (.pair .str (.pair (.int .i64) .bool)), .cell (.int .i64)] [0] [.cell .str] [.box (.pair .str (.pair (.int .i64) .bool))]
noncomputable def fn___impl_scanner__take : TFn := ⟨101, [.box (.pair .str (.pair (.int .i64) .bool)), .cell (.int .i64)], [0], [.cell .str], [.box (.pair .str (.pair (.int .i64) .bool))], T___impl_scanner__take⟩
theorem ok___impl_scanner__take : FnOk Tryd.prog fn___impl_scanner__take := evF_ok mixed allOk_nil m___impl_scanner__take (by decide)
def F___impl_scanner__octet : TF := ⟨(.seq (.reg none [.p (.mv 2 (.c (.int .i64 0))) .unit])
 (.seq (.reg none [.p (.mvA 4 0) .unit,
  .p (.callM 5 n___impl_scanner__take [] (.ptr (.t 4) 0) [((.c (.int .i64 1)), 0)]) .unit,
  .p (.mv 3 (.t 5)) .unit])
 (.seq (.seq (.reg none [.p (.mv 6 (.t 3)) .unit,
  .p (.bin 7 false .eql (.t 6) (.c (.string (ba [])))) .unit])
 (.cond (.t 7) (.seq (.reg none [.p (.mv 2 (.c (.int .i64 0))) .unit])
 .ret) .skip))
 (.seq (.reg none [.p (.mv 8 (.t 3)) .unit,
  .p (.idx 9 (.t 8) (.c (.int .i64 0))) .unit,
  .p (.cvi 10 .i64 .u8 (.t 9)) .unit,
  .p (.mv 2 (.t 10)) .unit])
 .ret)))),
 11, 1, [.t 2]⟩
theorem m___impl_scanner__octet : mH Tryd.prog 44 [(1, 0, .v), (1, 1, (.p 0 0))] = some (F___impl_scanner__octet.code.x, F___impl_scanner__octet.N, F___impl_scanner__octet.np, F___impl_scanner__octet.res) := by kernel_rfl
noncomputable def T___impl_scanner__octet : List UInt8 × Int × Bool → Option ((Int) × List UInt8 × Int × Bool) := evF [fn___impl_scanner__take] F___impl_scanner__octet [.box (.pair .str (.pair (.int .i64) .bool))] [0] [.cell (.int .i64)] [.box (.pair .str (.pair (.int .i64) .bool))]
noncomputable def fn___impl_scanner__octet : TFn := ⟨44, [.box (.pair .str (.pair (.int .i64) .bool))], [0], [.cell (.int .i64)], [.box (.pair .str (.pair (.int .i64) .bool))], T___impl_scanner__octet⟩
theorem ok___impl_scanner__octet : FnOk Tryd.prog fn___impl_scanner__octet := evF_ok mixed (allOk_cons ok___impl_scanner__take allOk_nil) m___impl_scanner__octet (by decide)
def B_impl_ReadVar_1 : TC := (.seq (.seq (.join ⟨[(0, true), (1, true), (7, false), (8, false), (9, false), (28, false)], [.cell .str, .cell (.int .i64), .cell (.int .i64), .cell (.int .i64), .cell (.int .i64), .cell .bool]⟩ (.reg none [.p (.mv 19 (.t 9)) .unit,
  .p (.bin 20 false .lss (.t 19) (.c (.int .i64 5))) .unit,
  .p (.mv 21 (.t 20)) .unit,
  .g 21 true (some 22) (.mv 22 (.t 1)) .unit,
  .g 21 true (some 23) (.mv 23 (.t 9)) .unit,
  .g 21 true (some 24) (.bin 24 false .add (.t 22) (.t 23)) .unit,
  .g 21 true (some 25) (.mv 25 (.t 0)) .unit,
  .g 21 true (some 26) (.lenS 26 (.t 25)) .unit,
  .g 21 true (some 27) (.bin 27 false .lss (.t 24) (.t 26)) .unit,
  .p (.pick 28 (.t 21) (.t 27) (.c (.bool false))) .unit]))
 (.cond (.t 28) .skip (.exit 0)))
 (.seq (.block 1 (.seq (.reg none [.p (.mv 31 (.t 0)) .unit,
  .p (.mv 32 (.t 1)) .unit,
  .p (.mv 33 (.t 9)) .unit,
  .p (.bin 34 false .add (.t 32) (.t 33)) .unit,
  .p (.idx 35 (.t 31) (.t 34)) .unit,
  .p (.cvi 36 .i64 .u8 (.t 35)) .unit,
  .p (.mv 10 (.t 36)) .unit])
 (.seq (.reg none [.p (.mv 37 (.t 7)) .unit,
  .p (.mv 38 (.t 10)) .unit,
  .p (.bin 39 false .rem (.t 38) (.c (.int .i64 128))) .unit,
  .p (.mv 40 (.t 8)) .unit,
  .p (.bin 41 false .mul (.t 39) (.t 40)) .unit,
  .p (.bin 42 false .add (.t 37) (.t 41)) .unit,
  .p (.mv 7 (.t 42)) .unit])
 (.seq (.reg none [.p (.mv 43 (.t 8)) .unit,
  .p (.bin 44 false .mul (.t 43) (.c (.int .i64 128))) .unit,
  .p (.mv 8 (.t 44)) .unit])
 (.seq (.seq (.reg none [.p (.mv 45 (.t 10)) .unit,
  .p (.bin 46 false .geq (.t 45) (.c (.int .i64 128))) .unit])
 (.cond (.t 46) (.exit 1) .skip))
 (.seq (.seq (.join ⟨[(1, true), (7, false), (9, false), (56, false)], [.cell (.int .i64), .cell (.int .i64), .cell (.int .i64), .cell .bool]⟩ (.reg none [.p (.mv 47 (.t 10)) .unit,
  .p (.bin 48 false .eql (.t 47) (.c (.int .i64 0))) .unit,
  .p (.mv 49 (.t 48)) .unit,
  .g 49 true (some 50) (.mv 50 (.t 9)) .unit,
  .g 49 true (some 51) (.bin 51 false .gtr (.t 50) (.c (.int .i64 0))) .unit,
  .p (.pick 52 (.t 49) (.t 51) (.c (.bool false))) .unit,
  .p (.mv 53 (.t 52)) .unit,
  .g 53 false (some 54) (.mv 54 (.t 7)) .unit,
  .g 53 false (some 55) (.bin 55 false .gtr (.t 54) (.c (.int .i64 1000000000))) .unit,
  .p (.pick 56 (.t 53) (.c (.bool true)) (.t 55)) .unit]))
 (.cond (.t 56) (.seq (.reg none [.p (.mv 4 (.c (.int .i64 0))) .unit,
  .p (.mv 5 (.c (.int .i64 0))) .unit,
  .p (.mv 6 (.c (.bool false))) .unit])
 .ret) .skip))
 (.seq (.reg none [.p (.mv 57 (.t 7)) .unit,
  .p (.mv 58 (.t 1)) .unit,
  .p (.mv 59 (.t 9)) .unit,
  .p (.bin 60 false .add (.t 58) (.t 59)) .unit,
  .p (.bin 61 false .add (.t 60) (.c (.int .i64 1))) .unit,
  .p (.mv 4 (.t 57)) .unit,
  .p (.mv 5 (.t 61)) .unit,
  .p (.mv 6 (.c (.bool true))) .unit])
 .ret)))))))
 (.reg none [.p (.mv 29 (.t 9)) .unit,
  .p (.bin 30 false .add (.t 29) (.c (.int .i64 1))) .unit,
  .p (.mv 9 (.t 30)) .unit])))
noncomputable def L_impl_ReadVar_1 : Nat → (List UInt8) × (Int) × (Int) × (Int) × Int → Option ((Unit) ⊕ ((Int) × (Int) × Bool)) := evL [] (finT [.t 4, .t 5, .t 6] [] [.cell (.int .i64), .cell (.int .i64), .cell .bool]) 0 ⟨[(0, true), (1, true), (7, false), (8, false), (9, false)], [.cell .str, .cell (.int .i64), .cell (.int .i64), .cell (.int .i64), .cell (.int .i64)]⟩ ⟨[], []⟩ B_impl_ReadVar_1
def F_impl_ReadVar : TF := ⟨(.seq (.reg none [.p (.mv 4 (.c (.int .i64 0))) .unit,
  .p (.mv 5 (.c (.int .i64 0))) .unit,
  .p (.mv 6 (.c (.bool false))) .unit])
 (.seq (.seq (.join ⟨[(0, true), (1, true), (18, false)], [.cell .str, .cell (.int .i64), .cell .bool]⟩ (.reg none [.p (.mv 11 (.t 1)) .unit,
  .p (.bin 12 false .lss (.t 11) (.c (.int .i64 0))) .unit,
  .p (.mv 13 (.t 12)) .unit,
  .g 13 false (some 14) (.mv 14 (.t 1)) .unit,
  .g 13 false (some 15) (.mv 15 (.t 0)) .unit,
  .g 13 false (some 16) (.lenS 16 (.t 15)) .unit,
  .g 13 false (some 17) (.bin 17 false .gtr (.t 14) (.t 16)) .unit,
  .p (.pick 18 (.t 13) (.c (.bool true)) (.t 17)) .unit]))
 (.cond (.t 18) (.seq (.reg none [.p (.mv 4 (.c (.int .i64 0))) .unit,
  .p (.mv 5 (.c (.int .i64 0))) .unit,
  .p (.mv 6 (.c (.bool false))) .unit])
 .ret) .skip))
 (.seq (.reg none [.p (.mv 7 (.c (.int .i64 0))) .unit,
  .p (.mv 8 (.c (.int .i64 1))) .unit])
 (.seq (.seq (.reg none [.p (.mv 9 (.c (.int .i64 0))) .unit])
 (.jl 0 ⟨[(0, true), (1, true), (7, false), (8, false), (9, false)], [.cell .str, .cell (.int .i64), .cell (.int .i64), .cell (.int .i64), .cell (.int .i64)]⟩ ⟨[], []⟩ B_impl_ReadVar_1))
 (.seq (.reg none [.p (.mv 4 (.c (.int .i64 0))) .unit,
  .p (.mv 5 (.c (.int .i64 0))) .unit,
  .p (.mv 6 (.c (.bool false))) .unit])
 .ret))))),
 62, 2, [.t 4, .t 5, .t 6]⟩
theorem m_impl_ReadVar : mH Tryd.prog 134 [] = some (F_impl_ReadVar.code.x, F_impl_ReadVar.N, F_impl_ReadVar.np, F_impl_ReadVar.res) := by kernel_rfl
noncomputable def T_impl_ReadVar : (List UInt8) × Int → Option ((Int) × (Int) × Bool) := evF [] F_impl_ReadVar [.cell .str, .cell (.int .i64)] [] [.cell (.int .i64), .cell (.int .i64), .cell .bool] []
noncomputable def fn_impl_ReadVar : TFn := ⟨134, [.cell .str, .cell (.int .i64)], [], [.cell (.int .i64), .cell (.int .i64), .cell .bool], [], T_impl_ReadVar⟩
theorem ok_impl_ReadVar : FnOk Tryd.prog fn_impl_ReadVar := evF_ok mixed allOk_nil m_impl_ReadVar (by decide)
def F___impl_scanner__number : TF := ⟨(.seq (.reg none [.p (.mv 2 (.c (.int .i64 0))) .unit])
 (.seq (.reg (some [[], [0], [1], [2], [], [4], [5], [6], [3, 7], [8], [9], [9], [9], [10, 8, 0, 1, 2, 3, 4, 5, 6, 7, 8, 9, 10], [11, 13, 0, 1, 2, 3, 4, 5, 6, 7, 8, 9, 10, 11, 13], [12, 14, 0, 1, 2, 3, 4, 5, 6, 7, 8, 9, 10, 11, 12, 13, 14]]) [.p (.mvA 7 0) .unit,
  .p (.nilck 8 (.t 7)) .unit,
  .p (.fadr 9 (.t 8) 0) .unit,
  .p (.load 10 (.t 9) 1 false) .unit,
  .p (.mvA 11 0) .unit,
  .p (.nilck 12 (.t 11)) .unit,
  .p (.fadr 13 (.t 12) 1) .unit,
  .p (.load 14 (.t 13) 1 false) .unit,
  .p (.callB 15 n_impl_ReadVar [((.t 10), 0), ((.t 14), 0)]) .unit,
  .p (.mv 6 (.t 15)) .unit,
  .p (.ext 16 (.t 6) 0) .unit,
  .p (.ext 17 (.t 6) 1) .unit,
  .p (.ext 18 (.t 6) 2) .unit,
  .p (.mv 3 (.t 16)) .unit,
  .p (.mv 4 (.t 17)) .unit,
  .p (.mv 5 (.t 18)) .unit])
 (.seq (.seq (.join ⟨[(0, true), (3, false), (4, false), (26, false)], [.box (.pair .str (.pair (.int .i64) .bool)), .cell (.int .i64), .cell (.int .i64), .cell .bool]⟩ (.reg none [.p (.mvA 19 0) .unit,
  .p (.nilck 20 (.t 19)) .unit,
  .p (.fadr 21 (.t 20) 2) .unit,
  .p (.load 22 (.t 21) 1 false) .unit,
  .p (.mv 23 (.t 22)) .unit,
  .g 23 false (some 24) (.mv 24 (.t 5)) .unit,
  .g 23 false (some 25) (.un 25 .not (.t 24)) .unit,
  .p (.pick 26 (.t 23) (.c (.bool true)) (.t 25)) .unit]))
 (.cond (.t 26) (.seq (.reg none [.p (.mvA 27 0) .unit,
  .p (.nilck 28 (.t 27)) .unit,
  .p (.fadr 29 (.t 28) 2) .unit,
  .p (.store (.t 29) (.c (.bool true)) 1) .unit])
 (.seq (.reg none [.p (.mv 2 (.c (.int .i64 0))) .unit])
 .ret)) .skip))
 (.seq (.reg none [.p (.mvA 30 0) .unit,
  .p (.mv 31 (.t 4)) .unit,
  .p (.nilck 32 (.t 30)) .unit,
  .p (.fadr 33 (.t 32) 1) .unit,
  .p (.store (.t 33) (.t 31) 1) .unit])
 (.seq (.reg none [.p (.mv 34 (.t 3)) .unit,
  .p (.mv 2 (.t 34)) .unit])
 .ret))))),
 35, 1, [.t 2]⟩
theorem m___impl_scanner__number : mH Tryd.prog 102 [(1, 0, .v), (1, 4, .v), (2, 0, .v), (3, 0, .v), (5, 0, .v)] = some (F___impl_scanner__number.code.x, F___impl_scanner__number.N, F___impl_scanner__number.np, F___impl_scanner__number.res) := by kernel_rfl
noncomputable def T___impl_scanner__number : List UInt8 × Int × Bool → Option ((Int) × List UInt8 × Int × Bool) := evF [fn_impl_ReadVar] F___impl_scanner__number [.box (.pair .str (.pair (.int .i64) .bool))] [0] [.cell (.int .i64)] [.box (.pair .str (.pair (.int .i64) .bool))]
noncomputable def fn___impl_scanner__number : TFn := ⟨102, [.box (.pair .str (.pair (.int .i64) .bool))], [0], [.cell (.int .i64)], [.box (.pair .str (.pair (.int .i64) .bool))], T___impl_scanner__number⟩
theorem ok___impl_scanner__number : FnOk Tryd.prog fn___impl_scanner__number := evF_ok mixed (allOk_cons ok_impl_ReadVar allOk_nil) m___impl_scanner__number (by decide)
def F___impl_scanner__short : TF := ⟨(.seq (.reg none [.p (.mv 2 (.c (.string (ba [])))) .unit])
 (.seq (.reg none [.p (.mvA 4 0) .unit,
  .p (.callM 5 n___impl_scanner__number [] (.ptr (.t 4) 0) []) .unit,
  .p (.mv 3 (.t 5)) .unit])
 (.seq (.join ⟨[(0, true), (3, false)], [.box (.pair .str (.pair (.int .i64) .bool)), .cell (.int .i64)]⟩ (.seq (.reg none [.p (.mv 6 (.t 3)) .unit,
  .p (.bin 7 false .gtr (.t 6) (.c (.int .i64 20000))) .unit])
 (.cond (.t 7) (.reg none [.p (.mvA 8 0) .unit,
  .p (.nilck 9 (.t 8)) .unit,
  .p (.fadr 10 (.t 9) 2) .unit,
  .p (.store (.t 10) (.c (.bool true)) 1) .unit]) .skip)))
 (.seq (.reg none [.p (.mvA 11 0) .unit,
  .p (.mv 12 (.t 3)) .unit,
  .p (.callM 13 n___impl_scanner__take [] (.ptr (.t 11) 0) [((.t 12), 0)]) .unit,
  .p (.mv 2 (.t 13)) .unit])
 .ret)))),
 14, 1, [.t 2]⟩
theorem m___impl_scanner__short : mH Tryd.prog 45 [(1, 0, .v), (1, 1, (.p 0 0)), (3, 0, .v), (4, 0, .v), (4, 2, (.p 0 0))] = some (F___impl_scanner__short.code.x, F___impl_scanner__short.N, F___impl_scanner__short.np, F___impl_scanner__short.res) := by kernel_rfl
noncomputable def T___impl_scanner__short : List UInt8 × Int × Bool → Option ((List UInt8) × List UInt8 × Int × Bool) := evF [fn___impl_scanner__number, fn___impl_scanner__take] F___impl_scanner__short [.box (.pair .str (.pair (.int .i64) .bool))] [0] [.cell .str] [.box (.pair .str (.pair (.int .i64) .bool))]
noncomputable def fn___impl_scanner__short : TFn := ⟨45, [.box (.pair .str (.pair (.int .i64) .bool))], [0], [.cell .str], [.box (.pair .str (.pair (.int .i64) .bool))], T___impl_scanner__short⟩
theorem ok___impl_scanner__short : FnOk Tryd.prog fn___impl_scanner__short := evF_ok mixed (allOk_cons ok___impl_scanner__number (allOk_cons ok___impl_scanner__take allOk_nil)) m___impl_scanner__short (by decide)
def F___impl_scanner__count : TF := ⟨(.seq (.reg none [.p (.mv 4 (.c (.int .i64 0))) .unit])
 (.seq (.reg none [.p (.mvA 6 0) .unit,
  .p (.callM 7 n___impl_scanner__number [] (.ptr (.t 6) 0) []) .unit,
  .p (.mv 5 (.t 7)) .unit])
 (.seq (.seq (.reg none [.p (.mv 8 (.t 5)) .unit,
  .p (.mv 9 (.t 1)) .unit,
  .p (.bin 10 false .gtr (.t 8) (.t 9)) .unit])
 (.cond (.t 10) (.seq (.reg none [.p (.mvA 11 0) .unit,
  .p (.nilck 12 (.t 11)) .unit,
  .p (.fadr 13 (.t 12) 2) .unit,
  .p (.store (.t 13) (.c (.bool true)) 1) .unit])
 (.seq (.reg none [.p (.mv 4 (.c (.int .i64 0))) .unit])
 .ret)) .skip))
 (.seq (.reg none [.p (.mv 14 (.t 5)) .unit,
  .p (.mv 4 (.t 14)) .unit])
 .ret)))),
 15, 2, [.t 4]⟩
theorem m___impl_scanner__count : mH Tryd.prog 103 [(1, 0, .v), (1, 1, (.p 0 0)), (3, 0, .v)] = some (F___impl_scanner__count.code.x, F___impl_scanner__count.N, F___impl_scanner__count.np, F___impl_scanner__count.res) := by kernel_rfl
noncomputable def T___impl_scanner__count : (List UInt8 × Int × Bool) × Int → Option ((Int) × List UInt8 × Int × Bool) := evF [fn___impl_scanner__number] F___impl_scanner__count [.box (.pair .str (.pair (.int .i64) .bool)), .cell (.int .i64)] [0] [.cell (.int .i64)] [.box (.pair .str (.pair (.int .i64) .bool))]
noncomputable def fn___impl_scanner__count : TFn := ⟨103, [.box (.pair .str (.pair (.int .i64) .bool)), .cell (.int .i64)], [0], [.cell (.int .i64)], [.box (.pair .str (.pair (.int .i64) .bool))], T___impl_scanner__count⟩
theorem ok___impl_scanner__count : FnOk Tryd.prog fn___impl_scanner__count := evF_ok mixed (allOk_cons ok___impl_scanner__number allOk_nil) m___impl_scanner__count (by decide)
def B___impl_scanner__names_1 : TC := (.seq (.reg none [.p (.bin 8 false .lss (.t 7) (.t 6)) .unit])
 (.seq (.cond (.t 8) .skip (.exit 0))
 (.seq (.block 1 (.seq (.reg none [.p (.mvA 9 0) .unit,
  .p (.callM 10 n___impl_scanner__short [] (.ptr (.t 9) 0) []) .unit,
  .p (.mv 4 (.t 10)) .unit])
 (.reg none [.p (.mvT 11 3) .unit,
  .p (.mv 12 (.t 4)) .unit,
  .p (.bldS 13 1 [(.lit (.string (ba [])))] [⟨0, 1, (.t 12)⟩]) .str,
  .p (.app 14 1 16 (.t 11) (.t 13)) .str,
  .p (.mvT 3 14) .unit])))
 (.reg none [.p (.bin 15 false .add (.t 7) (.c (.int .i64 1))) .unit,
  .p (.mv 7 (.t 15)) .unit]))))
noncomputable def L___impl_scanner__names_1 : Nat → (List UInt8 × Int × Bool) × (List (List UInt8)) × (Int) × Int → Option (((List UInt8 × Int × Bool) × List (List UInt8)) ⊕ ((List (List UInt8)) × List UInt8 × Int × Bool)) := evL [fn___impl_scanner__count, fn___impl_scanner__short] (finT [.t 2] [0] [.cell (.sl true .str), .box (.pair .str (.pair (.int .i64) .bool))]) 0 ⟨[(0, true), (3, false), (6, false), (7, false)], [.box (.pair .str (.pair (.int .i64) .bool)), .cell (.sl true .str), .cell (.int .i64), .cell (.int .i64)]⟩ ⟨[(0, true), (3, false)], [.box (.pair .str (.pair (.int .i64) .bool)), .cell (.sl true .str)]⟩ B___impl_scanner__names_1
def F___impl_scanner__names : TF := ⟨(.seq (.reg none [.p (.mvN 2 1) .unit])
 (.seq (.reg none [.p (.mvN 3 1) .unit])
 (.seq (.seq (.reg none [.p (.mvA 5 0) .unit,
  .p (.callM 6 n___impl_scanner__count [] (.ptr (.t 5) 0) [((.c (.int .i64 3)), 0)]) .unit,
  .p (.mv 7 (.c (.int .i64 0))) .unit])
 (.jl 0 ⟨[(0, true), (3, false), (6, false), (7, false)], [.box (.pair .str (.pair (.int .i64) .bool)), .cell (.sl true .str), .cell (.int .i64), .cell (.int .i64)]⟩ ⟨[(0, true), (3, false)], [.box (.pair .str (.pair (.int .i64) .bool)), .cell (.sl true .str)]⟩ B___impl_scanner__names_1))
 (.seq (.reg none [.p (.mvT 16 3) .unit,
  .p (.mvT 2 16) .unit])
 .ret)))),
 17, 1, [.t 2]⟩
theorem m___impl_scanner__names : mH Tryd.prog 46 [(2, 0, .v), (2, 1, (.p 0 0)), (4, 0, .v), (4, 1, (.p 0 0)), (5, 0, .t), (5, 4, .t), (7, 0, .t), (7, 1, .t)] = some (F___impl_scanner__names.code.x, F___impl_scanner__names.N, F___impl_scanner__names.np, F___impl_scanner__names.res) := by kernel_rfl
noncomputable def T___impl_scanner__names : List UInt8 × Int × Bool → Option ((List (List UInt8)) × List UInt8 × Int × Bool) := evF [fn___impl_scanner__count, fn___impl_scanner__short] F___impl_scanner__names [.box (.pair .str (.pair (.int .i64) .bool))] [0] [.cell (.sl true .str)] [.box (.pair .str (.pair (.int .i64) .bool))]
noncomputable def fn___impl_scanner__names : TFn := ⟨46, [.box (.pair .str (.pair (.int .i64) .bool))], [0], [.cell (.sl true .str)], [.box (.pair .str (.pair (.int .i64) .bool))], T___impl_scanner__names⟩
theorem ok___impl_scanner__names : FnOk Tryd.prog fn___impl_scanner__names := evF_ok mixed (allOk_cons ok___impl_scanner__count (allOk_cons ok___impl_scanner__short allOk_nil)) m___impl_scanner__names (by decide)
def F___impl_scanner__done : TF := ⟨(.seq (.reg none [.p (.mv 2 (.c (.bool false))) .unit])
 (.seq (.reg (some [[], [0], [1], [2], [3], [4], [5], [6, 5], [7, 5], [8, 5], [5], [10, 5], [11, 5], [12, 5], [13, 5], [9, 14, 5], [5, 15], [16, 5, 0, 1, 2, 3, 4, 5, 6, 7, 8, 9, 10, 11, 12, 13, 14, 15, 16]]) [.p (.mv 3 (.t 0)) .unit,
  .p (.nilck 4 (.t 3)) .unit,
  .p (.fadr 5 (.t 4) 2) .unit,
  .p (.load 6 (.t 5) 1 false) .unit,
  .p (.un 7 .not (.t 6)) .unit,
  .p (.mv 8 (.t 7)) .unit,
  .g 8 true (some 9) (.mv 9 (.t 0)) .unit,
  .g 8 true (some 10) (.nilck 10 (.t 9)) .unit,
  .g 8 true (some 11) (.fadr 11 (.t 10) 1) .unit,
  .g 8 true (some 12) (.load 12 (.t 11) 1 false) .unit,
  .g 8 true (some 13) (.mv 13 (.t 0)) .unit,
  .g 8 true (some 14) (.nilck 14 (.t 13)) .unit,
  .g 8 true (some 15) (.fadr 15 (.t 14) 0) .unit,
  .g 8 true (some 16) (.load 16 (.t 15) 1 false) .unit,
  .g 8 true (some 17) (.lenS 17 (.t 16)) .unit,
  .g 8 true (some 18) (.bin 18 false .eql (.t 12) (.t 17)) .unit,
  .p (.pick 19 (.t 8) (.t 18) (.c (.bool false))) .unit,
  .p (.mv 2 (.t 19)) .unit])
 .ret)),
 20, 1, [.t 2]⟩
theorem m___impl_scanner__done : mH Tryd.prog 47 [] = some (F___impl_scanner__done.code.x, F___impl_scanner__done.N, F___impl_scanner__done.np, F___impl_scanner__done.res) := by kernel_rfl
noncomputable def T___impl_scanner__done : List UInt8 × Int × Bool → Option (Bool) := evF [] F___impl_scanner__done [.rp (.pair .str (.pair (.int .i64) .bool))] [] [.cell .bool] []
noncomputable def fn___impl_scanner__done : TFn := ⟨47, [.rp (.pair .str (.pair (.int .i64) .bool))], [], [.cell .bool], [], T___impl_scanner__done⟩
theorem ok___impl_scanner__done : FnOk Tryd.prog fn___impl_scanner__done := evF_ok mixed allOk_nil m___impl_scanner__done (by decide)
def F_impl_Decimal : TF := ⟨(.seq (.reg none [.p (.mv 2 (.c (.string (ba [])))) .unit])
 (.seq (.reg none [.p (.mv 3 (.t 0)) .unit,
  .p (.callB 4 n_strconv_Itoa [((.t 3), 0)]) .unit,
  .p (.mv 2 (.t 4)) .unit])
 .ret)),
 5, 1, [.t 2]⟩
theorem m_impl_Decimal : mH Tryd.prog 141 [] = some (F_impl_Decimal.code.x, F_impl_Decimal.N, F_impl_Decimal.np, F_impl_Decimal.res) := by kernel_rfl
noncomputable def T_impl_Decimal : Int → Option (List UInt8) := evF [fn_strconv_Itoa] F_impl_Decimal [.cell (.int .i64)] [] [.cell .str] []
noncomputable def fn_impl_Decimal : TFn := ⟨141, [.cell (.int .i64)], [], [.cell .str], [], T_impl_Decimal⟩
theorem ok_impl_Decimal : FnOk Tryd.prog fn_impl_Decimal := evF_ok mixed (allOk_cons ok_strconv_Itoa allOk_nil) m_impl_Decimal (by decide)
def B_impl_ReadDecimal_1 : TC := (.seq (.seq (.reg none [.p (.mv 14 (.t 5)) .unit,
  .p (.mv 15 (.t 0)) .unit,
  .p (.lenS 16 (.t 15)) .unit,
  .p (.bin 17 false .lss (.t 14) (.t 16)) .unit])
 (.cond (.t 17) .skip (.exit 0)))
 (.seq (.block 1 (.seq (.seq (.join ⟨[(0, true), (4, false), (5, false), (29, false)], [.cell .str, .cell (.int .i64), .cell (.int .i64), .cell .bool]⟩ (.reg none [.p (.mv 20 (.t 0)) .unit,
  .p (.mv 21 (.t 5)) .unit,
  .p (.idx 22 (.t 20) (.t 21)) .unit,
  .p (.bin 23 false .lss (.t 22) (.c (.int .u8 48))) .unit,
  .p (.mv 24 (.t 23)) .unit,
  .g 24 false (some 25) (.mv 25 (.t 0)) .unit,
  .g 24 false (some 26) (.mv 26 (.t 5)) .unit,
  .g 24 false (some 27) (.idx 27 (.t 25) (.t 26)) .unit,
  .g 24 false (some 28) (.bin 28 false .gtr (.t 27) (.c (.int .u8 57))) .unit,
  .p (.pick 29 (.t 24) (.c (.bool true)) (.t 28)) .unit]))
 (.cond (.t 29) (.seq (.reg none [.p (.mv 2 (.c (.int .i64 0))) .unit,
  .p (.mv 3 (.c (.bool false))) .unit])
 .ret) .skip))
 (.reg none [.p (.mv 30 (.t 4)) .unit,
  .p (.bin 31 false .mul (.t 30) (.c (.int .i64 10))) .unit,
  .p (.mv 32 (.t 0)) .unit,
  .p (.mv 33 (.t 5)) .unit,
  .p (.idx 34 (.t 32) (.t 33)) .unit,
  .p (.bin 35 false .sub (.t 34) (.c (.int .u8 48))) .unit,
  .p (.cvi 36 .i64 .u8 (.t 35)) .unit,
  .p (.bin 37 false .add (.t 31) (.t 36)) .unit,
  .p (.mv 4 (.t 37)) .unit])))
 (.reg none [.p (.mv 18 (.t 5)) .unit,
  .p (.bin 19 false .add (.t 18) (.c (.int .i64 1))) .unit,
  .p (.mv 5 (.t 19)) .unit])))
noncomputable def L_impl_ReadDecimal_1 : Nat → (List UInt8) × (Int) × Int → Option (((List UInt8) × Int) ⊕ ((Int) × Bool)) := evL [fn_impl_Decimal] (finT [.t 2, .t 3] [] [.cell (.int .i64), .cell .bool]) 0 ⟨[(0, true), (4, false), (5, false)], [.cell .str, .cell (.int .i64), .cell (.int .i64)]⟩ ⟨[(0, true), (4, false)], [.cell .str, .cell (.int .i64)]⟩ B_impl_ReadDecimal_1
def F_impl_ReadDecimal : TF := ⟨(.seq (.reg none [.p (.mv 2 (.c (.int .i64 0))) .unit,
  .p (.mv 3 (.c (.bool false))) .unit])
 (.seq (.seq (.join ⟨[(0, true), (13, false)], [.cell .str, .cell .bool]⟩ (.reg none [.p (.mv 6 (.t 0)) .unit,
  .p (.lenS 7 (.t 6)) .unit,
  .p (.bin 8 false .eql (.t 7) (.c (.int .i64 0))) .unit,
  .p (.mv 9 (.t 8)) .unit,
  .g 9 false (some 10) (.mv 10 (.t 0)) .unit,
  .g 9 false (some 11) (.lenS 11 (.t 10)) .unit,
  .g 9 false (some 12) (.bin 12 false .gtr (.t 11) (.c (.int .i64 10))) .unit,
  .p (.pick 13 (.t 9) (.c (.bool true)) (.t 12)) .unit]))
 (.cond (.t 13) (.seq (.reg none [.p (.mv 2 (.c (.int .i64 0))) .unit,
  .p (.mv 3 (.c (.bool false))) .unit])
 .ret) .skip))
 (.seq (.reg none [.p (.mv 4 (.c (.int .i64 0))) .unit])
 (.seq (.seq (.reg none [.p (.mv 5 (.c (.int .i64 0))) .unit])
 (.jl 0 ⟨[(0, true), (4, false), (5, false)], [.cell .str, .cell (.int .i64), .cell (.int .i64)]⟩ ⟨[(0, true), (4, false)], [.cell .str, .cell (.int .i64)]⟩ B_impl_ReadDecimal_1))
 (.seq (.seq (.join ⟨[(4, false), (45, false)], [.cell (.int .i64), .cell .bool]⟩ (.reg none [.p (.mv 38 (.t 4)) .unit,
  .p (.bin 39 false .gtr (.t 38) (.c (.int .i64 1000000000))) .unit,
  .p (.mv 40 (.t 39)) .unit,
  .g 40 false (some 41) (.mv 41 (.t 4)) .unit,
  .g 40 false (some 42) (.callB 42 n_impl_Decimal [((.t 41), 0)]) .unit,
  .g 40 false (some 43) (.mv 43 (.t 0)) .unit,
  .g 40 false (some 44) (.bin 44 false .neq (.t 42) (.t 43)) .unit,
  .p (.pick 45 (.t 40) (.c (.bool true)) (.t 44)) .unit]))
 (.cond (.t 45) (.seq (.reg none [.p (.mv 2 (.c (.int .i64 0))) .unit,
  .p (.mv 3 (.c (.bool false))) .unit])
 .ret) .skip))
 (.seq (.reg none [.p (.mv 46 (.t 4)) .unit,
  .p (.mv 2 (.t 46)) .unit,
  .p (.mv 3 (.c (.bool true))) .unit])
 .ret)))))),
 47, 1, [.t 2, .t 3]⟩
theorem m_impl_ReadDecimal : mH Tryd.prog 112 [] = some (F_impl_ReadDecimal.code.x, F_impl_ReadDecimal.N, F_impl_ReadDecimal.np, F_impl_ReadDecimal.res) := by kernel_rfl
noncomputable def T_impl_ReadDecimal : List UInt8 → Option ((Int) × Bool) := evF [fn_impl_Decimal] F_impl_ReadDecimal [.cell .str] [] [.cell (.int .i64), .cell .bool] []
noncomputable def fn_impl_ReadDecimal : TFn := ⟨112, [.cell .str], [], [.cell (.int .i64), .cell .bool], [], T_impl_ReadDecimal⟩
theorem ok_impl_ReadDecimal : FnOk Tryd.prog fn_impl_ReadDecimal := evF_ok mixed (allOk_cons ok_impl_Decimal allOk_nil) m_impl_ReadDecimal (by decide)
def F_impl_inRange : TF := ⟨(.seq (.reg none [.p (.mv 6 (.c (.bool false))) .unit])
 (.seq (.reg none [.p (.mv 7 (.t 0)) .unit,
  .p (.mv 8 (.t 1)) .unit,
  .p (.bin 9 false .geq (.t 7) (.t 8)) .unit,
  .p (.mv 10 (.t 9)) .unit,
  .g 10 true (some 11) (.mv 11 (.t 0)) .unit,
  .g 10 true (some 12) (.mv 12 (.t 2)) .unit,
  .g 10 true (some 13) (.bin 13 false .leq (.t 11) (.t 12)) .unit,
  .p (.pick 14 (.t 10) (.t 13) (.c (.bool false))) .unit,
  .p (.mv 6 (.t 14)) .unit])
 .ret)),
 15, 3, [.t 6]⟩
theorem m_impl_inRange : mH Tryd.prog 76 [] = some (F_impl_inRange.code.x, F_impl_inRange.N, F_impl_inRange.np, F_impl_inRange.res) := by kernel_rfl
noncomputable def T_impl_inRange : (Int) × (Int) × Int → Option (Bool) := evF [] F_impl_inRange [.cell (.int .i64), .cell (.int .i64), .cell (.int .i64)] [] [.cell .bool] []
noncomputable def fn_impl_inRange : TFn := ⟨76, [.cell (.int .i64), .cell (.int .i64), .cell (.int .i64)], [], [.cell .bool], [], T_impl_inRange⟩
theorem ok_impl_inRange : FnOk Tryd.prog fn_impl_inRange := evF_ok mixed allOk_nil m_impl_inRange (by decide)
def B_impl_NameOk_1 : TC := (.seq (.seq (.reg none [.p (.mv 5 (.t 3)) .unit,
  .p (.mv 6 (.t 0)) .unit,
  .p (.lenS 7 (.t 6)) .unit,
  .p (.bin 8 false .lss (.t 5) (.t 7)) .unit])
 (.cond (.t 8) .skip (.exit 0)))
 (.seq (.block 1 (.seq (.join ⟨[(0, true), (3, false), (4, false)], [.cell .str, .cell (.int .i64), .cell .bool]⟩ (.reg none [.p (.mv 11 (.t 0)) .unit,
  .p (.mv 12 (.t 3)) .unit,
  .p (.idx 13 (.t 11) (.t 12)) .unit,
  .p (.bin 14 false .geq (.t 13) (.c (.int .u8 97))) .unit,
  .p (.mv 15 (.t 14)) .unit,
  .g 15 true (some 16) (.mv 16 (.t 0)) .unit,
  .g 15 true (some 17) (.mv 17 (.t 3)) .unit,
  .g 15 true (some 18) (.idx 18 (.t 16) (.t 17)) .unit,
  .g 15 true (some 19) (.bin 19 false .leq (.t 18) (.c (.int .u8 122))) .unit,
  .p (.pick 20 (.t 15) (.t 19) (.c (.bool false))) .unit,
  .p (.mv 4 (.t 20)) .unit]))
 (.seq (.join ⟨[(0, true), (3, false), (38, false)], [.cell .str, .cell (.int .i64), .cell .bool]⟩ (.reg none [.p (.mv 21 (.t 4)) .unit,
  .p (.un 22 .not (.t 21)) .unit,
  .p (.mv 23 (.t 22)) .unit,
  .g 23 true (some 24) (.mv 24 (.t 3)) .unit,
  .g 23 true (some 25) (.bin 25 false .eql (.t 24) (.c (.int .i64 0))) .unit,
  .g 23 true (some 26) (.mv 26 (.t 25)) .unit,
  .g 26 false (some 27) (.mv 27 (.t 0)) .unit,
  .g 26 false (some 28) (.mv 28 (.t 3)) .unit,
  .g 26 false (some 29) (.idx 29 (.t 27) (.t 28)) .unit,
  .g 26 false (some 30) (.bin 30 false .lss (.t 29) (.c (.int .u8 48))) .unit,
  .g 23 true (some 31) (.pick 31 (.t 26) (.c (.bool true)) (.t 30)) .unit,
  .g 23 true (some 32) (.mv 32 (.t 31)) .unit,
  .g 32 false (some 33) (.mv 33 (.t 0)) .unit,
  .g 32 false (some 34) (.mv 34 (.t 3)) .unit,
  .g 32 false (some 35) (.idx 35 (.t 33) (.t 34)) .unit,
  .g 32 false (some 36) (.bin 36 false .gtr (.t 35) (.c (.int .u8 57))) .unit,
  .g 23 true (some 37) (.pick 37 (.t 32) (.c (.bool true)) (.t 36)) .unit,
  .p (.pick 38 (.t 23) (.t 37) (.c (.bool false))) .unit]))
 (.cond (.t 38) (.seq (.reg none [.p (.mv 2 (.c (.bool false))) .unit])
 .ret) .skip))))
 (.reg none [.p (.mv 9 (.t 3)) .unit,
  .p (.bin 10 false .add (.t 9) (.c (.int .i64 1))) .unit,
  .p (.mv 3 (.t 10)) .unit])))
noncomputable def L_impl_NameOk_1 : Nat → (List UInt8) × Int → Option ((List UInt8) ⊕ (Bool)) := evL [fn_impl_inRange] (finT [.t 2] [] [.cell .bool]) 0 ⟨[(0, true), (3, false)], [.cell .str, .cell (.int .i64)]⟩ ⟨[(0, true)], [.cell .str]⟩ B_impl_NameOk_1
def F_impl_NameOk : TF := ⟨(.seq (.reg none [.p (.mv 2 (.c (.bool false))) .unit])
 (.seq (.seq (.reg none [.p (.mv 3 (.c (.int .i64 0))) .unit])
 (.jl 0 ⟨[(0, true), (3, false)], [.cell .str, .cell (.int .i64)]⟩ ⟨[(0, true)], [.cell .str]⟩ B_impl_NameOk_1))
 (.seq (.reg none [.p (.mv 39 (.t 0)) .unit,
  .p (.lenS 40 (.t 39)) .unit,
  .p (.callB 41 n_impl_inRange [((.t 40), 0), ((.c (.int .i64 1)), 0), ((.c (.int .i64 12)), 0)]) .unit,
  .p (.mv 2 (.t 41)) .unit])
 .ret))),
 42, 1, [.t 2]⟩
theorem m_impl_NameOk : mH Tryd.prog 124 [] = some (F_impl_NameOk.code.x, F_impl_NameOk.N, F_impl_NameOk.np, F_impl_NameOk.res) := by kernel_rfl
noncomputable def T_impl_NameOk : List UInt8 → Option (Bool) := evF [fn_impl_inRange] F_impl_NameOk [.cell .str] [] [.cell .bool] []
noncomputable def fn_impl_NameOk : TFn := ⟨124, [.cell .str], [], [.cell .bool], [], T_impl_NameOk⟩
theorem ok_impl_NameOk : FnOk Tryd.prog fn_impl_NameOk := evF_ok mixed (allOk_cons ok_impl_inRange allOk_nil) m_impl_NameOk (by decide)
def F_impl_PrivateName : TF := ⟨(.seq (.reg none [.p (.mv 4 (.c (.string (ba [])))) .unit])
 (.seq (.seq (.join ⟨[(0, true), (1, true), (12, false)], [.cell (.int .i64), .cell .str, .cell .bool]⟩ (.reg none [.p (.mv 5 (.t 0)) .unit,
  .p (.callB 6 n_impl_inRange [((.t 5), 0), ((.c (.int .i64 1)), 0), ((.c (.int .i64 9)), 0)]) .unit,
  .p (.un 7 .not (.t 6)) .unit,
  .p (.mv 8 (.t 7)) .unit,
  .g 8 false (some 9) (.mv 9 (.t 1)) .unit,
  .g 8 false (some 10) (.callB 10 n_impl_NameOk [((.t 9), 0)]) .unit,
  .g 8 false (some 11) (.un 11 .not (.t 10)) .unit,
  .p (.pick 12 (.t 8) (.c (.bool true)) (.t 11)) .unit]))
 (.cond (.t 12) (.seq (.reg none [.p (.mv 4 (.c (.string (ba [])))) .unit])
 .ret) .skip))
 (.seq (.reg none [.p (.mv 13 (.t 0)) .unit,
  .p (.callB 14 n_impl_Decimal [((.t 13), 0)]) .unit,
  .p (.bin 15 false .add (.c (.string (ba [35]))) (.t 14)) .unit,
  .p (.bin 16 false .add (.t 15) (.c (.string (ba [35])))) .unit,
  .p (.mv 17 (.t 1)) .unit,
  .p (.bin 18 false .add (.t 16) (.t 17)) .unit,
  .p (.mv 4 (.t 18)) .unit])
 .ret))),
 19, 2, [.t 4]⟩
theorem m_impl_PrivateName : mH Tryd.prog 113 [] = some (F_impl_PrivateName.code.x, F_impl_PrivateName.N, F_impl_PrivateName.np, F_impl_PrivateName.res) := by kernel_rfl
noncomputable def T_impl_PrivateName : (Int) × List UInt8 → Option (List UInt8) := evF [fn_impl_inRange, fn_impl_NameOk, fn_impl_Decimal] F_impl_PrivateName [.cell (.int .i64), .cell .str] [] [.cell .str] []
noncomputable def fn_impl_PrivateName : TFn := ⟨113, [.cell (.int .i64), .cell .str], [], [.cell .str], [], T_impl_PrivateName⟩
theorem ok_impl_PrivateName : FnOk Tryd.prog fn_impl_PrivateName := evF_ok mixed (allOk_cons ok_impl_inRange (allOk_cons ok_impl_NameOk (allOk_cons ok_impl_Decimal allOk_nil))) m_impl_PrivateName (by decide)
def F_impl_SplitPrivate : TF := ⟨(.seq (.reg none [.p (.mv 2 (.c (.int .i64 0))) .unit,
  .p (.mv 3 (.c (.string (ba [])))) .unit,
  .p (.mv 4 (.c (.bool false))) .unit])
 (.seq (.reg none [.p (.mv 8 (.t 0)) .unit,
  .p (.callB 9 n_strings_Split [((.t 8), 0), ((.c (.string (ba [35]))), 0)]) .unit,
  .p (.mvT 5 9) .unit])
 (.seq (.seq (.reg none [.p (.mvA 10 5) .unit,
  .p (.lenB 11 (.t 10)) .unit,
  .p (.bin 12 false .neq (.t 11) (.c (.int .i64 3))) .unit])
 (.cond (.t 12) (.seq (.reg none [.p (.mv 2 (.c (.int .i64 0))) .unit,
  .p (.mv 3 (.c (.string (ba [])))) .unit,
  .p (.mv 4 (.c (.bool false))) .unit])
 .ret) .skip))
 (.seq (.reg none [.p (.mvA 14 5) .unit,
  .p (.iadr 15 1 (.t 14) (.c (.int .i64 1))) .unit,
  .p (.load 16 (.t 15) 1 false) .unit,
  .p (.callB 17 n_impl_ReadDecimal [((.t 16), 0)]) .unit,
  .p (.mv 13 (.t 17)) .unit,
  .p (.ext 18 (.t 13) 0) .unit,
  .p (.ext 19 (.t 13) 1) .unit,
  .p (.mv 6 (.t 18)) .unit,
  .p (.mv 7 (.t 19)) .unit])
 (.seq (.seq (.join ⟨[(5, false), (6, false), (30, false)], [.cell (.sl true .str), .cell (.int .i64), .cell .bool]⟩ (.reg none [.p (.mv 20 (.t 7)) .unit,
  .p (.un 21 .not (.t 20)) .unit,
  .p (.mv 22 (.t 21)) .unit,
  .g 22 false (some 23) (.mv 23 (.t 6)) .unit,
  .g 22 false (some 24) (.mvA 24 5) .unit,
  .g 22 false (some 25) (.iadr 25 1 (.t 24) (.c (.int .i64 2))) .unit,
  .g 22 false (some 26) (.load 26 (.t 25) 1 false) .unit,
  .g 22 false (some 27) (.callB 27 n_impl_PrivateName [((.t 23), 0), ((.t 26), 0)]) .unit,
  .g 22 false (some 28) (.mv 28 (.t 0)) .unit,
  .g 22 false (some 29) (.bin 29 false .neq (.t 27) (.t 28)) .unit,
  .p (.pick 30 (.t 22) (.c (.bool true)) (.t 29)) .unit]))
 (.cond (.t 30) (.seq (.reg none [.p (.mv 2 (.c (.int .i64 0))) .unit,
  .p (.mv 3 (.c (.string (ba [])))) .unit,
  .p (.mv 4 (.c (.bool false))) .unit])
 .ret) .skip))
 (.seq (.reg (some [[], [], [1], [2], [0, 0], [3, 4, 0, 1, 2, 3, 4], [5, 0, 1, 2, 3, 4, 5]]) [.p (.mv 31 (.t 6)) .unit,
  .p (.mvT 32 5) .unit,
  .p (.iadr 33 1 (.t 32) (.c (.int .i64 2))) .unit,
  .p (.load 34 (.t 33) 1 false) .unit,
  .p (.mv 2 (.t 31)) .unit,
  .p (.mv 3 (.t 34)) .unit,
  .p (.mv 4 (.c (.bool true))) .unit])
 .ret)))))),
 35, 1, [.t 2, .t 3, .t 4]⟩
theorem m_impl_SplitPrivate : mH Tryd.prog 61 [(1, 2, .t), (2, 0, .v), (4, 0, .v), (5, 4, .v), (7, 1, .t)] = some (F_impl_SplitPrivate.code.x, F_impl_SplitPrivate.N, F_impl_SplitPrivate.np, F_impl_SplitPrivate.res) := by kernel_rfl
noncomputable def T_impl_SplitPrivate : List UInt8 → Option ((Int) × (List UInt8) × Bool) := evF [fn_strings_Split, fn_impl_ReadDecimal, fn_impl_PrivateName] F_impl_SplitPrivate [.cell .str] [] [.cell (.int .i64), .cell .str, .cell .bool] []
noncomputable def fn_impl_SplitPrivate : TFn := ⟨61, [.cell .str], [], [.cell (.int .i64), .cell .str, .cell .bool], [], T_impl_SplitPrivate⟩
theorem ok_impl_SplitPrivate : FnOk Tryd.prog fn_impl_SplitPrivate := evF_ok mixed (allOk_cons ok_strings_Split (allOk_cons ok_impl_ReadDecimal (allOk_cons ok_impl_PrivateName allOk_nil))) m_impl_SplitPrivate (by decide)
def F_impl_isPrivate : TF := ⟨(.seq (.reg none [.p (.mv 2 (.c (.bool false))) .unit])
 (.seq (.reg none [.p (.mv 7 (.t 0)) .unit,
  .p (.callB 8 n_impl_SplitPrivate [((.t 7), 0)]) .unit,
  .p (.mv 6 (.t 8)) .unit,
  .p (.ext 9 (.t 6) 0) .unit,
  .p (.ext 10 (.t 6) 1) .unit,
  .p (.ext 11 (.t 6) 2) .unit,
  .p (.mv 3 (.t 9)) .unit,
  .p (.mv 4 (.t 10)) .unit,
  .p (.mv 5 (.t 11)) .unit])
 (.seq (.reg none [.p (.mv 12 (.t 5)) .unit,
  .p (.mv 2 (.t 12)) .unit])
 .ret))),
 13, 1, [.t 2]⟩
theorem m_impl_isPrivate : mH Tryd.prog 74 [] = some (F_impl_isPrivate.code.x, F_impl_isPrivate.N, F_impl_isPrivate.np, F_impl_isPrivate.res) := by kernel_rfl
noncomputable def T_impl_isPrivate : List UInt8 → Option (Bool) := evF [fn_impl_SplitPrivate] F_impl_isPrivate [.cell .str] [] [.cell .bool] []
noncomputable def fn_impl_isPrivate : TFn := ⟨74, [.cell .str], [], [.cell .bool], [], T_impl_isPrivate⟩
theorem ok_impl_isPrivate : FnOk Tryd.prog fn_impl_isPrivate := evF_ok mixed (allOk_cons ok_impl_SplitPrivate allOk_nil) m_impl_isPrivate (by decide)
def B_impl_areNames_1 : TC := (.seq (.reg none [.p (.bin 8 false .lss (.t 7) (.t 6)) .unit])
 (.seq (.cond (.t 8) .skip (.exit 0))
 (.seq (.block 1 (.seq (.reg none [.p (.mv 9 (.t 7)) .unit,
  .p (.iadr 10 1 (.t 5) (.t 7)) .unit,
  .p (.load 11 (.t 10) 1 false) .unit,
  .p (.mv 3 (.t 9)) .unit,
  .p (.mv 4 (.t 11)) .unit])
 (.seq (.join ⟨[(0, true), (5, false), (6, false), (7, false), (27, false)], [.cell (.sl false .str), .cell (.sl false .str), .cell (.int .i64), .cell (.int .i64), .cell .bool]⟩ (.reg none [.p (.mv 12 (.t 4)) .unit,
  .p (.callB 13 n_impl_NameOk [((.t 12), 0)]) .unit,
  .p (.un 14 .not (.t 13)) .unit,
  .p (.mv 15 (.t 14)) .unit,
  .g 15 false (some 16) (.mv 16 (.t 3)) .unit,
  .g 15 false (some 17) (.bin 17 false .gtr (.t 16) (.c (.int .i64 0))) .unit,
  .g 15 false (some 18) (.mv 18 (.t 17)) .unit,
  .g 18 true (some 19) (.mv 19 (.t 4)) .unit,
  .g 18 true (some 20) (.mv 20 (.t 0)) .unit,
  .g 18 true (some 21) (.mv 21 (.t 3)) .unit,
  .g 18 true (some 22) (.bin 22 false .sub (.t 21) (.c (.int .i64 1))) .unit,
  .g 18 true (some 23) (.iadr 23 1 (.t 20) (.t 22)) .unit,
  .g 18 true (some 24) (.load 24 (.t 23) 1 false) .unit,
  .g 18 true (some 25) (.bin 25 false .leq (.t 19) (.t 24)) .unit,
  .g 15 false (some 26) (.pick 26 (.t 18) (.t 25) (.c (.bool false))) .unit,
  .p (.pick 27 (.t 15) (.c (.bool true)) (.t 26)) .unit]))
 (.cond (.t 27) (.seq (.reg none [.p (.mv 2 (.c (.bool false))) .unit])
 .ret) .skip))))
 (.reg none [.p (.bin 28 false .add (.t 7) (.c (.int .i64 1))) .unit,
  .p (.mv 7 (.t 28)) .unit]))))
noncomputable def L_impl_areNames_1 : Nat → (List (List UInt8)) × (List (List UInt8)) × (Int) × Int → Option ((Unit) ⊕ (Bool)) := evL [fn_impl_NameOk] (finT [.t 2] [] [.cell .bool]) 0 ⟨[(0, true), (5, false), (6, false), (7, false)], [.cell (.sl false .str), .cell (.sl false .str), .cell (.int .i64), .cell (.int .i64)]⟩ ⟨[], []⟩ B_impl_areNames_1
def F_impl_areNames : TF := ⟨(.seq (.reg none [.p (.mv 2 (.c (.bool false))) .unit])
 (.seq (.seq (.reg none [.p (.mv 5 (.t 0)) .unit,
  .p (.lenB 6 (.t 5)) .unit,
  .p (.mv 7 (.c (.int .i64 0))) .unit])
 (.jl 0 ⟨[(0, true), (5, false), (6, false), (7, false)], [.cell (.sl false .str), .cell (.sl false .str), .cell (.int .i64), .cell (.int .i64)]⟩ ⟨[], []⟩ B_impl_areNames_1))
 (.seq (.reg none [.p (.mv 2 (.c (.bool true))) .unit])
 .ret))),
 29, 1, [.t 2]⟩
theorem m_impl_areNames : mH Tryd.prog 75 [] = some (F_impl_areNames.code.x, F_impl_areNames.N, F_impl_areNames.np, F_impl_areNames.res) := by kernel_rfl
noncomputable def T_impl_areNames : List (List UInt8) → Option (Bool) := evF [fn_impl_NameOk] F_impl_areNames [.cell (.sl false .str)] [] [.cell .bool] []
noncomputable def fn_impl_areNames : TFn := ⟨75, [.cell (.sl false .str)], [], [.cell .bool], [], T_impl_areNames⟩
theorem ok_impl_areNames : FnOk Tryd.prog fn_impl_areNames := evF_ok mixed (allOk_cons ok_impl_NameOk allOk_nil) m_impl_areNames (by decide)
def F_impl_WordOk : TF := ⟨(.seq (.reg none [.p (.box 1 (.t 0)) .unit,
  .p (.mv 2 (.c (.bool false))) .unit])
 (.seq (.seq (.join ⟨[(1, false), (29, false)], [.box (.pair (.int .i64) (.pair .str (.pair (.sl false .str) .str))), .cell .bool]⟩ (.reg none [.p (.fadr 4 (.t 1) 1) .unit,
  .p (.load 5 (.t 4) 1 false) .unit,
  .p (.callB 6 n_impl_isPrivate [((.t 5), 0)]) .unit,
  .p (.un 7 .not (.t 6)) .unit,
  .p (.mv 8 (.t 7)) .unit,
  .g 8 false (some 9) (.fadr 9 (.t 1) 2) .unit,
  .g 8 false (some 10) (.load 10 (.t 9) 1 false) .unit,
  .g 8 false (some 11) (.callB 11 n_impl_areNames [((.t 10), 0)]) .unit,
  .g 8 false (some 12) (.un 12 .not (.t 11)) .unit,
  .p (.pick 13 (.t 8) (.c (.bool true)) (.t 12)) .unit,
  .p (.mv 14 (.t 13)) .unit,
  .g 14 false (some 15) (.fadr 15 (.t 1) 3) .unit,
  .g 14 false (some 16) (.load 16 (.t 15) 1 false) .unit,
  .g 14 false (some 17) (.lenS 17 (.t 16)) .unit,
  .g 14 false (some 18) (.bin 18 false .gtr (.t 17) (.c (.int .i64 20))) .unit,
  .p (.pick 19 (.t 14) (.c (.bool true)) (.t 18)) .unit,
  .p (.mv 20 (.t 19)) .unit,
  .g 20 false (some 21) (.fadr 21 (.t 1) 0) .unit,
  .g 20 false (some 22) (.load 22 (.t 21) 1 false) .unit,
  .g 20 false (some 23) (.bin 23 false .neq (.t 22) (.c (.int .i64 4))) .unit,
  .g 20 false (some 24) (.mv 24 (.t 23)) .unit,
  .g 24 true (some 25) (.fadr 25 (.t 1) 3) .unit,
  .g 24 true (some 26) (.load 26 (.t 25) 1 false) .unit,
  .g 24 true (some 27) (.bin 27 false .neq (.t 26) (.c (.string (ba [])))) .unit,
  .g 20 false (some 28) (.pick 28 (.t 24) (.t 27) (.c (.bool false))) .unit,
  .p (.pick 29 (.t 20) (.c (.bool true)) (.t 28)) .unit]))
 (.cond (.t 29) (.seq (.reg none [.p (.mv 2 (.c (.bool false))) .unit])
 .ret) .skip))
 (.seq (.reg none [.p (.fadr 30 (.t 1) 2) .unit,
  .p (.load 31 (.t 30) 1 false) .unit,
  .p (.lenB 32 (.t 31)) .unit,
  .p (.mv 3 (.t 32)) .unit])
 (.seq (.seq (.reg none [.p (.fadr 33 (.t 1) 0) .unit,
  .p (.load 34 (.t 33) 1 false) .unit])
 (.block 0 (.seq (.join ⟨[(3, false), (34, false), (35, false)], [.cell (.int .i64), .cell (.int .i64), .cell .bool]⟩ (.seq (.reg none [.p (.bin 36 false .eql (.t 34) (.c (.int .i64 1))) .unit,
  .p (.mv 35 (.t 36)) .unit])
 (.cond (.t 35) .skip (.reg none [.p (.bin 37 false .eql (.t 34) (.c (.int .i64 2))) .unit,
  .p (.mv 35 (.t 37)) .unit]))))
 (.cond (.t 35) (.seq (.reg none [.p (.mv 38 (.t 3)) .unit,
  .p (.bin 39 false .eql (.t 38) (.c (.int .i64 1))) .unit,
  .p (.mv 2 (.t 39)) .unit])
 .ret) (.seq (.reg none [.p (.bin 41 false .eql (.t 34) (.c (.int .i64 3))) .unit,
  .p (.mv 40 (.t 41)) .unit])
 (.cond (.t 40) (.seq (.reg none [.p (.mv 42 (.t 3)) .unit,
  .p (.bin 43 false .eql (.t 42) (.c (.int .i64 0))) .unit,
  .p (.mv 2 (.t 43)) .unit])
 .ret) (.seq (.reg none [.p (.bin 45 false .eql (.t 34) (.c (.int .i64 4))) .unit,
  .p (.mv 44 (.t 45)) .unit])
 (.cond (.t 44) (.seq (.reg none [.p (.mv 46 (.t 3)) .unit,
  .p (.callB 47 n_impl_inRange [((.t 46), 0), ((.c (.int .i64 1)), 0), ((.c (.int .i64 3)), 0)]) .unit,
  .p (.mv 2 (.t 47)) .unit])
 .ret) .skip))))))))
 (.seq (.reg none [.p (.mv 2 (.c (.bool false))) .unit])
 .ret))))),
 48, 1, [.t 2]⟩
theorem m_impl_WordOk : mH Tryd.prog 27 [] = some (F_impl_WordOk.code.x, F_impl_WordOk.N, F_impl_WordOk.np, F_impl_WordOk.res) := by kernel_rfl
noncomputable def T_impl_WordOk : Int × List UInt8 × List (List UInt8) × List UInt8 → Option (Bool) := evF [fn_impl_isPrivate, fn_impl_areNames, fn_impl_inRange] F_impl_WordOk [.agg (.pair (.int .i64) (.pair .str (.pair (.sl false .str) .str)))] [] [.cell .bool] []
noncomputable def fn_impl_WordOk : TFn := ⟨27, [.agg (.pair (.int .i64) (.pair .str (.pair (.sl false .str) .str)))], [], [.cell .bool], [], T_impl_WordOk⟩
theorem ok_impl_WordOk : FnOk Tryd.prog fn_impl_WordOk := evF_ok mixed (allOk_cons ok_impl_isPrivate (allOk_cons ok_impl_areNames (allOk_cons ok_impl_inRange allOk_nil))) m_impl_WordOk (by decide)
def F_impl_ReadWord : TF := ⟨(.seq (.reg none [.p (.alloc 2 [(.lit (.int .i64 0)), (.lit (.string (ba []))), (.sl true 1 []), (.lit (.string (ba [])))]) .unit,
  .p (.mv 3 (.c (.bool false))) .unit])
 (.seq (.reg none [.p (.mv 6 (.t 0)) .unit,
  .p (.bld 7 [(.lit (.string (ba []))), (.lit (.int .i64 0)), (.lit (.bool false))] [⟨0, 1, (.t 6)⟩]) .unit,
  .p (.alloc 4 [(.lit (.string (ba []))), (.lit (.int .i64 0)), (.lit (.bool false))]) .unit,
  .p (.store (.t 4) (.t 7) 3) .unit])
 (.seq (.reg none [.p (.callM 8 n___impl_scanner__octet [] (.tmp 4) []) .unit,
  .p (.bld 9 [(.lit (.int .i64 0)), (.lit (.string (ba []))), (.sl true 1 []), (.lit (.string (ba [])))] [⟨0, 1, (.t 8)⟩]) .unit,
  .p (.alloc 5 [(.lit (.int .i64 0)), (.lit (.string (ba []))), (.sl true 1 []), (.lit (.string (ba [])))]) .unit,
  .p (.storeT (.t 5) 9 4) .unit])
 (.seq (.reg none [.p (.callM 10 n___impl_scanner__short [] (.tmp 4) []) .unit,
  .p (.fadr 11 (.t 5) 1) .unit,
  .p (.store (.t 11) (.t 10) 1) .unit])
 (.seq (.reg none [.p (.callM 12 n___impl_scanner__names [] (.tmp 4) []) .unit,
  .p (.fadr 13 (.t 5) 2) .unit,
  .p (.storeT (.t 13) 12 1) .unit])
 (.seq (.reg none [.p (.callM 14 n___impl_scanner__short [] (.tmp 4) []) .unit,
  .p (.fadr 15 (.t 5) 3) .unit,
  .p (.store (.t 15) (.t 14) 1) .unit])
 (.seq (.seq (.join ⟨[(2, false), (5, false), (22, false)], [.box (.pair (.int .i64) (.pair .str (.pair (.sl true .str) .str))), .box (.pair (.int .i64) (.pair .str (.pair (.sl true .str) .str))), .cell .bool]⟩ (.reg none [.p (.callB 16 n___impl_scanner__done [((.t 4), 0)]) .unit,
  .p (.un 17 .not (.t 16)) .unit,
  .p (.mv 18 (.t 17)) .unit,
  .g 18 false (some 19) (.load 19 (.t 5) 4 true) .unit,
  .g 18 false (some 20) (.callB 20 n_impl_WordOk [((.t 19), 0)]) .unit,
  .g 18 false (some 21) (.un 21 .not (.t 20)) .unit,
  .p (.pick 22 (.t 18) (.c (.bool true)) (.t 21)) .unit]))
 (.cond (.t 22) (.seq (.reg none [.p (.bld 23 [(.lit (.int .i64 0)), (.lit (.string (ba []))), (.sl true 1 []), (.lit (.string (ba [])))] []) .unit,
  .p (.storeT (.t 2) 23 4) .unit,
  .p (.mv 3 (.c (.bool false))) .unit])
 .ret) .skip))
 (.seq (.reg none [.p (.loadT 24 (.t 5) 4 true) .unit,
  .p (.storeT (.t 2) 24 4) .unit,
  .p (.mv 3 (.c (.bool true))) .unit])
 .ret)))))))),
 25, 1, [.c 2 4 true, .t 3]⟩
theorem m_impl_ReadWord : mH Tryd.prog 9 [(2, 0, (.m 0)), (2, 3, .t), (3, 0, (.m 0)), (4, 0, (.m 0)), (4, 2, .t), (5, 0, (.m 0)), (7, 1, .t), (8, 0, .t), (8, 1, .t)] = some (F_impl_ReadWord.code.x, F_impl_ReadWord.N, F_impl_ReadWord.np, F_impl_ReadWord.res) := by kernel_rfl
noncomputable def T_impl_ReadWord : List UInt8 → Option ((Int × List UInt8 × List (List UInt8) × List UInt8) × Bool) := evF [fn___impl_scanner__octet, fn___impl_scanner__short, fn___impl_scanner__names, fn___impl_scanner__done, fn_impl_WordOk] F_impl_ReadWord [.cell .str] [] [.agg (.pair (.int .i64) (.pair .str (.pair (.sl true .str) .str))), .cell .bool] []
noncomputable def fn_impl_ReadWord : TFn := ⟨9, [.cell .str], [], [.agg (.pair (.int .i64) (.pair .str (.pair (.sl true .str) .str))), .cell .bool], [], T_impl_ReadWord⟩
theorem ok_impl_ReadWord : FnOk Tryd.prog fn_impl_ReadWord := evF_ok mixed (allOk_cons ok___impl_scanner__octet (allOk_cons ok___impl_scanner__short (allOk_cons ok___impl_scanner__names (allOk_cons ok___impl_scanner__done (allOk_cons ok_impl_WordOk allOk_nil))))) m_impl_ReadWord (by decide)
def B_laws_eqStringS_1 : TC := (.seq (.seq (.reg none [.p (.mv 11 (.t 5)) .unit,
  .p (.mv 12 (.t 0)) .unit,
  .p (.lenB 13 (.t 12)) .unit,
  .p (.bin 14 false .lss (.t 11) (.t 13)) .unit])
 (.cond (.t 14) .skip (.exit 0)))
 (.seq (.block 1 (.seq (.reg (some [[], [], [0, 1], [2], [], [], [4, 5], [6], [3, 7]]) [.p (.mv 17 (.t 0)) .unit,
  .p (.mv 18 (.t 5)) .unit,
  .p (.iadr 19 1 (.t 17) (.t 18)) .unit,
  .p (.load 20 (.t 19) 1 false) .unit,
  .p (.mv 21 (.t 1)) .unit,
  .p (.mv 22 (.t 5)) .unit,
  .p (.iadr 23 1 (.t 21) (.t 22)) .unit,
  .p (.load 24 (.t 23) 1 false) .unit,
  .p (.bin 25 false .neq (.t 20) (.t 24)) .unit])
 (.cond (.t 25) (.seq (.reg none [.p (.mv 4 (.c (.bool false))) .unit])
 .ret) .skip)))
 (.reg none [.p (.mv 15 (.t 5)) .unit,
  .p (.bin 16 false .add (.t 15) (.c (.int .i64 1))) .unit,
  .p (.mv 5 (.t 16)) .unit])))
noncomputable def L_laws_eqStringS_1 : Nat → (List (List UInt8)) × (List (List UInt8)) × Int → Option ((Unit) ⊕ (Bool)) := evL [] (finT [.t 4] [] [.cell .bool]) 0 ⟨[(0, true), (1, true), (5, false)], [.cell (.sl false .str), .cell (.sl false .str), .cell (.int .i64)]⟩ ⟨[], []⟩ B_laws_eqStringS_1
def F_laws_eqStringS : TF := ⟨(.seq (.reg none [.p (.mv 4 (.c (.bool false))) .unit])
 (.seq (.seq (.reg none [.p (.mv 6 (.t 0)) .unit,
  .p (.lenB 7 (.t 6)) .unit,
  .p (.mv 8 (.t 1)) .unit,
  .p (.lenB 9 (.t 8)) .unit,
  .p (.bin 10 false .neq (.t 7) (.t 9)) .unit])
 (.cond (.t 10) (.seq (.reg none [.p (.mv 4 (.c (.bool false))) .unit])
 .ret) .skip))
 (.seq (.seq (.reg none [.p (.mv 5 (.c (.int .i64 0))) .unit])
 (.jl 0 ⟨[(0, true), (1, true), (5, false)], [.cell (.sl false .str), .cell (.sl false .str), .cell (.int .i64)]⟩ ⟨[], []⟩ B_laws_eqStringS_1))
 (.seq (.reg none [.p (.mv 4 (.c (.bool true))) .unit])
 .ret)))),
 26, 2, [.t 4]⟩
theorem m_laws_eqStringS : mH Tryd.prog 48 [] = some (F_laws_eqStringS.code.x, F_laws_eqStringS.N, F_laws_eqStringS.np, F_laws_eqStringS.res) := by kernel_rfl
noncomputable def T_laws_eqStringS : (List (List UInt8)) × List (List UInt8) → Option (Bool) := evF [] F_laws_eqStringS [.cell (.sl false .str), .cell (.sl false .str)] [] [.cell .bool] []
noncomputable def fn_laws_eqStringS : TFn := ⟨48, [.cell (.sl false .str), .cell (.sl false .str)], [], [.cell .bool], [], T_laws_eqStringS⟩
theorem ok_laws_eqStringS : FnOk Tryd.prog fn_laws_eqStringS := evF_ok mixed allOk_nil m_laws_eqStringS (by decide)
def F_laws_eqWord : TF := ⟨(.seq (.reg none [.p (.box 2 (.t 0)) .unit,
  .p (.box 3 (.t 1)) .unit,
  .p (.mv 4 (.c (.bool false))) .unit])
 (.seq (.seq (.reg none [.p (.fadr 5 (.t 2) 0) .unit,
  .p (.load 6 (.t 5) 1 false) .unit,
  .p (.fadr 7 (.t 3) 0) .unit,
  .p (.load 8 (.t 7) 1 false) .unit,
  .p (.bin 9 false .neq (.t 6) (.t 8)) .unit])
 (.cond (.t 9) (.seq (.reg none [.p (.mv 4 (.c (.bool false))) .unit])
 .ret) .skip))
 (.seq (.seq (.reg none [.p (.fadr 10 (.t 2) 1) .unit,
  .p (.load 11 (.t 10) 1 false) .unit,
  .p (.fadr 12 (.t 3) 1) .unit,
  .p (.load 13 (.t 12) 1 false) .unit,
  .p (.bin 14 false .neq (.t 11) (.t 13)) .unit])
 (.cond (.t 14) (.seq (.reg none [.p (.mv 4 (.c (.bool false))) .unit])
 .ret) .skip))
 (.seq (.seq (.reg none [.p (.fadr 15 (.t 2) 2) .unit,
  .p (.load 16 (.t 15) 1 false) .unit,
  .p (.fadr 17 (.t 3) 2) .unit,
  .p (.load 18 (.t 17) 1 false) .unit,
  .p (.callB 19 n_laws_eqStringS [((.t 16), 0), ((.t 18), 0)]) .unit,
  .p (.un 20 .not (.t 19)) .unit])
 (.cond (.t 20) (.seq (.reg none [.p (.mv 4 (.c (.bool false))) .unit])
 .ret) .skip))
 (.seq (.seq (.reg none [.p (.fadr 21 (.t 2) 3) .unit,
  .p (.load 22 (.t 21) 1 false) .unit,
  .p (.fadr 23 (.t 3) 3) .unit,
  .p (.load 24 (.t 23) 1 false) .unit,
  .p (.bin 25 false .neq (.t 22) (.t 24)) .unit])
 (.cond (.t 25) (.seq (.reg none [.p (.mv 4 (.c (.bool false))) .unit])
 .ret) .skip))
 (.seq (.reg none [.p (.mv 4 (.c (.bool true))) .unit])
 .ret)))))),
 26, 2, [.t 4]⟩
theorem m_laws_eqWord : mH Tryd.prog 10 [] = some (F_laws_eqWord.code.x, F_laws_eqWord.N, F_laws_eqWord.np, F_laws_eqWord.res) := by kernel_rfl
noncomputable def T_laws_eqWord : (Int × List UInt8 × List (List UInt8) × List UInt8) × Int × List UInt8 × List (List UInt8) × List UInt8 → Option (Bool) := evF [fn_laws_eqStringS] F_laws_eqWord [.agg (.pair (.int .i64) (.pair .str (.pair (.sl false .str) .str))), .agg (.pair (.int .i64) (.pair .str (.pair (.sl false .str) .str)))] [] [.cell .bool] []
noncomputable def fn_laws_eqWord : TFn := ⟨10, [.agg (.pair (.int .i64) (.pair .str (.pair (.sl false .str) .str))), .agg (.pair (.int .i64) (.pair .str (.pair (.sl false .str) .str)))], [], [.cell .bool], [], T_laws_eqWord⟩
theorem ok_laws_eqWord : FnOk Tryd.prog fn_laws_eqWord := evF_ok mixed (allOk_cons ok_laws_eqStringS allOk_nil) m_laws_eqWord (by decide)
def B_laws_markText_1 : TC := (.seq (.seq (.reg none [.p (.mv 6 (.t 0)) .unit,
  .p (.bin 7 false .gtr (.t 6) (.c (.int .i64 0))) .unit])
 (.cond (.t 7) .skip (.exit 0)))
 (.block 1 (.seq (.reg none [.p (.mv 8 (.t 0)) .unit,
  .p (.bin 9 false .rem (.t 8) (.c (.int .i64 10))) .unit,
  .p (.bin 10 false .add (.c (.int .i64 48)) (.t 9)) .unit,
  .p (.cvi 11 .u8 .i64 (.t 10)) .unit,
  .p (.bldS 12 1 [(.lit (.int .u8 0))] [⟨0, 1, (.t 11)⟩]) (.int .u8),
  .p (.b2s 13 (.t 12)) .unit,
  .p (.mv 14 (.t 3)) .unit,
  .p (.bin 15 false .add (.t 13) (.t 14)) .unit,
  .p (.mv 3 (.t 15)) .unit])
 (.reg none [.p (.mv 16 (.t 0)) .unit,
  .p (.bin 17 false .quo (.t 16) (.c (.int .i64 10))) .unit,
  .p (.mv 0 (.t 17)) .unit]))))
noncomputable def L_laws_markText_1 : Nat → (Int) × List UInt8 → Option ((List UInt8) ⊕ (List UInt8)) := evL [] (finT [.t 2] [] [.cell .str]) 0 ⟨[(0, false), (3, false)], [.cell (.int .i64), .cell .str]⟩ ⟨[(3, false)], [.cell .str]⟩ B_laws_markText_1
def F_laws_markText : TF := ⟨(.seq (.reg none [.p (.mv 2 (.c (.string (ba [])))) .unit])
 (.seq (.seq (.reg none [.p (.mv 4 (.t 0)) .unit,
  .p (.bin 5 false .leq (.t 4) (.c (.int .i64 0))) .unit])
 (.cond (.t 5) (.seq (.reg none [.p (.mv 2 (.c (.string (ba [109, 48])))) .unit])
 .ret) .skip))
 (.seq (.reg none [.p (.mv 3 (.c (.string (ba [])))) .unit])
 (.seq (.jl 0 ⟨[(0, false), (3, false)], [.cell (.int .i64), .cell .str]⟩ ⟨[(3, false)], [.cell .str]⟩ B_laws_markText_1)
 (.seq (.reg none [.p (.mv 18 (.t 3)) .unit,
  .p (.bin 19 false .add (.c (.string (ba [109]))) (.t 18)) .unit,
  .p (.mv 2 (.t 19)) .unit])
 .ret))))),
 20, 1, [.t 2]⟩
theorem m_laws_markText : mH Tryd.prog 94 [] = some (F_laws_markText.code.x, F_laws_markText.N, F_laws_markText.np, F_laws_markText.res) := by kernel_rfl
noncomputable def T_laws_markText : Int → Option (List UInt8) := evF [] F_laws_markText [.cell (.int .i64)] [] [.cell .str] []
noncomputable def fn_laws_markText : TFn := ⟨94, [.cell (.int .i64)], [], [.cell .str], [], T_laws_markText⟩
theorem ok_laws_markText : FnOk Tryd.prog fn_laws_markText := evF_ok mixed allOk_nil m_laws_markText (by decide)
def B_laws_markStringS_1 : TC := (.seq (.seq (.reg none [.p (.mv 6 (.t 5)) .unit,
  .p (.mvA 7 0) .unit,
  .p (.lenB 8 (.t 7)) .unit,
  .p (.bin 9 false .lss (.t 6) (.t 8)) .unit])
 (.cond (.t 9) .skip (.exit 0)))
 (.seq (.block 1 (.seq (.reg none [.p (.mvA 12 0) .unit,
  .p (.mv 13 (.t 5)) .unit,
  .p (.mv 14 (.t 1)) .unit,
  .p (.callB 15 n_laws_markText [((.t 14), 0)]) .unit,
  .p (.iadr 16 1 (.t 12) (.t 13)) .unit,
  .p (.store (.t 16) (.t 15) 1) .unit])
 (.reg none [.p (.mv 17 (.t 1)) .unit,
  .p (.bin 18 false .add (.t 17) (.c (.int .i64 1))) .unit,
  .p (.mv 1 (.t 18)) .unit])))
 (.reg none [.p (.mv 10 (.t 5)) .unit,
  .p (.bin 11 false .add (.t 10) (.c (.int .i64 1))) .unit,
  .p (.mv 5 (.t 11)) .unit])))
noncomputable def L_laws_markStringS_1 : Nat → (List (List UInt8)) × (Int) × Int → Option (((List (List UInt8)) × Int) ⊕ ((Int) × List (List UInt8))) := evL [fn_laws_markText] (finT [.t 4] [0] [.cell (.int .i64), .cell (.sl true .str)]) 0 ⟨[(0, true), (1, false), (5, false)], [.cell (.sl true .str), .cell (.int .i64), .cell (.int .i64)]⟩ ⟨[(0, true), (1, false)], [.cell (.sl true .str), .cell (.int .i64)]⟩ B_laws_markStringS_1
def F_laws_markStringS : TF := ⟨(.seq (.reg none [.p (.mv 4 (.c (.int .i64 0))) .unit])
 (.seq (.seq (.reg none [.p (.mv 5 (.c (.int .i64 0))) .unit])
 (.jl 0 ⟨[(0, true), (1, false), (5, false)], [.cell (.sl true .str), .cell (.int .i64), .cell (.int .i64)]⟩ ⟨[(0, true), (1, false)], [.cell (.sl true .str), .cell (.int .i64)]⟩ B_laws_markStringS_1))
 (.seq (.reg none [.p (.mv 19 (.t 1)) .unit,
  .p (.mv 4 (.t 19)) .unit])
 .ret))),
 20, 2, [.t 4]⟩
theorem m_laws_markStringS : mH Tryd.prog 49 [(2, 1, .v), (4, 0, .v)] = some (F_laws_markStringS.code.x, F_laws_markStringS.N, F_laws_markStringS.np, F_laws_markStringS.res) := by kernel_rfl
noncomputable def T_laws_markStringS : (List (List UInt8)) × Int → Option ((Int) × List (List UInt8)) := evF [fn_laws_markText] F_laws_markStringS [.cell (.sl true .str), .cell (.int .i64)] [0] [.cell (.int .i64)] [.cell (.sl true .str)]
noncomputable def fn_laws_markStringS : TFn := ⟨49, [.cell (.sl true .str), .cell (.int .i64)], [0], [.cell (.int .i64)], [.cell (.sl true .str)], T_laws_markStringS⟩
theorem ok_laws_markStringS : FnOk Tryd.prog fn_laws_markStringS := evF_ok mixed (allOk_cons ok_laws_markText allOk_nil) m_laws_markStringS (by decide)
def F_laws_markWord : TF := ⟨(.seq (.reg none [.p (.boxL 2 0) .unit,
  .p (.mv 4 (.c (.int .i64 0))) .unit])
 (.seq (.reg none [.p (.fadr 5 (.t 2) 2) .unit,
  .p (.load 6 (.t 5) 1 false) .unit,
  .p (.mv 7 (.t 1)) .unit,
  .p (.callM 8 n_laws_markStringS [] (.aggS (.t 6) 2 0) [((.t 7), 0)]) .unit,
  .p (.mv 1 (.t 8)) .unit])
 (.seq (.reg none [.p (.mv 9 (.t 1)) .unit,
  .p (.mv 4 (.t 9)) .unit])
 .ret))),
 10, 2, [.t 4]⟩
theorem m_laws_markWord : mH Tryd.prog 11 [(0, 0, .v), (1, 3, (.gs 0 2 0))] = some (F_laws_markWord.code.x, F_laws_markWord.N, F_laws_markWord.np, F_laws_markWord.res) := by kernel_rfl
noncomputable def T_laws_markWord : (Int × List UInt8 × List (List UInt8) × List UInt8) × Int → Option ((Int) × Int × List UInt8 × List (List UInt8) × List UInt8) := evF [fn_laws_markStringS] F_laws_markWord [.agg (.pair (.int .i64) (.pair .str (.pair (.sl true .str) .str))), .cell (.int .i64)] [0] [.cell (.int .i64)] [.agg (.pair (.int .i64) (.pair .str (.pair (.sl true .str) .str)))]
noncomputable def fn_laws_markWord : TFn := ⟨11, [.agg (.pair (.int .i64) (.pair .str (.pair (.sl true .str) .str))), .cell (.int .i64)], [0], [.cell (.int .i64)], [.agg (.pair (.int .i64) (.pair .str (.pair (.sl true .str) .str)))], T_laws_markWord⟩
theorem ok_laws_markWord : FnOk Tryd.prog fn_laws_markWord := evF_ok mixed (allOk_cons ok_laws_markStringS allOk_nil) m_laws_markWord (by decide)
def B_laws_heldStringS_1 : TC := (.seq (.seq (.reg none [.p (.mv 6 (.t 5)) .unit,
  .p (.mv 7 (.t 0)) .unit,
  .p (.lenB 8 (.t 7)) .unit,
  .p (.bin 9 false .lss (.t 6) (.t 8)) .unit])
 (.cond (.t 9) .skip (.exit 0)))
 (.seq (.block 1 (.seq (.seq (.reg (some [[], [], [0, 1], [2], [], [4], [3, 5]]) [.p (.mv 12 (.t 0)) .unit,
  .p (.mv 13 (.t 5)) .unit,
  .p (.iadr 14 1 (.t 12) (.t 13)) .unit,
  .p (.load 15 (.t 14) 1 false) .unit,
  .p (.mv 16 (.t 1)) .unit,
  .p (.callB 17 n_laws_markText [((.t 16), 0)]) .unit,
  .p (.bin 18 false .neq (.t 15) (.t 17)) .unit])
 (.cond (.t 18) (.seq (.reg none [.p (.mv 4 (.c (.int .i64 (-1)))) .unit])
 .ret) .skip))
 (.reg none [.p (.mv 19 (.t 1)) .unit,
  .p (.bin 20 false .add (.t 19) (.c (.int .i64 1))) .unit,
  .p (.mv 1 (.t 20)) .unit])))
 (.reg none [.p (.mv 10 (.t 5)) .unit,
  .p (.bin 11 false .add (.t 10) (.c (.int .i64 1))) .unit,
  .p (.mv 5 (.t 11)) .unit])))
noncomputable def L_laws_heldStringS_1 : Nat → (List (List UInt8)) × (Int) × Int → Option ((Int) ⊕ (Int)) := evL [fn_laws_markText] (finT [.t 4] [] [.cell (.int .i64)]) 0 ⟨[(0, true), (1, false), (5, false)], [.cell (.sl false .str), .cell (.int .i64), .cell (.int .i64)]⟩ ⟨[(1, false)], [.cell (.int .i64)]⟩ B_laws_heldStringS_1
def F_laws_heldStringS : TF := ⟨(.seq (.reg none [.p (.mv 4 (.c (.int .i64 0))) .unit])
 (.seq (.seq (.reg none [.p (.mv 5 (.c (.int .i64 0))) .unit])
 (.jl 0 ⟨[(0, true), (1, false), (5, false)], [.cell (.sl false .str), .cell (.int .i64), .cell (.int .i64)]⟩ ⟨[(1, false)], [.cell (.int .i64)]⟩ B_laws_heldStringS_1))
 (.seq (.reg none [.p (.mv 21 (.t 1)) .unit,
  .p (.mv 4 (.t 21)) .unit])
 .ret))),
 22, 2, [.t 4]⟩
theorem m_laws_heldStringS : mH Tryd.prog 50 [] = some (F_laws_heldStringS.code.x, F_laws_heldStringS.N, F_laws_heldStringS.np, F_laws_heldStringS.res) := by kernel_rfl
noncomputable def T_laws_heldStringS : (List (List UInt8)) × Int → Option (Int) := evF [fn_laws_markText] F_laws_heldStringS [.cell (.sl false .str), .cell (.int .i64)] [] [.cell (.int .i64)] []
noncomputable def fn_laws_heldStringS : TFn := ⟨50, [.cell (.sl false .str), .cell (.int .i64)], [], [.cell (.int .i64)], [], T_laws_heldStringS⟩
theorem ok_laws_heldStringS : FnOk Tryd.prog fn_laws_heldStringS := evF_ok mixed (allOk_cons ok_laws_markText allOk_nil) m_laws_heldStringS (by decide)
def F_laws_heldWord : TF := ⟨(.seq (.reg none [.p (.box 2 (.t 0)) .unit,
  .p (.mv 4 (.c (.int .i64 0))) .unit])
 (.seq (.reg none [.p (.fadr 5 (.t 2) 2) .unit,
  .p (.load 6 (.t 5) 1 false) .unit,
  .p (.mv 7 (.t 1)) .unit,
  .p (.callB 8 n_laws_heldStringS [((.t 6), 0), ((.t 7), 0)]) .unit,
  .p (.mv 1 (.t 8)) .unit])
 (.seq (.seq (.reg none [.p (.mv 9 (.t 1)) .unit,
  .p (.bin 10 false .lss (.t 9) (.c (.int .i64 0))) .unit])
 (.cond (.t 10) (.seq (.reg none [.p (.mv 4 (.c (.int .i64 (-1)))) .unit])
 .ret) .skip))
 (.seq (.reg none [.p (.mv 11 (.t 1)) .unit,
  .p (.mv 4 (.t 11)) .unit])
 .ret)))),
 12, 2, [.t 4]⟩
theorem m_laws_heldWord : mH Tryd.prog 12 [] = some (F_laws_heldWord.code.x, F_laws_heldWord.N, F_laws_heldWord.np, F_laws_heldWord.res) := by kernel_rfl
noncomputable def T_laws_heldWord : (Int × List UInt8 × List (List UInt8) × List UInt8) × Int → Option (Int) := evF [fn_laws_heldStringS] F_laws_heldWord [.agg (.pair (.int .i64) (.pair .str (.pair (.sl false .str) .str))), .cell (.int .i64)] [] [.cell (.int .i64)] []
noncomputable def fn_laws_heldWord : TFn := ⟨12, [.agg (.pair (.int .i64) (.pair .str (.pair (.sl false .str) .str))), .cell (.int .i64)], [], [.cell (.int .i64)], [], T_laws_heldWord⟩
theorem ok_laws_heldWord : FnOk Tryd.prog fn_laws_heldWord := evF_ok mixed (allOk_cons ok_laws_heldStringS allOk_nil) m_laws_heldWord (by decide)
def F_laws_FnExactReadWord : TF := ⟨(.seq (.reg none [.p (.mv 2 (.c (.bool false))) .unit])
 (.seq (.seq (.reg none [.p (.mv 11 (.t 0)) .unit,
  .p (.lenS 12 (.t 11)) .unit,
  .p (.bin 13 false .gtr (.t 12) (.c (.int .i64 1048576))) .unit])
 (.cond (.t 13) (.seq (.reg none [.p (.mv 2 (.c (.bool true))) .unit])
 .ret) .skip))
 (.seq (.reg none [.p (.mv 15 (.t 0)) .unit,
  .p (.callB 16 n_spec_ReadWord [((.t 15), 0)]) .unit,
  .p (.mvT 14 16) .unit,
  .p (.extT 17 14 0) .unit,
  .p (.ext 18 (.t 14) 1) .unit,
  .p (.alloc 3 [(.lit (.int .i64 0)), (.lit (.string (ba []))), (.sl true 1 []), (.lit (.string (ba [])))]) .unit,
  .p (.storeT (.t 3) 17 4) .unit,
  .p (.mv 4 (.t 18)) .unit])
 (.seq (.reg none [.p (.mv 20 (.t 0)) .unit,
  .p (.callB 21 n_impl_ReadWord [((.t 20), 0)]) .unit,
  .p (.mvT 19 21) .unit,
  .p (.extT 22 19 0) .unit,
  .p (.ext 23 (.t 19) 1) .unit,
  .p (.alloc 5 [(.lit (.int .i64 0)), (.lit (.string (ba []))), (.sl true 1 []), (.lit (.string (ba [])))]) .unit,
  .p (.storeT (.t 5) 22 4) .unit,
  .p (.mv 6 (.t 23)) .unit])
 (.seq (.seq (.join ⟨[(0, true), (3, false), (4, false), (5, false), (32, false)], [.cell .str, .box (.pair (.int .i64) (.pair .str (.pair (.sl true .str) .str))), .cell .bool, .box (.pair (.int .i64) (.pair .str (.pair (.sl true .str) .str))), .cell .bool]⟩ (.reg none [.p (.load 24 (.t 5) 4 true) .unit,
  .p (.load 25 (.t 3) 4 true) .unit,
  .p (.callB 26 n_laws_eqWord [((.t 24), 0), ((.t 25), 0)]) .unit,
  .p (.un 27 .not (.t 26)) .unit,
  .p (.mv 28 (.t 27)) .unit,
  .g 28 false (some 29) (.mv 29 (.t 6)) .unit,
  .g 28 false (some 30) (.mv 30 (.t 4)) .unit,
  .g 28 false (some 31) (.bin 31 true .neq (.t 29) (.t 30)) .unit,
  .p (.pick 32 (.t 28) (.c (.bool true)) (.t 31)) .unit]))
 (.cond (.t 32) (.seq (.reg none [.p (.mv 2 (.c (.bool false))) .unit])
 .ret) .skip))
 (.seq (.reg none [.p (.mv 7 (.c (.int .i64 1))) .unit])
 (.seq (.reg none [.p (.load 33 (.t 5) 4 true) .unit,
  .p (.mv 34 (.t 7)) .unit,
  .p (.callM 35 n_laws_markWord [] (.agg (.t 33) 5) [((.t 34), 0)]) .unit,
  .p (.mv 7 (.t 35)) .unit])
 (.seq (.reg none [.p (.mv 8 (.c (.int .i64 1))) .unit])
 (.seq (.reg none [.p (.load 36 (.t 5) 4 true) .unit,
  .p (.mv 37 (.t 8)) .unit,
  .p (.callB 38 n_laws_heldWord [((.t 36), 0), ((.t 37), 0)]) .unit,
  .p (.mv 8 (.t 38)) .unit])
 (.seq (.seq (.reg none [.p (.mv 39 (.t 8)) .unit,
  .p (.bin 40 false .lss (.t 39) (.c (.int .i64 0))) .unit])
 (.cond (.t 40) (.seq (.reg none [.p (.mv 2 (.c (.bool false))) .unit])
 .ret) .skip))
 (.seq (.seq (.reg none [.p (.mv 41 (.t 8)) .unit,
  .p (.mv 42 (.t 7)) .unit,
  .p (.bin 43 false .neq (.t 41) (.t 42)) .unit])
 (.cond (.t 43) (.seq (.reg none [.p (.mv 2 (.c (.bool false))) .unit])
 .ret) .skip))
 (.seq (.reg none [.p (.mv 45 (.t 0)) .unit,
  .p (.callB 46 n_impl_ReadWord [((.t 45), 0)]) .unit,
  .p (.mvT 44 46) .unit,
  .p (.extT 47 44 0) .unit,
  .p (.ext 48 (.t 44) 1) .unit,
  .p (.alloc 9 [(.lit (.int .i64 0)), (.lit (.string (ba []))), (.sl true 1 []), (.lit (.string (ba [])))]) .unit,
  .p (.storeT (.t 9) 47 4) .unit,
  .p (.mv 10 (.t 48)) .unit])
 (.seq (.seq (.join ⟨[(5, false), (7, false), (57, false)], [.box (.pair (.int .i64) (.pair .str (.pair (.sl true .str) .str))), .cell (.int .i64), .cell .bool]⟩ (.reg none [.p (.load 49 (.t 9) 4 true) .unit,
  .p (.load 50 (.t 3) 4 true) .unit,
  .p (.callB 51 n_laws_eqWord [((.t 49), 0), ((.t 50), 0)]) .unit,
  .p (.un 52 .not (.t 51)) .unit,
  .p (.mv 53 (.t 52)) .unit,
  .g 53 false (some 54) (.mv 54 (.t 10)) .unit,
  .g 53 false (some 55) (.mv 55 (.t 4)) .unit,
  .g 53 false (some 56) (.bin 56 true .neq (.t 54) (.t 55)) .unit,
  .p (.pick 57 (.t 53) (.c (.bool true)) (.t 56)) .unit]))
 (.cond (.t 57) (.seq (.reg none [.p (.mv 2 (.c (.bool false))) .unit])
 .ret) .skip))
 (.seq (.reg none [.p (.mv 8 (.c (.int .i64 1))) .unit])
 (.seq (.reg none [.p (.load 58 (.t 5) 4 true) .unit,
  .p (.mv 59 (.t 8)) .unit,
  .p (.callB 60 n_laws_heldWord [((.t 58), 0), ((.t 59), 0)]) .unit,
  .p (.mv 8 (.t 60)) .unit])
 (.seq (.seq (.reg none [.p (.mv 61 (.t 8)) .unit,
  .p (.bin 62 false .lss (.t 61) (.c (.int .i64 0))) .unit])
 (.cond (.t 62) (.seq (.reg none [.p (.mv 2 (.c (.bool false))) .unit])
 .ret) .skip))
 (.seq (.seq (.reg none [.p (.mv 63 (.t 8)) .unit,
  .p (.mv 64 (.t 7)) .unit,
  .p (.bin 65 false .neq (.t 63) (.t 64)) .unit])
 (.cond (.t 65) (.seq (.reg none [.p (.mv 2 (.c (.bool false))) .unit])
 .ret) .skip))
 (.seq (.reg none [.p (.mv 2 (.c (.bool true))) .unit])
 .ret)))))))))))))))))),
 66, 1, [.t 2]⟩
theorem m_laws_FnExactReadWord : mH Tryd.prog 3 [(3, 2, .t), (3, 3, .t), (3, 6, .t), (4, 2, .t), (4, 3, .t), (4, 6, .t), (8, 2, (.g 0 5)), (15, 2, .t), (15, 3, .t), (15, 6, .t)] = some (F_laws_FnExactReadWord.code.x, F_laws_FnExactReadWord.N, F_laws_FnExactReadWord.np, F_laws_FnExactReadWord.res) := by kernel_rfl
noncomputable def T_laws_FnExactReadWord : List UInt8 → Option (Bool) := evF [fn_spec_ReadWord, fn_impl_ReadWord, fn_laws_eqWord, fn_laws_markWord, fn_laws_heldWord] F_laws_FnExactReadWord [.cell .str] [] [.cell .bool] []
noncomputable def fn_laws_FnExactReadWord : TFn := ⟨3, [.cell .str], [], [.cell .bool], [], T_laws_FnExactReadWord⟩
theorem ok_laws_FnExactReadWord : FnOk Tryd.prog fn_laws_FnExactReadWord := evF_ok mixed (allOk_cons ok_spec_ReadWord (allOk_cons ok_impl_ReadWord (allOk_cons ok_laws_eqWord (allOk_cons ok_laws_markWord (allOk_cons ok_laws_heldWord allOk_nil))))) m_laws_FnExactReadWord (by decide)

end Xs
end Go.Proofs.YtkjpdhdmjjepfaaDoor
