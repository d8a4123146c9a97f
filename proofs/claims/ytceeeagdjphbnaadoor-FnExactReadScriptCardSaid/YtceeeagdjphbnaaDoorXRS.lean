/- The typed code of the functions, printed by program. -/
import Derived.Test.YtceeeagdjphbnaaDoorT7
import Derived.Test.YtceeeagdjphbnaaDoorProg
import Derived.KernelRfl


import Derived.Test.YtceeeagdjphbnaaDoorItoa

import Derived.Test.YtceeeagdjphbnaaDoorSplit
namespace Go.Proofs.YtceeeagdjphbnaaDoor
open Go Vm
namespace Xs
theorem mixed : Tryd.prog.follows .mixedOrders = true := by kernel_rfl
abbrev n_laws_FnExactReadScript : Nat := 3
abbrev n_spec_ReadScript : Nat := 4
abbrev n_impl_ReadScript : Nat := 5
abbrev n_laws_eqRingS : Nat := 6
abbrev n_laws_eqDeedS : Nat := 7
abbrev n_laws_markRingS : Nat := 8
abbrev n_laws_markDeedS : Nat := 9
abbrev n_laws_heldRingS : Nat := 10
abbrev n_laws_heldDeedS : Nat := 11
abbrev n_spec_l22Lines : Nat := 12
abbrev n_spec_PartsOf : Nat := 13
abbrev n_spec_l22Commas : Nat := 14
abbrev n_spec_RingsOk : Nat := 15
abbrev n_spec_l22Deed : Nat := 16
abbrev n_spec_DeedOk : Nat := 17
abbrev n_impl_scriptLines : Nat := 18
abbrev n_impl_PartsOf : Nat := 19
abbrev n___impl_script__addLine : Nat := 20
abbrev n_laws_eqRing : Nat := 21
abbrev n_laws_eqDeed : Nat := 22
abbrev n_laws_markIntS : Nat := 23
abbrev n_laws_markText : Nat := 24
abbrev n_laws_heldIntS : Nat := 25
abbrev n_spec_ReadDecimal : Nat := 26
abbrev n_spec_RingOk : Nat := 27
abbrev n_spec_l01In : Nat := 28
abbrev n_strings_Split : Nat := 29
abbrev n_strings_TrimSuffix : Nat := 30
abbrev n_impl_readRing : Nat := 31
abbrev n_impl_RingsOk : Nat := 32
abbrev n_impl_readDeed : Nat := 33
abbrev n_laws_eqIntS : Nat := 34
abbrev n_spec_Decimal : Nat := 35
abbrev n_internal_stringslite_TrimSuffix : Nat := 37
abbrev n_impl_ReadDecimal : Nat := 38
abbrev n_impl_RingOk : Nat := 39
abbrev n_impl_inRange : Nat := 40
abbrev n_impl_deedOf : Nat := 41
abbrev n_impl_DeedOk : Nat := 42
abbrev n_spec_l01Figure : Nat := 43
abbrev n_internal_stringslite_HasSuffix : Nat := 47
abbrev n_impl_Decimal : Nat := 48
abbrev n_impl_isDaemon : Nat := 49
abbrev n_impl_wordsOk : Nat := 50
abbrev n_strconv_Itoa : Nat := 55
abbrev n_impl_isLevel : Nat := 56
def B_spec_l22Lines_1 : TC := (.seq (.seq (.reg none [.p (.mv 7 (.t 5)) .unit,
  .p (.mv 8 (.t 0)) .unit,
  .p (.lenS 9 (.t 8)) .unit,
  .p (.bin 10 false .lss (.t 7) (.t 9)) .unit])
 (.cond (.t 10) .skip (.exit 0)))
 (.seq (.join ⟨[(0, true), (3, false), (4, false), (5, false)], [.cell .str, .cell (.sl true .str), .cell (.int .i64), .cell (.int .i64)]⟩ (.block 1 (.seq (.reg none [.p (.mv 13 (.t 0)) .unit,
  .p (.mv 14 (.t 5)) .unit,
  .p (.idx 15 (.t 13) (.t 14)) .unit,
  .p (.bin 16 false .eql (.t 15) (.c (.int .u8 10))) .unit])
 (.cond (.t 16) (.seq (.reg none [.p (.mvT 17 3) .unit,
  .p (.mv 18 (.t 0)) .unit,
  .p (.mv 19 (.t 4)) .unit,
  .p (.mv 20 (.t 5)) .unit,
  .p (.slcS 21 (.t 18) (some (.t 19)) (some (.t 20))) .unit,
  .p (.bldS 22 1 [(.lit (.string (ba [])))] [⟨0, 1, (.t 21)⟩]) .str,
  .p (.app 23 1 16 (.t 17) (.t 22)) .str,
  .p (.mvT 3 23) .unit])
 (.reg none [.p (.mv 24 (.t 5)) .unit,
  .p (.bin 25 false .add (.t 24) (.c (.int .i64 1))) .unit,
  .p (.mv 4 (.t 25)) .unit])) .skip))))
 (.reg none [.p (.mv 11 (.t 5)) .unit,
  .p (.bin 12 false .add (.t 11) (.c (.int .i64 1))) .unit,
  .p (.mv 5 (.t 12)) .unit])))
noncomputable def L_spec_l22Lines_1 : Nat → (List UInt8) × (List (List UInt8)) × (Int) × Int → Option (((List UInt8) × (List (List UInt8)) × Int) ⊕ (List (List UInt8))) := evL [] (finT [.t 2] [] [.cell (.sl true .str)]) 0 ⟨[(0, true), (3, false), (4, false), (5, false)], [.cell .str, .cell (.sl true .str), .cell (.int .i64), .cell (.int .i64)]⟩ ⟨[(0, true), (3, false), (4, false)], [.cell .str, .cell (.sl true .str), .cell (.int .i64)]⟩ B_spec_l22Lines_1
def F_spec_l22Lines : TF := ⟨(.seq (.reg none [.p (.mvN 2 1) .unit])
 (.seq (.reg none [.p (.bldS 6 0 [(.lit (.string (ba [])))] []) .str,
  .p (.mvT 3 6) .unit])
 (.seq (.reg none [.p (.mv 4 (.c (.int .i64 0))) .unit])
 (.seq (.seq (.reg none [.p (.mv 5 (.c (.int .i64 0))) .unit])
 (.jl 0 ⟨[(0, true), (3, false), (4, false), (5, false)], [.cell .str, .cell (.sl true .str), .cell (.int .i64), .cell (.int .i64)]⟩ ⟨[(0, true), (3, false), (4, false)], [.cell .str, .cell (.sl true .str), .cell (.int .i64)]⟩ B_spec_l22Lines_1))
 (.seq (.join ⟨[(3, false)], [.cell (.sl true .str)]⟩ (.seq (.reg none [.p (.mv 26 (.t 4)) .unit,
  .p (.mv 27 (.t 0)) .unit,
  .p (.lenS 28 (.t 27)) .unit,
  .p (.bin 29 false .lss (.t 26) (.t 28)) .unit])
 (.cond (.t 29) (.reg none [.p (.mvT 30 3) .unit,
  .p (.mv 31 (.t 0)) .unit,
  .p (.mv 32 (.t 4)) .unit,
  .p (.slcS 33 (.t 31) (some (.t 32)) none) .unit,
  .p (.bldS 34 1 [(.lit (.string (ba [])))] [⟨0, 1, (.t 33)⟩]) .str,
  .p (.app 35 1 16 (.t 30) (.t 34)) .str,
  .p (.mvT 3 35) .unit]) .skip)))
 (.seq (.reg none [.p (.mvT 36 3) .unit,
  .p (.mvT 2 36) .unit])
 .ret)))))),
 37, 1, [.t 2]⟩
theorem m_spec_l22Lines : mH Tryd.prog 12 [(1, 1, .t), (7, 0, .t), (7, 7, .t), (10, 0, .t), (10, 6, .t), (11, 0, .t), (11, 1, .t)] = some (F_spec_l22Lines.code.x, F_spec_l22Lines.N, F_spec_l22Lines.np, F_spec_l22Lines.res) := by kernel_rfl
noncomputable def T_spec_l22Lines : List UInt8 → Option (List (List UInt8)) := evF [] F_spec_l22Lines [.cell .str] [] [.cell (.sl true .str)] []
noncomputable def fn_spec_l22Lines : TFn := ⟨12, [.cell .str], [], [.cell (.sl true .str)], [], T_spec_l22Lines⟩
theorem ok_spec_l22Lines : FnOk Tryd.prog fn_spec_l22Lines := evF_ok mixed allOk_nil m_spec_l22Lines (by decide)
def B_spec_PartsOf_1 : TC := (.seq (.seq (.reg none [.p (.mv 12 (.t 6)) .unit,
  .p (.mv 13 (.t 0)) .unit,
  .p (.lenS 14 (.t 13)) .unit,
  .p (.bin 15 false .leq (.t 12) (.t 14)) .unit])
 (.cond (.t 15) .skip (.exit 0)))
 (.seq (.join ⟨[(0, true), (4, false), (5, false), (6, false)], [.cell .str, .cell (.sl true .str), .cell (.int .i64), .cell (.int .i64)]⟩ (.block 1 (.seq (.seq (.join ⟨[(0, true), (4, false), (5, false), (6, false), (33, false)], [.cell .str, .cell (.sl true .str), .cell (.int .i64), .cell (.int .i64), .cell .bool]⟩ (.reg none [.p (.mv 18 (.t 6)) .unit,
  .p (.mv 19 (.t 0)) .unit,
  .p (.lenS 20 (.t 19)) .unit,
  .p (.bin 21 false .lss (.t 18) (.t 20)) .unit,
  .p (.mv 22 (.t 21)) .unit,
  .g 22 true (some 23) (.mv 23 (.t 0)) .unit,
  .g 22 true (some 24) (.mv 24 (.t 6)) .unit,
  .g 22 true (some 25) (.idx 25 (.t 23) (.t 24)) .unit,
  .g 22 true (some 26) (.bin 26 false .lss (.t 25) (.c (.int .u8 32))) .unit,
  .g 22 true (some 27) (.mv 27 (.t 26)) .unit,
  .g 27 false (some 28) (.mv 28 (.t 0)) .unit,
  .g 27 false (some 29) (.mv 29 (.t 6)) .unit,
  .g 27 false (some 30) (.idx 30 (.t 28) (.t 29)) .unit,
  .g 27 false (some 31) (.bin 31 false .gtr (.t 30) (.c (.int .u8 126))) .unit,
  .g 22 true (some 32) (.pick 32 (.t 27) (.c (.bool true)) (.t 31)) .unit,
  .p (.pick 33 (.t 22) (.t 32) (.c (.bool false))) .unit]))
 (.cond (.t 33) (.seq (.reg none [.p (.bldS 34 0 [(.lit (.string (ba [])))] []) .str,
  .p (.mvT 2 34) .unit,
  .p (.mv 3 (.c (.bool false))) .unit])
 .ret) .skip))
 (.seq (.seq (.join ⟨[(0, true), (4, false), (5, false), (6, false), (44, false)], [.cell .str, .cell (.sl true .str), .cell (.int .i64), .cell (.int .i64), .cell .bool]⟩ (.reg none [.p (.mv 35 (.t 6)) .unit,
  .p (.mv 36 (.t 0)) .unit,
  .p (.lenS 37 (.t 36)) .unit,
  .p (.bin 38 false .lss (.t 35) (.t 37)) .unit,
  .p (.mv 39 (.t 38)) .unit,
  .g 39 true (some 40) (.mv 40 (.t 0)) .unit,
  .g 39 true (some 41) (.mv 41 (.t 6)) .unit,
  .g 39 true (some 42) (.idx 42 (.t 40) (.t 41)) .unit,
  .g 39 true (some 43) (.bin 43 false .neq (.t 42) (.c (.int .u8 32))) .unit,
  .p (.pick 44 (.t 39) (.t 43) (.c (.bool false))) .unit]))
 (.cond (.t 44) (.exit 1) .skip))
 (.seq (.join ⟨[(0, true), (4, false), (6, false)], [.cell .str, .cell (.sl true .str), .cell (.int .i64)]⟩ (.seq (.reg none [.p (.mv 45 (.t 5)) .unit,
  .p (.mv 46 (.t 6)) .unit,
  .p (.bin 47 false .lss (.t 45) (.t 46)) .unit])
 (.cond (.t 47) (.reg none [.p (.mvT 48 4) .unit,
  .p (.mv 49 (.t 0)) .unit,
  .p (.mv 50 (.t 5)) .unit,
  .p (.mv 51 (.t 6)) .unit,
  .p (.slcS 52 (.t 49) (some (.t 50)) (some (.t 51))) .unit,
  .p (.bldS 53 1 [(.lit (.string (ba [])))] [⟨0, 1, (.t 52)⟩]) .str,
  .p (.app 54 1 16 (.t 48) (.t 53)) .str,
  .p (.mvT 4 54) .unit]) .skip)))
 (.reg none [.p (.mv 55 (.t 6)) .unit,
  .p (.bin 56 false .add (.t 55) (.c (.int .i64 1))) .unit,
  .p (.mv 5 (.t 56)) .unit]))))))
 (.reg none [.p (.mv 16 (.t 6)) .unit,
  .p (.bin 17 false .add (.t 16) (.c (.int .i64 1))) .unit,
  .p (.mv 6 (.t 17)) .unit])))
noncomputable def L_spec_PartsOf_1 : Nat → (List UInt8) × (List (List UInt8)) × (Int) × Int → Option ((List (List UInt8)) ⊕ ((List (List UInt8)) × Bool)) := evL [] (finT [.t 2, .t 3] [] [.cell (.sl true .str), .cell .bool]) 0 ⟨[(0, true), (4, false), (5, false), (6, false)], [.cell .str, .cell (.sl true .str), .cell (.int .i64), .cell (.int .i64)]⟩ ⟨[(4, false)], [.cell (.sl true .str)]⟩ B_spec_PartsOf_1
def F_spec_PartsOf : TF := ⟨(.seq (.reg none [.p (.mvN 2 1) .unit,
  .p (.mv 3 (.c (.bool false))) .unit])
 (.seq (.reg none [.p (.bldS 7 0 [(.lit (.string (ba [])))] []) .str,
  .p (.mvT 4 7) .unit])
 (.seq (.seq (.reg none [.p (.mv 8 (.t 0)) .unit,
  .p (.lenS 9 (.t 8)) .unit,
  .p (.bin 10 false .gtr (.t 9) (.c (.int .i64 600))) .unit])
 (.cond (.t 10) (.seq (.reg none [.p (.mvT 11 4) .unit,
  .p (.mvT 2 11) .unit,
  .p (.mv 3 (.c (.bool false))) .unit])
 .ret) .skip))
 (.seq (.reg none [.p (.mv 5 (.c (.int .i64 0))) .unit])
 (.seq (.seq (.reg none [.p (.mv 6 (.c (.int .i64 0))) .unit])
 (.jl 0 ⟨[(0, true), (4, false), (5, false), (6, false)], [.cell .str, .cell (.sl true .str), .cell (.int .i64), .cell (.int .i64)]⟩ ⟨[(4, false)], [.cell (.sl true .str)]⟩ B_spec_PartsOf_1))
 (.seq (.seq (.reg none [.p (.mvA 57 4) .unit,
  .p (.lenB 58 (.t 57)) .unit,
  .p (.bin 59 false .gtr (.t 58) (.c (.int .i64 10))) .unit])
 (.cond (.t 59) (.seq (.reg none [.p (.bldS 60 0 [(.lit (.string (ba [])))] []) .str,
  .p (.mvT 2 60) .unit,
  .p (.mv 3 (.c (.bool false))) .unit])
 .ret) .skip))
 (.seq (.reg none [.p (.mvT 61 4) .unit,
  .p (.mvT 2 61) .unit,
  .p (.mv 3 (.c (.bool true))) .unit])
 .ret))))))),
 62, 1, [.t 2, .t 3]⟩
theorem m_spec_PartsOf : mH Tryd.prog 13 [(1, 1, .t), (3, 0, .t), (3, 1, .t), (9, 1, .t), (12, 0, .t), (12, 7, .t), (14, 0, .v), (15, 1, .t), (16, 0, .t), (16, 1, .t)] = some (F_spec_PartsOf.code.x, F_spec_PartsOf.N, F_spec_PartsOf.np, F_spec_PartsOf.res) := by kernel_rfl
noncomputable def T_spec_PartsOf : List UInt8 → Option ((List (List UInt8)) × Bool) := evF [] F_spec_PartsOf [.cell .str] [] [.cell (.sl true .str), .cell .bool] []
noncomputable def fn_spec_PartsOf : TFn := ⟨13, [.cell .str], [], [.cell (.sl true .str), .cell .bool], [], T_spec_PartsOf⟩
theorem ok_spec_PartsOf : FnOk Tryd.prog fn_spec_PartsOf := evF_ok mixed allOk_nil m_spec_PartsOf (by decide)
def F_spec_l01Figure : TF := ⟨(.seq (.reg none [.p (.mv 2 (.c (.int .u8 0))) .unit])
 (.seq (.seq (.reg none [.p (.mv 3 (.t 0)) .unit,
  .p (.bin 4 false .lss (.t 3) (.c (.int .i64 10))) .unit])
 (.cond (.t 4) (.seq (.reg none [.p (.mv 5 (.t 0)) .unit,
  .p (.bin 6 false .add (.c (.int .i64 48)) (.t 5)) .unit,
  .p (.cvi 7 .u8 .i64 (.t 6)) .unit,
  .p (.mv 2 (.t 7)) .unit])
 .ret) .skip))
 (.seq (.reg none [.p (.mv 8 (.t 0)) .unit,
  .p (.bin 9 false .add (.c (.int .i64 97)) (.t 8)) .unit,
  .p (.bin 10 false .sub (.t 9) (.c (.int .i64 10))) .unit,
  .p (.cvi 11 .u8 .i64 (.t 10)) .unit,
  .p (.mv 2 (.t 11)) .unit])
 .ret))),
 12, 1, [.t 2]⟩
theorem m_spec_l01Figure : mH Tryd.prog 43 [] = some (F_spec_l01Figure.code.x, F_spec_l01Figure.N, F_spec_l01Figure.np, F_spec_l01Figure.res) := by kernel_rfl
noncomputable def T_spec_l01Figure : Int → Option (Int) := evF [] F_spec_l01Figure [.cell (.int .i64)] [] [.cell (.int .u8)] []
noncomputable def fn_spec_l01Figure : TFn := ⟨43, [.cell (.int .i64)], [], [.cell (.int .u8)], [], T_spec_l01Figure⟩
theorem ok_spec_l01Figure : FnOk Tryd.prog fn_spec_l01Figure := evF_ok mixed allOk_nil m_spec_l01Figure (by decide)
def B_spec_Decimal_1 : TC := (.seq (.seq (.reg none [.p (.mv 10 (.t 0)) .unit,
  .p (.bin 11 false .neq (.t 10) (.c (.int .i64 0))) .unit])
 (.cond (.t 11) .skip (.exit 0)))
 (.block 1 (.seq (.reg none [.p (.mv 12 (.t 0)) .unit,
  .p (.bin 13 false .rem (.t 12) (.c (.int .i64 10))) .unit,
  .p (.mv 5 (.t 13)) .unit])
 (.seq (.join ⟨[(0, false), (3, false), (4, false), (5, false)], [.cell (.int .i64), .cell .bool, .cell .str, .cell (.int .i64)]⟩ (.seq (.reg none [.p (.mv 14 (.t 5)) .unit,
  .p (.bin 15 false .lss (.t 14) (.c (.int .i64 0))) .unit])
 (.cond (.t 15) (.reg none [.p (.mv 16 (.t 5)) .unit,
  .p (.un 17 .neg (.t 16)) .unit,
  .p (.mv 5 (.t 17)) .unit]) .skip)))
 (.seq (.reg none [.p (.mv 18 (.t 5)) .unit,
  .p (.callB 19 n_spec_l01Figure [((.t 18), 0)]) .unit,
  .p (.bldS 20 1 [(.lit (.int .u8 0))] [⟨0, 1, (.t 19)⟩]) (.int .u8),
  .p (.b2s 21 (.t 20)) .unit,
  .p (.mv 22 (.t 4)) .unit,
  .p (.bin 23 false .add (.t 21) (.t 22)) .unit,
  .p (.mv 4 (.t 23)) .unit])
 (.reg none [.p (.mv 24 (.t 0)) .unit,
  .p (.bin 25 false .quo (.t 24) (.c (.int .i64 10))) .unit,
  .p (.mv 0 (.t 25)) .unit]))))))
noncomputable def L_spec_Decimal_1 : Nat → (Int) × (Bool) × List UInt8 → Option (((Bool) × List UInt8) ⊕ (List UInt8)) := evL [fn_spec_l01Figure] (finT [.t 2] [] [.cell .str]) 0 ⟨[(0, false), (3, false), (4, false)], [.cell (.int .i64), .cell .bool, .cell .str]⟩ ⟨[(3, false), (4, false)], [.cell .bool, .cell .str]⟩ B_spec_Decimal_1
def F_spec_Decimal : TF := ⟨(.seq (.reg none [.p (.mv 2 (.c (.string (ba [])))) .unit])
 (.seq (.seq (.reg none [.p (.mv 6 (.t 0)) .unit,
  .p (.bin 7 false .eql (.t 6) (.c (.int .i64 0))) .unit])
 (.cond (.t 7) (.seq (.reg none [.p (.mv 2 (.c (.string (ba [48])))) .unit])
 .ret) .skip))
 (.seq (.reg none [.p (.mv 8 (.t 0)) .unit,
  .p (.bin 9 false .lss (.t 8) (.c (.int .i64 0))) .unit,
  .p (.mv 3 (.t 9)) .unit])
 (.seq (.reg none [.p (.mv 4 (.c (.string (ba [])))) .unit])
 (.seq (.jl 0 ⟨[(0, false), (3, false), (4, false)], [.cell (.int .i64), .cell .bool, .cell .str]⟩ ⟨[(3, false), (4, false)], [.cell .bool, .cell .str]⟩ B_spec_Decimal_1)
 (.seq (.seq (.reg none [.p (.mv 26 (.t 3)) .unit])
 (.cond (.t 26) (.seq (.reg none [.p (.mv 27 (.t 4)) .unit,
  .p (.bin 28 false .add (.c (.string (ba [45]))) (.t 27)) .unit,
  .p (.mv 2 (.t 28)) .unit])
 .ret) .skip))
 (.seq (.reg none [.p (.mv 29 (.t 4)) .unit,
  .p (.mv 2 (.t 29)) .unit])
 .ret))))))),
 30, 1, [.t 2]⟩
theorem m_spec_Decimal : mH Tryd.prog 35 [] = some (F_spec_Decimal.code.x, F_spec_Decimal.N, F_spec_Decimal.np, F_spec_Decimal.res) := by kernel_rfl
noncomputable def T_spec_Decimal : Int → Option (List UInt8) := evF [fn_spec_l01Figure] F_spec_Decimal [.cell (.int .i64)] [] [.cell .str] []
noncomputable def fn_spec_Decimal : TFn := ⟨35, [.cell (.int .i64)], [], [.cell .str], [], T_spec_Decimal⟩
theorem ok_spec_Decimal : FnOk Tryd.prog fn_spec_Decimal := evF_ok mixed (allOk_cons ok_spec_l01Figure allOk_nil) m_spec_Decimal (by decide)
def B_spec_ReadDecimal_1 : TC := (.seq (.seq (.reg none [.p (.mv 9 (.t 5)) .unit,
  .p (.mv 10 (.t 0)) .unit,
  .p (.lenS 11 (.t 10)) .unit,
  .p (.bin 12 false .lss (.t 9) (.t 11)) .unit])
 (.cond (.t 12) .skip (.exit 0)))
 (.seq (.block 1 (.seq (.seq (.join ⟨[(0, true), (4, false), (5, false), (24, false)], [.cell .str, .cell (.int .i64), .cell (.int .i64), .cell .bool]⟩ (.reg none [.p (.mv 15 (.t 0)) .unit,
  .p (.mv 16 (.t 5)) .unit,
  .p (.idx 17 (.t 15) (.t 16)) .unit,
  .p (.bin 18 false .lss (.t 17) (.c (.int .u8 48))) .unit,
  .p (.mv 19 (.t 18)) .unit,
  .g 19 false (some 20) (.mv 20 (.t 0)) .unit,
  .g 19 false (some 21) (.mv 21 (.t 5)) .unit,
  .g 19 false (some 22) (.idx 22 (.t 20) (.t 21)) .unit,
  .g 19 false (some 23) (.bin 23 false .gtr (.t 22) (.c (.int .u8 57))) .unit,
  .p (.pick 24 (.t 19) (.c (.bool true)) (.t 23)) .unit]))
 (.cond (.t 24) (.seq (.reg none [.p (.mv 2 (.c (.int .i64 0))) .unit,
  .p (.mv 3 (.c (.bool false))) .unit])
 .ret) .skip))
 (.reg none [.p (.mv 25 (.t 4)) .unit,
  .p (.bin 26 false .mul (.c (.int .i64 10)) (.t 25)) .unit,
  .p (.mv 27 (.t 0)) .unit,
  .p (.mv 28 (.t 5)) .unit,
  .p (.idx 29 (.t 27) (.t 28)) .unit,
  .p (.cvi 30 .i64 .u8 (.t 29)) .unit,
  .p (.bin 31 false .add (.t 26) (.t 30)) .unit,
  .p (.bin 32 false .sub (.t 31) (.c (.int .i64 48))) .unit,
  .p (.mv 4 (.t 32)) .unit])))
 (.reg none [.p (.mv 13 (.t 5)) .unit,
  .p (.bin 14 false .add (.t 13) (.c (.int .i64 1))) .unit,
  .p (.mv 5 (.t 14)) .unit])))
noncomputable def L_spec_ReadDecimal_1 : Nat → (List UInt8) × (Int) × Int → Option (((List UInt8) × Int) ⊕ ((Int) × Bool)) := evL [fn_spec_Decimal] (finT [.t 2, .t 3] [] [.cell (.int .i64), .cell .bool]) 0 ⟨[(0, true), (4, false), (5, false)], [.cell .str, .cell (.int .i64), .cell (.int .i64)]⟩ ⟨[(0, true), (4, false)], [.cell .str, .cell (.int .i64)]⟩ B_spec_ReadDecimal_1
def F_spec_ReadDecimal : TF := ⟨(.seq (.reg none [.p (.mv 2 (.c (.int .i64 0))) .unit,
  .p (.mv 3 (.c (.bool false))) .unit])
 (.seq (.seq (.reg none [.p (.mv 6 (.t 0)) .unit,
  .p (.lenS 7 (.t 6)) .unit,
  .p (.bin 8 false .gtr (.t 7) (.c (.int .i64 10))) .unit])
 (.cond (.t 8) (.seq (.reg none [.p (.mv 2 (.c (.int .i64 0))) .unit,
  .p (.mv 3 (.c (.bool false))) .unit])
 .ret) .skip))
 (.seq (.reg none [.p (.mv 4 (.c (.int .i64 0))) .unit])
 (.seq (.seq (.reg none [.p (.mv 5 (.c (.int .i64 0))) .unit])
 (.jl 0 ⟨[(0, true), (4, false), (5, false)], [.cell .str, .cell (.int .i64), .cell (.int .i64)]⟩ ⟨[(0, true), (4, false)], [.cell .str, .cell (.int .i64)]⟩ B_spec_ReadDecimal_1))
 (.seq (.seq (.join ⟨[(4, false), (40, false)], [.cell (.int .i64), .cell .bool]⟩ (.reg none [.p (.mv 33 (.t 4)) .unit,
  .p (.bin 34 false .gtr (.t 33) (.c (.int .i64 1000000000))) .unit,
  .p (.mv 35 (.t 34)) .unit,
  .g 35 false (some 36) (.mv 36 (.t 4)) .unit,
  .g 35 false (some 37) (.callB 37 n_spec_Decimal [((.t 36), 0)]) .unit,
  .g 35 false (some 38) (.mv 38 (.t 0)) .unit,
  .g 35 false (some 39) (.bin 39 false .neq (.t 37) (.t 38)) .unit,
  .p (.pick 40 (.t 35) (.c (.bool true)) (.t 39)) .unit]))
 (.cond (.t 40) (.seq (.reg none [.p (.mv 2 (.c (.int .i64 0))) .unit,
  .p (.mv 3 (.c (.bool false))) .unit])
 .ret) .skip))
 (.seq (.reg none [.p (.mv 41 (.t 4)) .unit,
  .p (.mv 2 (.t 41)) .unit,
  .p (.mv 3 (.c (.bool true))) .unit])
 .ret)))))),
 42, 1, [.t 2, .t 3]⟩
theorem m_spec_ReadDecimal : mH Tryd.prog 26 [] = some (F_spec_ReadDecimal.code.x, F_spec_ReadDecimal.N, F_spec_ReadDecimal.np, F_spec_ReadDecimal.res) := by kernel_rfl
noncomputable def T_spec_ReadDecimal : List UInt8 → Option ((Int) × Bool) := evF [fn_spec_Decimal] F_spec_ReadDecimal [.cell .str] [] [.cell (.int .i64), .cell .bool] []
noncomputable def fn_spec_ReadDecimal : TFn := ⟨26, [.cell .str], [], [.cell (.int .i64), .cell .bool], [], T_spec_ReadDecimal⟩
theorem ok_spec_ReadDecimal : FnOk Tryd.prog fn_spec_ReadDecimal := evF_ok mixed (allOk_cons ok_spec_Decimal allOk_nil) m_spec_ReadDecimal (by decide)
def B_spec_l22Commas_1 : TC := (.seq (.seq (.reg none [.p (.mv 10 (.t 6)) .unit,
  .p (.mv 11 (.t 0)) .unit,
  .p (.lenS 12 (.t 11)) .unit,
  .p (.bin 13 false .leq (.t 10) (.t 12)) .unit])
 (.cond (.t 13) .skip (.exit 0)))
 (.seq (.join ⟨[(0, true), (4, false), (5, false), (6, false)], [.cell .str, .cell (.sl true (.int .i64)), .cell (.int .i64), .cell (.int .i64)]⟩ (.block 1 (.seq (.seq (.join ⟨[(0, true), (4, false), (5, false), (6, false), (25, false)], [.cell .str, .cell (.sl true (.int .i64)), .cell (.int .i64), .cell (.int .i64), .cell .bool]⟩ (.reg none [.p (.mv 16 (.t 6)) .unit,
  .p (.mv 17 (.t 0)) .unit,
  .p (.lenS 18 (.t 17)) .unit,
  .p (.bin 19 false .lss (.t 16) (.t 18)) .unit,
  .p (.mv 20 (.t 19)) .unit,
  .g 20 true (some 21) (.mv 21 (.t 0)) .unit,
  .g 20 true (some 22) (.mv 22 (.t 6)) .unit,
  .g 20 true (some 23) (.idx 23 (.t 21) (.t 22)) .unit,
  .g 20 true (some 24) (.bin 24 false .neq (.t 23) (.c (.int .u8 44))) .unit,
  .p (.pick 25 (.t 20) (.t 24) (.c (.bool false))) .unit]))
 (.cond (.t 25) (.exit 1) .skip))
 (.seq (.reg none [.p (.mv 27 (.t 0)) .unit,
  .p (.mv 28 (.t 5)) .unit,
  .p (.mv 29 (.t 6)) .unit,
  .p (.slcS 30 (.t 27) (some (.t 28)) (some (.t 29))) .unit,
  .p (.callB 31 n_spec_ReadDecimal [((.t 30), 0)]) .unit,
  .p (.mv 26 (.t 31)) .unit,
  .p (.ext 32 (.t 26) 0) .unit,
  .p (.ext 33 (.t 26) 1) .unit,
  .p (.mv 7 (.t 32)) .unit,
  .p (.mv 8 (.t 33)) .unit])
 (.seq (.seq (.reg none [.p (.mv 34 (.t 8)) .unit,
  .p (.un 35 .not (.t 34)) .unit])
 (.cond (.t 35) (.seq (.reg none [.p (.bldS 36 0 [(.lit (.int .i64 0))] []) (.int .i64),
  .p (.mvT 2 36) .unit,
  .p (.mv 3 (.c (.bool false))) .unit])
 .ret) .skip))
 (.seq (.reg none [.p (.mvT 37 4) .unit,
  .p (.mv 38 (.t 7)) .unit,
  .p (.bldS 39 1 [(.lit (.int .i64 0))] [⟨0, 1, (.t 38)⟩]) (.int .i64),
  .p (.app 40 1 8 (.t 37) (.t 39)) (.int .i64),
  .p (.mvT 4 40) .unit])
 (.reg none [.p (.mv 41 (.t 6)) .unit,
  .p (.bin 42 false .add (.t 41) (.c (.int .i64 1))) .unit,
  .p (.mv 5 (.t 42)) .unit])))))))
 (.reg none [.p (.mv 14 (.t 6)) .unit,
  .p (.bin 15 false .add (.t 14) (.c (.int .i64 1))) .unit,
  .p (.mv 6 (.t 15)) .unit])))
noncomputable def L_spec_l22Commas_1 : Nat → (List UInt8) × (List (Int)) × (Int) × Int → Option ((List (Int)) ⊕ ((List (Int)) × Bool)) := evL [fn_spec_ReadDecimal] (finT [.t 2, .t 3] [] [.cell (.sl true (.int .i64)), .cell .bool]) 0 ⟨[(0, true), (4, false), (5, false), (6, false)], [.cell .str, .cell (.sl true (.int .i64)), .cell (.int .i64), .cell (.int .i64)]⟩ ⟨[(4, false)], [.cell (.sl true (.int .i64))]⟩ B_spec_l22Commas_1
def F_spec_l22Commas : TF := ⟨(.seq (.reg none [.p (.mvN 2 1) .unit,
  .p (.mv 3 (.c (.bool false))) .unit])
 (.seq (.reg none [.p (.bldS 9 0 [(.lit (.int .i64 0))] []) (.int .i64),
  .p (.mvT 4 9) .unit])
 (.seq (.reg none [.p (.mv 5 (.c (.int .i64 0))) .unit])
 (.seq (.seq (.reg none [.p (.mv 6 (.c (.int .i64 0))) .unit])
 (.jl 0 ⟨[(0, true), (4, false), (5, false), (6, false)], [.cell .str, .cell (.sl true (.int .i64)), .cell (.int .i64), .cell (.int .i64)]⟩ ⟨[(4, false)], [.cell (.sl true (.int .i64))]⟩ B_spec_l22Commas_1))
 (.seq (.reg none [.p (.mvT 43 4) .unit,
  .p (.mvT 2 43) .unit,
  .p (.mv 3 (.c (.bool true))) .unit])
 .ret))))),
 44, 1, [.t 2, .t 3]⟩
theorem m_spec_l22Commas : mH Tryd.prog 14 [(1, 1, .t), (9, 1, .t), (10, 0, .t), (10, 4, .t), (12, 0, .t), (12, 1, .t)] = some (F_spec_l22Commas.code.x, F_spec_l22Commas.N, F_spec_l22Commas.np, F_spec_l22Commas.res) := by kernel_rfl
noncomputable def T_spec_l22Commas : List UInt8 → Option ((List (Int)) × Bool) := evF [fn_spec_ReadDecimal] F_spec_l22Commas [.cell .str] [] [.cell (.sl true (.int .i64)), .cell .bool] []
noncomputable def fn_spec_l22Commas : TFn := ⟨14, [.cell .str], [], [.cell (.sl true (.int .i64)), .cell .bool], [], T_spec_l22Commas⟩
theorem ok_spec_l22Commas : FnOk Tryd.prog fn_spec_l22Commas := evF_ok mixed (allOk_cons ok_spec_ReadDecimal allOk_nil) m_spec_l22Commas (by decide)
def F_spec_l01In : TF := ⟨(.seq (.reg none [.p (.mv 6 (.c (.bool false))) .unit])
 (.seq (.reg none [.p (.mv 7 (.t 0)) .unit,
  .p (.mv 8 (.t 1)) .unit,
  .p (.bin 9 false .geq (.t 7) (.t 8)) .unit,
  .p (.mv 10 (.t 9)) .unit,
  .g 10 true (some 11) (.mv 11 (.t 0)) .unit,
  .g 10 true (some 12) (.mv 12 (.t 2)) .unit,
  .g 10 true (some 13) (.bin 13 false .leq (.t 11) (.t 12)) .unit,
  .p (.pick 14 (.t 10) (.t 13) (.c (.bool false))) .unit,
  .p (.mv 6 (.t 14)) .unit])
 .ret)),
 15, 3, [.t 6]⟩
theorem m_spec_l01In : mH Tryd.prog 28 [] = some (F_spec_l01In.code.x, F_spec_l01In.N, F_spec_l01In.np, F_spec_l01In.res) := by kernel_rfl
noncomputable def T_spec_l01In : (Int) × (Int) × Int → Option (Bool) := evF [] F_spec_l01In [.cell (.int .i64), .cell (.int .i64), .cell (.int .i64)] [] [.cell .bool] []
noncomputable def fn_spec_l01In : TFn := ⟨28, [.cell (.int .i64), .cell (.int .i64), .cell (.int .i64)], [], [.cell .bool], [], T_spec_l01In⟩
theorem ok_spec_l01In : FnOk Tryd.prog fn_spec_l01In := evF_ok mixed allOk_nil m_spec_l01In (by decide)
def B_spec_RingOk_1 : TC := (.seq (.seq (.reg none [.p (.mv 15 (.t 3)) .unit,
  .p (.fadr 16 (.t 1) 1) .unit,
  .p (.load 17 (.t 16) 1 false) .unit,
  .p (.lenB 18 (.t 17)) .unit,
  .p (.bin 19 false .lss (.t 15) (.t 18)) .unit])
 (.cond (.t 19) .skip (.exit 0)))
 (.seq (.block 1 (.seq (.join ⟨[(1, false), (3, false), (46, false)], [.box (.pair (.int .i64) (.sl false (.int .i64))), .cell (.int .i64), .cell .bool]⟩ (.reg (some [[], [0], [], [1, 2], [3], [4], [5], [6, 5], [7], [8, 7], [9, 7, 7], [10], [11, 10], [10], [13, 10], [12, 14, 10], [15, 10], [10], [17, 10], [10], [18, 19, 10], [20, 10], [16, 21, 10], [10, 22, 7], [7, 23]]) [.p (.fadr 22 (.t 1) 1) .unit,
  .p (.load 23 (.t 22) 1 false) .unit,
  .p (.mv 24 (.t 3)) .unit,
  .p (.iadr 25 1 (.t 23) (.t 24)) .unit,
  .p (.load 26 (.t 25) 1 false) .unit,
  .p (.callB 27 n_spec_l01In [((.t 26), 0), ((.c (.int .i64 1)), 0), ((.c (.int .i64 5)), 0)]) .unit,
  .p (.un 28 .not (.t 27)) .unit,
  .p (.mv 29 (.t 28)) .unit,
  .g 29 false (some 30) (.mv 30 (.t 3)) .unit,
  .g 29 false (some 31) (.bin 31 false .gtr (.t 30) (.c (.int .i64 0))) .unit,
  .g 29 false (some 32) (.mv 32 (.t 31)) .unit,
  .g 32 true (some 33) (.fadr 33 (.t 1) 1) .unit,
  .g 32 true (some 34) (.load 34 (.t 33) 1 false) .unit,
  .g 32 true (some 35) (.mv 35 (.t 3)) .unit,
  .g 32 true (some 36) (.bin 36 false .sub (.t 35) (.c (.int .i64 1))) .unit,
  .g 32 true (some 37) (.iadr 37 1 (.t 34) (.t 36)) .unit,
  .g 32 true (some 38) (.load 38 (.t 37) 1 false) .unit,
  .g 32 true (some 39) (.fadr 39 (.t 1) 1) .unit,
  .g 32 true (some 40) (.load 40 (.t 39) 1 false) .unit,
  .g 32 true (some 41) (.mv 41 (.t 3)) .unit,
  .g 32 true (some 42) (.iadr 42 1 (.t 40) (.t 41)) .unit,
  .g 32 true (some 43) (.load 43 (.t 42) 1 false) .unit,
  .g 32 true (some 44) (.bin 44 false .geq (.t 38) (.t 43)) .unit,
  .g 29 false (some 45) (.pick 45 (.t 32) (.t 44) (.c (.bool false))) .unit,
  .p (.pick 46 (.t 29) (.c (.bool true)) (.t 45)) .unit]))
 (.cond (.t 46) (.seq (.reg none [.p (.mv 2 (.c (.bool false))) .unit])
 .ret) .skip)))
 (.reg none [.p (.mv 20 (.t 3)) .unit,
  .p (.bin 21 false .add (.t 20) (.c (.int .i64 1))) .unit,
  .p (.mv 3 (.t 21)) .unit])))
noncomputable def L_spec_RingOk_1 : Nat → (Int × List (Int)) × Int → Option ((Unit) ⊕ (Bool)) := evL [fn_spec_l01In] (finT [.t 2] [] [.cell .bool]) 0 ⟨[(1, false), (3, false)], [.box (.pair (.int .i64) (.sl false (.int .i64))), .cell (.int .i64)]⟩ ⟨[], []⟩ B_spec_RingOk_1
def F_spec_RingOk : TF := ⟨(.seq (.reg none [.p (.box 1 (.t 0)) .unit,
  .p (.mv 2 (.c (.bool false))) .unit])
 (.seq (.seq (.join ⟨[(1, false), (14, false)], [.box (.pair (.int .i64) (.sl false (.int .i64))), .cell .bool]⟩ (.reg none [.p (.fadr 4 (.t 1) 0) .unit,
  .p (.load 5 (.t 4) 1 false) .unit,
  .p (.callB 6 n_spec_l01In [((.t 5), 0), ((.c (.int .i64 1)), 0), ((.c (.int .i64 9)), 0)]) .unit,
  .p (.un 7 .not (.t 6)) .unit,
  .p (.mv 8 (.t 7)) .unit,
  .g 8 false (some 9) (.fadr 9 (.t 1) 1) .unit,
  .g 8 false (some 10) (.load 10 (.t 9) 1 false) .unit,
  .g 8 false (some 11) (.lenB 11 (.t 10)) .unit,
  .g 8 false (some 12) (.callB 12 n_spec_l01In [((.t 11), 0), ((.c (.int .i64 1)), 0), ((.c (.int .i64 5)), 0)]) .unit,
  .g 8 false (some 13) (.un 13 .not (.t 12)) .unit,
  .p (.pick 14 (.t 8) (.c (.bool true)) (.t 13)) .unit]))
 (.cond (.t 14) (.seq (.reg none [.p (.mv 2 (.c (.bool false))) .unit])
 .ret) .skip))
 (.seq (.seq (.reg none [.p (.mv 3 (.c (.int .i64 0))) .unit])
 (.jl 0 ⟨[(1, false), (3, false)], [.box (.pair (.int .i64) (.sl false (.int .i64))), .cell (.int .i64)]⟩ ⟨[], []⟩ B_spec_RingOk_1))
 (.seq (.reg none [.p (.mv 2 (.c (.bool true))) .unit])
 .ret)))),
 47, 1, [.t 2]⟩
theorem m_spec_RingOk : mH Tryd.prog 27 [] = some (F_spec_RingOk.code.x, F_spec_RingOk.N, F_spec_RingOk.np, F_spec_RingOk.res) := by kernel_rfl
noncomputable def T_spec_RingOk : Int × List (Int) → Option (Bool) := evF [fn_spec_l01In] F_spec_RingOk [.agg (.pair (.int .i64) (.sl false (.int .i64)))] [] [.cell .bool] []
noncomputable def fn_spec_RingOk : TFn := ⟨27, [.agg (.pair (.int .i64) (.sl false (.int .i64)))], [], [.cell .bool], [], T_spec_RingOk⟩
theorem ok_spec_RingOk : FnOk Tryd.prog fn_spec_RingOk := evF_ok mixed (allOk_cons ok_spec_l01In allOk_nil) m_spec_RingOk (by decide)
def B_spec_RingsOk_1 : TC := (.seq (.seq (.reg none [.p (.mv 4 (.t 3)) .unit,
  .p (.mv 5 (.t 0)) .unit,
  .p (.lenB 6 (.t 5)) .unit,
  .p (.bin 7 false .lss (.t 4) (.t 6)) .unit])
 (.cond (.t 7) .skip (.exit 0)))
 (.seq (.block 1 (.seq (.join ⟨[(0, true), (3, false), (25, false)], [.cell (.sl false (.pair (.int .i64) (.sl false (.int .i64)))), .cell (.int .i64), .cell .bool]⟩ (.reg none [.p (.mv 10 (.t 0)) .unit,
  .p (.mv 11 (.t 3)) .unit,
  .p (.iadr 12 2 (.t 10) (.t 11)) .unit,
  .p (.load 13 (.t 12) 2 true) .unit,
  .p (.callB 14 n_spec_RingOk [((.t 13), 0)]) .unit,
  .p (.un 15 .not (.t 14)) .unit,
  .p (.mv 16 (.t 15)) .unit,
  .g 16 false (some 17) (.mv 17 (.t 0)) .unit,
  .g 16 false (some 18) (.mv 18 (.t 3)) .unit,
  .g 16 false (some 19) (.iadr 19 2 (.t 17) (.t 18)) .unit,
  .g 16 false (some 20) (.fadr 20 (.t 19) 0) .unit,
  .g 16 false (some 21) (.load 21 (.t 20) 1 false) .unit,
  .g 16 false (some 22) (.mv 22 (.t 3)) .unit,
  .g 16 false (some 23) (.bin 23 false .add (.t 22) (.c (.int .i64 1))) .unit,
  .g 16 false (some 24) (.bin 24 false .neq (.t 21) (.t 23)) .unit,
  .p (.pick 25 (.t 16) (.c (.bool true)) (.t 24)) .unit]))
 (.cond (.t 25) (.seq (.reg none [.p (.mv 2 (.c (.bool false))) .unit])
 .ret) .skip)))
 (.reg none [.p (.mv 8 (.t 3)) .unit,
  .p (.bin 9 false .add (.t 8) (.c (.int .i64 1))) .unit,
  .p (.mv 3 (.t 9)) .unit])))
noncomputable def L_spec_RingsOk_1 : Nat → (List (Int × List (Int))) × Int → Option ((List (Int × List (Int))) ⊕ (Bool)) := evL [fn_spec_RingOk, fn_spec_l01In] (finT [.t 2] [] [.cell .bool]) 0 ⟨[(0, true), (3, false)], [.cell (.sl false (.pair (.int .i64) (.sl false (.int .i64)))), .cell (.int .i64)]⟩ ⟨[(0, true)], [.cell (.sl false (.pair (.int .i64) (.sl false (.int .i64))))]⟩ B_spec_RingsOk_1
def F_spec_RingsOk : TF := ⟨(.seq (.reg none [.p (.mv 2 (.c (.bool false))) .unit])
 (.seq (.seq (.reg none [.p (.mv 3 (.c (.int .i64 0))) .unit])
 (.jl 0 ⟨[(0, true), (3, false)], [.cell (.sl false (.pair (.int .i64) (.sl false (.int .i64)))), .cell (.int .i64)]⟩ ⟨[(0, true)], [.cell (.sl false (.pair (.int .i64) (.sl false (.int .i64))))]⟩ B_spec_RingsOk_1))
 (.seq (.reg none [.p (.mv 26 (.t 0)) .unit,
  .p (.lenB 27 (.t 26)) .unit,
  .p (.callB 28 n_spec_l01In [((.t 27), 0), ((.c (.int .i64 1)), 0), ((.c (.int .i64 9)), 0)]) .unit,
  .p (.mv 2 (.t 28)) .unit])
 .ret))),
 29, 1, [.t 2]⟩
theorem m_spec_RingsOk : mH Tryd.prog 15 [] = some (F_spec_RingsOk.code.x, F_spec_RingsOk.N, F_spec_RingsOk.np, F_spec_RingsOk.res) := by kernel_rfl
noncomputable def T_spec_RingsOk : List (Int × List (Int)) → Option (Bool) := evF [fn_spec_RingOk, fn_spec_l01In] F_spec_RingsOk [.cell (.sl false (.pair (.int .i64) (.sl false (.int .i64))))] [] [.cell .bool] []
noncomputable def fn_spec_RingsOk : TFn := ⟨15, [.cell (.sl false (.pair (.int .i64) (.sl false (.int .i64))))], [], [.cell .bool], [], T_spec_RingsOk⟩
theorem ok_spec_RingsOk : FnOk Tryd.prog fn_spec_RingsOk := evF_ok mixed (allOk_cons ok_spec_RingOk (allOk_cons ok_spec_l01In allOk_nil)) m_spec_RingsOk (by decide)
def B_spec_l22Deed_1 : TC := (.seq (.seq (.reg none [.p (.mv 47 (.t 8)) .unit,
  .p (.mvA 48 7) .unit,
  .p (.lenB 49 (.t 48)) .unit,
  .p (.bin 50 false .lss (.t 47) (.t 49)) .unit])
 (.cond (.t 50) .skip (.exit 0)))
 (.seq (.block 1 (.seq (.seq (.join ⟨[(0, true), (2, false), (7, false), (8, false), (65, false)], [.cell (.sl false .str), .box (.pair (.int .i64) (.pair (.int .i64) (.pair (.int .i64) (.pair (.int .i64) .str)))), .cell (.sl true .str), .cell (.int .i64), .cell .bool]⟩ (.reg (some [[], [], [0, 1], [2], [], [4], [5], [3, 6], [7], [8], [9, 8], [10, 8], [8, 11]]) [.p (.mvA 53 7) .unit,
  .p (.mv 54 (.t 8)) .unit,
  .p (.iadr 55 1 (.t 53) (.t 54)) .unit,
  .p (.load 56 (.t 55) 1 false) .unit,
  .p (.mv 57 (.t 0)) .unit,
  .p (.iadr 58 1 (.t 57) (.c (.int .i64 0))) .unit,
  .p (.load 59 (.t 58) 1 false) .unit,
  .p (.bin 60 false .neq (.t 56) (.t 59)) .unit,
  .p (.mv 61 (.t 60)) .unit,
  .g 61 false (some 62) (.mv 62 (.t 0)) .unit,
  .g 61 false (some 63) (.lenB 63 (.t 62)) .unit,
  .g 61 false (some 64) (.bin 64 false .neq (.t 63) (.c (.int .i64 2))) .unit,
  .p (.pick 65 (.t 61) (.c (.bool true)) (.t 64)) .unit]))
 (.cond (.t 65) (.exit 1) .skip))
 (.seq (.reg none [.p (.mv 67 (.t 0)) .unit,
  .p (.iadr 68 1 (.t 67) (.c (.int .i64 1))) .unit,
  .p (.load 69 (.t 68) 1 false) .unit,
  .p (.callB 70 n_spec_ReadDecimal [((.t 69), 0)]) .unit,
  .p (.mv 66 (.t 70)) .unit,
  .p (.ext 71 (.t 66) 0) .unit,
  .p (.ext 72 (.t 66) 1) .unit,
  .p (.mv 9 (.t 71)) .unit,
  .p (.mv 10 (.t 72)) .unit])
 (.seq (.reg none [.p (.mv 73 (.t 8)) .unit,
  .p (.bin 74 false .add (.c (.int .i64 2)) (.t 73)) .unit,
  .p (.bld 75 [(.lit (.int .i64 0)), (.lit (.int .i64 0)), (.lit (.int .i64 0)), (.lit (.int .i64 0)), (.lit (.string (ba [])))] [⟨0, 1, (.t 74)⟩, ⟨1, 1, (.c (.int .i64 1))⟩]) .unit,
  .p (.alloc 11 [(.lit (.int .i64 0)), (.lit (.int .i64 0)), (.lit (.int .i64 0)), (.lit (.int .i64 0)), (.lit (.string (ba [])))]) .unit,
  .p (.store (.t 11) (.t 75) 5) .unit])
 (.seq (.join ⟨[(2, false), (10, false), (11, false)], [.box (.pair (.int .i64) (.pair (.int .i64) (.pair (.int .i64) (.pair (.int .i64) .str)))), .cell .bool, .box (.pair (.int .i64) (.pair (.int .i64) (.pair (.int .i64) (.pair (.int .i64) .str))))]⟩ (.seq (.reg none [.p (.fadr 76 (.t 11) 0) .unit,
  .p (.load 77 (.t 76) 1 false) .unit,
  .p (.callB 78 n_spec_l01In [((.t 77), 0), ((.c (.int .i64 3)), 0), ((.c (.int .i64 5)), 0)]) .unit])
 (.cond (.t 78) (.reg none [.p (.mv 79 (.t 9)) .unit,
  .p (.fadr 80 (.t 11) 2) .unit,
  .p (.store (.t 80) (.t 79) 1) .unit]) (.reg none [.p (.mv 81 (.t 9)) .unit,
  .p (.fadr 82 (.t 11) 1) .unit,
  .p (.store (.t 82) (.t 81) 1) .unit]))))
 (.seq (.reg none [.p (.load 83 (.t 11) 5 true) .unit,
  .p (.mv 84 (.t 10)) .unit,
  .p (.store (.t 2) (.t 83) 5) .unit,
  .p (.mv 3 (.t 84)) .unit])
 .ret))))))
 (.reg none [.p (.mv 51 (.t 8)) .unit,
  .p (.bin 52 false .add (.t 51) (.c (.int .i64 1))) .unit,
  .p (.mv 8 (.t 52)) .unit])))
noncomputable def L_spec_l22Deed_1 : Nat → (List (List UInt8)) × (Int × Int × Int × Int × List UInt8) × (List (List UInt8)) × Int → Option ((Int × Int × Int × Int × List UInt8) ⊕ ((Int × Int × Int × Int × List UInt8) × Bool)) := evL [fn_spec_ReadDecimal, fn_spec_l01In] (finT [.c 2 5 true, .t 3] [] [.agg (.pair (.int .i64) (.pair (.int .i64) (.pair (.int .i64) (.pair (.int .i64) .str)))), .cell .bool]) 0 ⟨[(0, true), (2, false), (7, false), (8, false)], [.cell (.sl false .str), .box (.pair (.int .i64) (.pair (.int .i64) (.pair (.int .i64) (.pair (.int .i64) .str)))), .cell (.sl true .str), .cell (.int .i64)]⟩ ⟨[(2, false)], [.box (.pair (.int .i64) (.pair (.int .i64) (.pair (.int .i64) (.pair (.int .i64) .str))))]⟩ B_spec_l22Deed_1
def F_spec_l22Deed : TF := ⟨(.seq (.reg none [.p (.alloc 2 [(.lit (.int .i64 0)), (.lit (.int .i64 0)), (.lit (.int .i64 0)), (.lit (.int .i64 0)), (.lit (.string (ba [])))]) .unit,
  .p (.mv 3 (.c (.bool false))) .unit])
 (.seq (.seq (.join ⟨[(0, true), (2, false), (26, false)], [.cell (.sl false .str), .box (.pair (.int .i64) (.pair (.int .i64) (.pair (.int .i64) (.pair (.int .i64) .str)))), .cell .bool]⟩ (.reg none [.p (.mv 12 (.t 0)) .unit,
  .p (.iadr 13 1 (.t 12) (.c (.int .i64 0))) .unit,
  .p (.load 14 (.t 13) 1 false) .unit,
  .p (.bin 15 false .eql (.t 14) (.c (.string (ba [115, 97, 121])))) .unit,
  .p (.mv 16 (.t 15)) .unit,
  .g 16 false (some 17) (.mv 17 (.t 0)) .unit,
  .g 16 false (some 18) (.iadr 18 1 (.t 17) (.c (.int .i64 0))) .unit,
  .g 16 false (some 19) (.load 19 (.t 18) 1 false) .unit,
  .g 16 false (some 20) (.bin 20 false .eql (.t 19) (.c (.string (ba [115, 97, 102, 101])))) .unit,
  .p (.pick 21 (.t 16) (.c (.bool true)) (.t 20)) .unit,
  .p (.mv 22 (.t 21)) .unit,
  .g 22 true (some 23) (.mv 23 (.t 0)) .unit,
  .g 22 true (some 24) (.lenB 24 (.t 23)) .unit,
  .g 22 true (some 25) (.bin 25 false .eql (.t 24) (.c (.int .i64 3))) .unit,
  .p (.pick 26 (.t 22) (.t 25) (.c (.bool false))) .unit]))
 (.cond (.t 26) (.seq (.reg none [.p (.mv 28 (.t 0)) .unit,
  .p (.iadr 29 1 (.t 28) (.c (.int .i64 1))) .unit,
  .p (.load 30 (.t 29) 1 false) .unit,
  .p (.callB 31 n_spec_ReadDecimal [((.t 30), 0)]) .unit,
  .p (.mv 27 (.t 31)) .unit,
  .p (.ext 32 (.t 27) 0) .unit,
  .p (.ext 33 (.t 27) 1) .unit,
  .p (.mv 4 (.t 32)) .unit,
  .p (.mv 5 (.t 33)) .unit])
 (.seq (.reg none [.p (.mv 34 (.t 4)) .unit,
  .p (.mv 35 (.t 0)) .unit,
  .p (.iadr 36 1 (.t 35) (.c (.int .i64 2))) .unit,
  .p (.load 37 (.t 36) 1 false) .unit,
  .p (.bld 38 [(.lit (.int .i64 0)), (.lit (.int .i64 0)), (.lit (.int .i64 0)), (.lit (.int .i64 0)), (.lit (.string (ba [])))] [⟨0, 1, (.c (.int .i64 1))⟩, ⟨1, 1, (.t 34)⟩, ⟨3, 1, (.c (.int .i64 1))⟩, ⟨4, 1, (.t 37)⟩]) .unit,
  .p (.alloc 6 [(.lit (.int .i64 0)), (.lit (.int .i64 0)), (.lit (.int .i64 0)), (.lit (.int .i64 0)), (.lit (.string (ba [])))]) .unit,
  .p (.store (.t 6) (.t 38) 5) .unit])
 (.seq (.join ⟨[(2, false), (5, false), (6, false)], [.box (.pair (.int .i64) (.pair (.int .i64) (.pair (.int .i64) (.pair (.int .i64) .str)))), .cell .bool, .box (.pair (.int .i64) (.pair (.int .i64) (.pair (.int .i64) (.pair (.int .i64) .str))))]⟩ (.seq (.reg none [.p (.mv 39 (.t 0)) .unit,
  .p (.iadr 40 1 (.t 39) (.c (.int .i64 0))) .unit,
  .p (.load 41 (.t 40) 1 false) .unit,
  .p (.bin 42 false .eql (.t 41) (.c (.string (ba [115, 97, 102, 101])))) .unit])
 (.cond (.t 42) (.reg none [.p (.fadr 43 (.t 6) 3) .unit,
  .p (.store (.t 43) (.c (.int .i64 2)) 1) .unit]) .skip)))
 (.seq (.reg none [.p (.load 44 (.t 6) 5 true) .unit,
  .p (.mv 45 (.t 5)) .unit,
  .p (.store (.t 2) (.t 44) 5) .unit,
  .p (.mv 3 (.t 45)) .unit])
 .ret)))) .skip))
 (.seq (.reg none [.p (.bldS 46 8 [(.lit (.string (ba [])))] [⟨0, 1, (.c (.string (ba [102, 105, 114, 115, 116])))⟩, ⟨1, 1, (.c (.string (ba [99, 97, 114, 114, 121])))⟩, ⟨2, 1, (.c (.string (ba [108, 111, 115, 101])))⟩, ⟨3, 1, (.c (.string (ba [116, 119, 105, 99, 101])))⟩, ⟨4, 1, (.c (.string (ba [97, 103, 97, 105, 110])))⟩, ⟨5, 1, (.c (.string (ba [109, 111, 118, 101])))⟩, ⟨6, 1, (.c (.string (ba [99, 114, 97, 115, 104])))⟩, ⟨7, 1, (.c (.string (ba [119, 97, 107, 101])))⟩]) .str,
  .p (.mvT 7 46) .unit])
 (.seq (.seq (.reg none [.p (.mv 8 (.c (.int .i64 0))) .unit])
 (.jl 0 ⟨[(0, true), (2, false), (7, false), (8, false)], [.cell (.sl false .str), .box (.pair (.int .i64) (.pair (.int .i64) (.pair (.int .i64) (.pair (.int .i64) .str)))), .cell (.sl true .str), .cell (.int .i64)]⟩ ⟨[(2, false)], [.box (.pair (.int .i64) (.pair (.int .i64) (.pair (.int .i64) (.pair (.int .i64) .str))))]⟩ B_spec_l22Deed_1))
 (.seq (.reg none [.p (.bld 85 [(.lit (.int .i64 0)), (.lit (.int .i64 0)), (.lit (.int .i64 0)), (.lit (.int .i64 0)), (.lit (.string (ba [])))] []) .unit,
  .p (.store (.t 2) (.t 85) 5) .unit,
  .p (.mv 3 (.c (.bool false))) .unit])
 .ret))))),
 86, 1, [.c 2 5 true, .t 3]⟩
theorem m_spec_l22Deed : mH Tryd.prog 16 [(7, 1, .t), (9, 1, .v), (11, 0, .v)] = some (F_spec_l22Deed.code.x, F_spec_l22Deed.N, F_spec_l22Deed.np, F_spec_l22Deed.res) := by kernel_rfl
noncomputable def T_spec_l22Deed : List (List UInt8) → Option ((Int × Int × Int × Int × List UInt8) × Bool) := evF [fn_spec_ReadDecimal, fn_spec_l01In] F_spec_l22Deed [.cell (.sl false .str)] [] [.agg (.pair (.int .i64) (.pair (.int .i64) (.pair (.int .i64) (.pair (.int .i64) .str)))), .cell .bool] []
noncomputable def fn_spec_l22Deed : TFn := ⟨16, [.cell (.sl false .str)], [], [.agg (.pair (.int .i64) (.pair (.int .i64) (.pair (.int .i64) (.pair (.int .i64) .str)))), .cell .bool], [], T_spec_l22Deed⟩
theorem ok_spec_l22Deed : FnOk Tryd.prog fn_spec_l22Deed := evF_ok mixed (allOk_cons ok_spec_ReadDecimal (allOk_cons ok_spec_l01In allOk_nil)) m_spec_l22Deed (by decide)
def F_spec_DeedOk : TF := ⟨(.seq (.reg none [.p (.box 1 (.t 0)) .unit,
  .p (.mv 2 (.c (.bool false))) .unit])
 (.seq (.seq (.join ⟨[(1, false), (17, false)], [.box (.pair (.int .i64) (.pair (.int .i64) (.pair (.int .i64) (.pair (.int .i64) .str)))), .cell .bool]⟩ (.reg none [.p (.fadr 3 (.t 1) 0) .unit,
  .p (.load 4 (.t 3) 1 false) .unit,
  .p (.callB 5 n_spec_l01In [((.t 4), 0), ((.c (.int .i64 1)), 0), ((.c (.int .i64 9)), 0)]) .unit,
  .p (.un 6 .not (.t 5)) .unit,
  .p (.mv 7 (.t 6)) .unit,
  .g 7 false (some 8) (.fadr 8 (.t 1) 1) .unit,
  .g 7 false (some 9) (.load 9 (.t 8) 1 false) .unit,
  .g 7 false (some 10) (.callB 10 n_spec_l01In [((.t 9), 0), ((.c (.int .i64 1)), 0), ((.c (.int .i64 5)), 0)]) .unit,
  .g 7 false (some 11) (.un 11 .not (.t 10)) .unit,
  .p (.pick 12 (.t 7) (.c (.bool true)) (.t 11)) .unit,
  .p (.mv 13 (.t 12)) .unit,
  .g 13 false (some 14) (.fadr 14 (.t 1) 2) .unit,
  .g 13 false (some 15) (.load 15 (.t 14) 1 false) .unit,
  .g 13 false (some 16) (.bin 16 false .lss (.t 15) (.c (.int .i64 0))) .unit,
  .p (.pick 17 (.t 13) (.c (.bool true)) (.t 16)) .unit]))
 (.cond (.t 17) (.seq (.reg none [.p (.mv 2 (.c (.bool false))) .unit])
 .ret) .skip))
 (.seq (.seq (.reg none [.p (.fadr 18 (.t 1) 0) .unit,
  .p (.load 19 (.t 18) 1 false) .unit,
  .p (.bin 20 false .eql (.t 19) (.c (.int .i64 1))) .unit])
 (.cond (.t 20) (.seq (.reg none [.p (.fadr 21 (.t 1) 3) .unit,
  .p (.load 22 (.t 21) 1 false) .unit,
  .p (.callB 23 n_spec_l01In [((.t 22), 0), ((.c (.int .i64 1)), 0), ((.c (.int .i64 2)), 0)]) .unit,
  .p (.mv 24 (.t 23)) .unit,
  .g 24 true (some 25) (.fadr 25 (.t 1) 4) .unit,
  .g 24 true (some 26) (.load 26 (.t 25) 1 false) .unit,
  .g 24 true (some 27) (.lenS 27 (.t 26)) .unit,
  .g 24 true (some 28) (.bin 28 false .leq (.t 27) (.c (.int .i64 60))) .unit,
  .p (.pick 29 (.t 24) (.t 28) (.c (.bool false))) .unit,
  .p (.mv 2 (.t 29)) .unit])
 .ret) .skip))
 (.seq (.reg none [.p (.fadr 30 (.t 1) 3) .unit,
  .p (.load 31 (.t 30) 1 false) .unit,
  .p (.bin 32 false .eql (.t 31) (.c (.int .i64 0))) .unit,
  .p (.mv 33 (.t 32)) .unit,
  .g 33 true (some 34) (.fadr 34 (.t 1) 4) .unit,
  .g 33 true (some 35) (.load 35 (.t 34) 1 false) .unit,
  .g 33 true (some 36) (.bin 36 false .eql (.t 35) (.c (.string (ba [])))) .unit,
  .p (.pick 37 (.t 33) (.t 36) (.c (.bool false))) .unit,
  .p (.mv 2 (.t 37)) .unit])
 .ret)))),
 38, 1, [.t 2]⟩
theorem m_spec_DeedOk : mH Tryd.prog 17 [] = some (F_spec_DeedOk.code.x, F_spec_DeedOk.N, F_spec_DeedOk.np, F_spec_DeedOk.res) := by kernel_rfl
noncomputable def T_spec_DeedOk : Int × Int × Int × Int × List UInt8 → Option (Bool) := evF [fn_spec_l01In] F_spec_DeedOk [.agg (.pair (.int .i64) (.pair (.int .i64) (.pair (.int .i64) (.pair (.int .i64) .str))))] [] [.cell .bool] []
noncomputable def fn_spec_DeedOk : TFn := ⟨17, [.agg (.pair (.int .i64) (.pair (.int .i64) (.pair (.int .i64) (.pair (.int .i64) .str))))], [], [.cell .bool], [], T_spec_DeedOk⟩
theorem ok_spec_DeedOk : FnOk Tryd.prog fn_spec_DeedOk := evF_ok mixed (allOk_cons ok_spec_l01In allOk_nil) m_spec_DeedOk (by decide)
def B_spec_ReadScript_1 : TC := (.seq (.seq (.reg none [.p (.mv 32 (.t 9)) .unit,
  .p (.mvA 33 6) .unit,
  .p (.lenB 34 (.t 33)) .unit,
  .p (.bin 35 false .lss (.t 32) (.t 34)) .unit])
 (.cond (.t 35) .skip (.exit 0)))
 (.seq (.join ⟨[(5, false), (6, false), (7, false), (8, false), (9, false)], [.cell (.sl true (.pair (.int .i64) (.pair (.int .i64) (.pair (.int .i64) (.pair (.int .i64) .str))))), .cell (.sl true .str), .cell (.sl true (.pair (.int .i64) (.sl true (.int .i64)))), .cell (.sl true (.pair (.int .i64) (.pair (.int .i64) (.pair (.int .i64) (.pair (.int .i64) .str))))), .cell (.int .i64)]⟩ (.block 1 (.seq (.reg none [.p (.mvA 39 6) .unit,
  .p (.mv 40 (.t 9)) .unit,
  .p (.iadr 41 1 (.t 39) (.t 40)) .unit,
  .p (.load 42 (.t 41) 1 false) .unit,
  .p (.callB 43 n_spec_PartsOf [((.t 42), 0)]) .unit,
  .p (.mvT 38 43) .unit,
  .p (.extT 44 38 0) .unit,
  .p (.ext 45 (.t 38) 1) .unit,
  .p (.mvT 10 44) .unit,
  .p (.mv 11 (.t 45)) .unit])
 (.seq (.seq (.join ⟨[(5, false), (6, false), (7, false), (8, false), (9, false), (10, false), (11, false), (58, false)], [.cell (.sl true (.pair (.int .i64) (.pair (.int .i64) (.pair (.int .i64) (.pair (.int .i64) .str))))), .cell (.sl true .str), .cell (.sl true (.pair (.int .i64) (.sl true (.int .i64)))), .cell (.sl true (.pair (.int .i64) (.pair (.int .i64) (.pair (.int .i64) (.pair (.int .i64) .str))))), .cell (.int .i64), .cell (.sl true .str), .cell .bool, .cell .bool]⟩ (.reg none [.p (.mv 46 (.t 11)) .unit,
  .p (.mv 47 (.t 46)) .unit,
  .g 47 true (some 48) (.mvA 48 10) .unit,
  .g 47 true (some 49) (.lenB 49 (.t 48)) .unit,
  .g 47 true (some 50) (.bin 50 false .eql (.t 49) (.c (.int .i64 0))) .unit,
  .g 47 true (some 51) (.mv 51 (.t 50)) .unit,
  .g 51 false (some 52) (.mvA 52 10) .unit,
  .g 51 false (some 53) (.iadr 53 1 (.t 52) (.c (.int .i64 0))) .unit,
  .g 51 false (some 54) (.load 54 (.t 53) 1 false) .unit,
  .g 51 false (some 55) (.idx 55 (.t 54) (.c (.int .i64 0))) .unit,
  .g 51 false (some 56) (.bin 56 false .eql (.t 55) (.c (.int .u8 35))) .unit,
  .g 47 true (some 57) (.pick 57 (.t 51) (.c (.bool true)) (.t 56)) .unit,
  .p (.pick 58 (.t 47) (.t 57) (.c (.bool false))) .unit]))
 (.cond (.t 58) (.exit 1) .skip))
 (.seq (.seq (.reg none [.p (.mv 59 (.t 11)) .unit,
  .p (.un 60 .not (.t 59)) .unit])
 (.cond (.t 60) (.seq (.reg none [.p (.bldS 61 0 [(.lit (.int .i64 0)), (.sl true 1 [])] []) (.pair (.int .i64) (.sl true (.int .i64))),
  .p (.mvT 62 5) .unit,
  .p (.mv 63 (.t 9)) .unit,
  .p (.bin 64 false .add (.t 63) (.c (.int .i64 1))) .unit,
  .p (.mvT 2 61) .unit,
  .p (.mvT 3 62) .unit,
  .p (.mv 4 (.t 64)) .unit])
 .ret) .skip))
 (.seq (.seq (.join ⟨[(5, false), (6, false), (7, false), (8, false), (9, false), (10, false), (73, false)], [.cell (.sl true (.pair (.int .i64) (.pair (.int .i64) (.pair (.int .i64) (.pair (.int .i64) .str))))), .cell (.sl true .str), .cell (.sl true (.pair (.int .i64) (.sl true (.int .i64)))), .cell (.sl true (.pair (.int .i64) (.pair (.int .i64) (.pair (.int .i64) (.pair (.int .i64) .str))))), .cell (.int .i64), .cell (.sl true .str), .cell .bool]⟩ (.reg none [.p (.mvA 65 10) .unit,
  .p (.iadr 66 1 (.t 65) (.c (.int .i64 0))) .unit,
  .p (.load 67 (.t 66) 1 false) .unit,
  .p (.bin 68 false .eql (.t 67) (.c (.string (ba [114, 105, 110, 103])))) .unit,
  .p (.mv 69 (.t 68)) .unit,
  .g 69 true (some 70) (.mvA 70 10) .unit,
  .g 69 true (some 71) (.lenB 71 (.t 70)) .unit,
  .g 69 true (some 72) (.bin 72 false .eql (.t 71) (.c (.int .i64 2))) .unit,
  .p (.pick 73 (.t 69) (.t 72) (.c (.bool false))) .unit]))
 (.cond (.t 73) (.seq (.reg none [.p (.mvT 75 10) .unit,
  .p (.iadr 76 1 (.t 75) (.c (.int .i64 1))) .unit,
  .p (.load 77 (.t 76) 1 false) .unit,
  .p (.callB 78 n_spec_l22Commas [((.t 77), 0)]) .unit,
  .p (.mvT 74 78) .unit,
  .p (.extT 79 74 0) .unit,
  .p (.ext 80 (.t 74) 1) .unit,
  .p (.mvT 12 79) .unit,
  .p (.mv 13 (.t 80)) .unit])
 (.seq (.reg none [.p (.mvA 81 7) .unit,
  .p (.mvA 82 7) .unit,
  .p (.lenB 83 (.t 82)) .unit,
  .p (.bin 84 false .add (.t 83) (.c (.int .i64 1))) .unit,
  .p (.mvT 85 12) .unit,
  .p (.bld 86 [(.lit (.int .i64 0)), (.sl true 1 [])] [⟨0, 1, (.t 84)⟩, ⟨1, 1, (.t 85)⟩]) .unit,
  .p (.bldS 87 1 [(.lit (.int .i64 0)), (.sl true 1 [])] [⟨0, 2, (.t 86)⟩]) (.pair (.int .i64) (.sl true (.int .i64))),
  .p (.appC 88 2 32 81 (.t 87) true) (.pair (.int .i64) (.sl true (.int .i64))),
  .p (.mvT 7 88) .unit])
 (.seq (.seq (.join ⟨[(5, false), (6, false), (7, false), (8, false), (9, false), (100, false)], [.cell (.sl true (.pair (.int .i64) (.pair (.int .i64) (.pair (.int .i64) (.pair (.int .i64) .str))))), .cell (.sl true .str), .cell (.sl true (.pair (.int .i64) (.sl true (.int .i64)))), .cell (.sl true (.pair (.int .i64) (.pair (.int .i64) (.pair (.int .i64) (.pair (.int .i64) .str))))), .cell (.int .i64), .cell .bool]⟩ (.reg none [.p (.mv 89 (.t 13)) .unit,
  .p (.un 90 .not (.t 89)) .unit,
  .p (.mv 91 (.t 90)) .unit,
  .g 91 false (some 92) (.mvA 92 8) .unit,
  .g 91 false (some 93) (.lenB 93 (.t 92)) .unit,
  .g 91 false (some 94) (.bin 94 false .gtr (.t 93) (.c (.int .i64 0))) .unit,
  .p (.pick 95 (.t 91) (.c (.bool true)) (.t 94)) .unit,
  .p (.mv 96 (.t 95)) .unit,
  .g 96 false (some 97) (.mvA 97 7) .unit,
  .g 96 false (some 98) (.callB 98 n_spec_RingsOk [((.t 97), 0)]) .unit,
  .g 96 false (some 99) (.un 99 .not (.t 98)) .unit,
  .p (.pick 100 (.t 96) (.c (.bool true)) (.t 99)) .unit]))
 (.cond (.t 100) (.seq (.reg none [.p (.bldS 101 0 [(.lit (.int .i64 0)), (.sl true 1 [])] []) (.pair (.int .i64) (.sl true (.int .i64))),
  .p (.mvT 102 5) .unit,
  .p (.mv 103 (.t 9)) .unit,
  .p (.bin 104 false .add (.t 103) (.c (.int .i64 1))) .unit,
  .p (.mvT 2 101) .unit,
  .p (.mvT 3 102) .unit,
  .p (.mv 4 (.t 104)) .unit])
 .ret) .skip))
 (.exit 1)))) .skip))
 (.seq (.reg none [.p (.mvT 106 10) .unit,
  .p (.callB 107 n_spec_l22Deed [((.t 106), 0)]) .unit,
  .p (.mv 105 (.t 107)) .unit,
  .p (.ext 108 (.t 105) 0) .unit,
  .p (.ext 109 (.t 105) 1) .unit,
  .p (.alloc 14 [(.lit (.int .i64 0)), (.lit (.int .i64 0)), (.lit (.int .i64 0)), (.lit (.int .i64 0)), (.lit (.string (ba [])))]) .unit,
  .p (.store (.t 14) (.t 108) 5) .unit,
  .p (.mv 15 (.t 109)) .unit])
 (.seq (.seq (.join ⟨[(5, false), (6, false), (7, false), (8, false), (9, false), (14, false), (126, false)], [.cell (.sl true (.pair (.int .i64) (.pair (.int .i64) (.pair (.int .i64) (.pair (.int .i64) .str))))), .cell (.sl true .str), .cell (.sl true (.pair (.int .i64) (.sl true (.int .i64)))), .cell (.sl true (.pair (.int .i64) (.pair (.int .i64) (.pair (.int .i64) (.pair (.int .i64) .str))))), .cell (.int .i64), .box (.pair (.int .i64) (.pair (.int .i64) (.pair (.int .i64) (.pair (.int .i64) .str)))), .cell .bool]⟩ (.reg none [.p (.mv 110 (.t 15)) .unit,
  .p (.un 111 .not (.t 110)) .unit,
  .p (.mv 112 (.t 111)) .unit,
  .g 112 false (some 113) (.load 113 (.t 14) 5 true) .unit,
  .g 112 false (some 114) (.callB 114 n_spec_DeedOk [((.t 113), 0)]) .unit,
  .g 112 false (some 115) (.un 115 .not (.t 114)) .unit,
  .p (.pick 116 (.t 112) (.c (.bool true)) (.t 115)) .unit,
  .p (.mv 117 (.t 116)) .unit,
  .g 117 false (some 118) (.mvA 118 7) .unit,
  .g 117 false (some 119) (.lenB 119 (.t 118)) .unit,
  .g 117 false (some 120) (.bin 120 false .eql (.t 119) (.c (.int .i64 0))) .unit,
  .p (.pick 121 (.t 117) (.c (.bool true)) (.t 120)) .unit,
  .p (.mv 122 (.t 121)) .unit,
  .g 122 false (some 123) (.mvA 123 8) .unit,
  .g 122 false (some 124) (.lenB 124 (.t 123)) .unit,
  .g 122 false (some 125) (.bin 125 false .eql (.t 124) (.c (.int .i64 90))) .unit,
  .p (.pick 126 (.t 122) (.c (.bool true)) (.t 125)) .unit]))
 (.cond (.t 126) (.seq (.reg none [.p (.bldS 127 0 [(.lit (.int .i64 0)), (.sl true 1 [])] []) (.pair (.int .i64) (.sl true (.int .i64))),
  .p (.mvT 128 5) .unit,
  .p (.mv 129 (.t 9)) .unit,
  .p (.bin 130 false .add (.t 129) (.c (.int .i64 1))) .unit,
  .p (.mvT 2 127) .unit,
  .p (.mvT 3 128) .unit,
  .p (.mv 4 (.t 130)) .unit])
 .ret) .skip))
 (.reg none [.p (.mvT 131 8) .unit,
  .p (.load 132 (.t 14) 5 true) .unit,
  .p (.bldS 133 1 [(.lit (.int .i64 0)), (.lit (.int .i64 0)), (.lit (.int .i64 0)), (.lit (.int .i64 0)), (.lit (.string (ba [])))] [⟨0, 5, (.t 132)⟩]) (.pair (.int .i64) (.pair (.int .i64) (.pair (.int .i64) (.pair (.int .i64) .str)))),
  .p (.app 134 5 48 (.t 131) (.t 133)) (.pair (.int .i64) (.pair (.int .i64) (.pair (.int .i64) (.pair (.int .i64) .str)))),
  .p (.mvT 8 134) .unit])))))))))
 (.reg none [.p (.mv 36 (.t 9)) .unit,
  .p (.bin 37 false .add (.t 36) (.c (.int .i64 1))) .unit,
  .p (.mv 9 (.t 37)) .unit])))
noncomputable def L_spec_ReadScript_1 : Nat → (List (Int × Int × Int × Int × List UInt8)) × (List (List UInt8)) × (List (Int × List (Int))) × (List (Int × Int × Int × Int × List UInt8)) × Int → Option (((List (Int × Int × Int × Int × List UInt8)) × (List (Int × List (Int))) × List (Int × Int × Int × Int × List UInt8)) ⊕ ((List (Int × List (Int))) × (List (Int × Int × Int × Int × List UInt8)) × Int)) := evL [fn_spec_l22Lines, fn_spec_PartsOf, fn_spec_l22Commas, fn_spec_RingsOk, fn_spec_l22Deed, fn_spec_DeedOk] (finT [.t 2, .t 3, .t 4] [] [.cell (.sl true (.pair (.int .i64) (.sl true (.int .i64)))), .cell (.sl true (.pair (.int .i64) (.pair (.int .i64) (.pair (.int .i64) (.pair (.int .i64) .str))))), .cell (.int .i64)]) 0 ⟨[(5, false), (6, false), (7, false), (8, false), (9, false)], [.cell (.sl true (.pair (.int .i64) (.pair (.int .i64) (.pair (.int .i64) (.pair (.int .i64) .str))))), .cell (.sl true .str), .cell (.sl true (.pair (.int .i64) (.sl true (.int .i64)))), .cell (.sl true (.pair (.int .i64) (.pair (.int .i64) (.pair (.int .i64) (.pair (.int .i64) .str))))), .cell (.int .i64)]⟩ ⟨[(5, false), (7, false), (8, false)], [.cell (.sl true (.pair (.int .i64) (.pair (.int .i64) (.pair (.int .i64) (.pair (.int .i64) .str))))), .cell (.sl true (.pair (.int .i64) (.sl true (.int .i64)))), .cell (.sl true (.pair (.int .i64) (.pair (.int .i64) (.pair (.int .i64) (.pair (.int .i64) .str)))))]⟩ B_spec_ReadScript_1
def F_spec_ReadScript : TF := ⟨(.seq (.reg none [.p (.mvN 2 2) .unit,
  .p (.mvN 3 5) .unit,
  .p (.mv 4 (.c (.int .i64 0))) .unit])
 (.seq (.reg none [.p (.bldS 16 0 [(.lit (.int .i64 0)), (.lit (.int .i64 0)), (.lit (.int .i64 0)), (.lit (.int .i64 0)), (.lit (.string (ba [])))] []) (.pair (.int .i64) (.pair (.int .i64) (.pair (.int .i64) (.pair (.int .i64) .str)))),
  .p (.mvT 5 16) .unit])
 (.seq (.seq (.join ⟨[(0, true), (5, false), (25, false)], [.cell .str, .cell (.sl true (.pair (.int .i64) (.pair (.int .i64) (.pair (.int .i64) (.pair (.int .i64) .str))))), .cell .bool]⟩ (.reg none [.p (.mv 17 (.t 0)) .unit,
  .p (.lenS 18 (.t 17)) .unit,
  .p (.bin 19 false .gtr (.t 18) (.c (.int .i64 4000))) .unit,
  .p (.mv 20 (.t 19)) .unit,
  .g 20 false (some 21) (.mv 21 (.t 0)) .unit,
  .g 20 false (some 22) (.callB 22 n_spec_l22Lines [((.t 21), 0)]) .unit,
  .g 20 false (some 23) (.lenB 23 (.t 22)) .unit,
  .g 20 false (some 24) (.bin 24 false .gtr (.t 23) (.c (.int .i64 110))) .unit,
  .p (.pick 25 (.t 20) (.c (.bool true)) (.t 24)) .unit]))
 (.cond (.t 25) (.seq (.reg none [.p (.bldS 26 0 [(.lit (.int .i64 0)), (.sl true 1 [])] []) (.pair (.int .i64) (.sl true (.int .i64))),
  .p (.mvT 27 5) .unit,
  .p (.mvT 2 26) .unit,
  .p (.mvT 3 27) .unit,
  .p (.mv 4 (.c (.int .i64 (-1)))) .unit])
 .ret) .skip))
 (.seq (.reg none [.p (.mv 28 (.t 0)) .unit,
  .p (.callB 29 n_spec_l22Lines [((.t 28), 0)]) .unit,
  .p (.mvT 6 29) .unit])
 (.seq (.reg none [.p (.bldS 30 0 [(.lit (.int .i64 0)), (.sl true 1 [])] []) (.pair (.int .i64) (.sl true (.int .i64))),
  .p (.mvT 7 30) .unit])
 (.seq (.reg none [.p (.bldS 31 0 [(.lit (.int .i64 0)), (.lit (.int .i64 0)), (.lit (.int .i64 0)), (.lit (.int .i64 0)), (.lit (.string (ba [])))] []) (.pair (.int .i64) (.pair (.int .i64) (.pair (.int .i64) (.pair (.int .i64) .str)))),
  .p (.mvT 8 31) .unit])
 (.seq (.seq (.reg none [.p (.mv 9 (.c (.int .i64 0))) .unit])
 (.jl 0 ⟨[(5, false), (6, false), (7, false), (8, false), (9, false)], [.cell (.sl true (.pair (.int .i64) (.pair (.int .i64) (.pair (.int .i64) (.pair (.int .i64) .str))))), .cell (.sl true .str), .cell (.sl true (.pair (.int .i64) (.sl true (.int .i64)))), .cell (.sl true (.pair (.int .i64) (.pair (.int .i64) (.pair (.int .i64) (.pair (.int .i64) .str))))), .cell (.int .i64)]⟩ ⟨[(5, false), (7, false), (8, false)], [.cell (.sl true (.pair (.int .i64) (.pair (.int .i64) (.pair (.int .i64) (.pair (.int .i64) .str))))), .cell (.sl true (.pair (.int .i64) (.sl true (.int .i64)))), .cell (.sl true (.pair (.int .i64) (.pair (.int .i64) (.pair (.int .i64) (.pair (.int .i64) .str)))))]⟩ B_spec_ReadScript_1))
 (.seq (.seq (.reg none [.p (.mvA 135 7) .unit,
  .p (.lenB 136 (.t 135)) .unit,
  .p (.bin 137 false .eql (.t 136) (.c (.int .i64 0))) .unit])
 (.cond (.t 137) (.seq (.reg none [.p (.bldS 138 0 [(.lit (.int .i64 0)), (.sl true 1 [])] []) (.pair (.int .i64) (.sl true (.int .i64))),
  .p (.mvT 139 5) .unit,
  .p (.mvT 2 138) .unit,
  .p (.mvT 3 139) .unit,
  .p (.mv 4 (.c (.int .i64 1))) .unit])
 .ret) .skip))
 (.seq (.reg none [.p (.mvT 140 7) .unit,
  .p (.mvT 141 8) .unit,
  .p (.mvT 2 140) .unit,
  .p (.mvT 3 141) .unit,
  .p (.mv 4 (.c (.int .i64 0))) .unit])
 .ret))))))))),
 142, 1, [.t 2, .t 3, .t 4]⟩
theorem m_spec_ReadScript : mH Tryd.prog 4 [(1, 1, .t), (3, 1, .t), (3, 2, .t), (3, 3, .t), (4, 2, .t), (5, 1, .t), (6, 1, .t), (8, 1, .v), (10, 0, .v), (10, 5, .t), (10, 6, .t), (10, 8, .t), (11, 2, .v), (11, 6, .v), (13, 1, .t), (13, 4, .t), (13, 5, .t), (14, 0, .v), (14, 5, .v), (15, 0, .t), (15, 4, .t), (15, 5, .t), (15, 7, .t), (16, 0, .v), (16, 1, .v), (16, 4, .t), (16, 7, .v), (16, 8, .t), (17, 3, .v), (17, 8, .v), (18, 1, .t), (18, 4, .t), (18, 5, .t), (19, 0, .t), (20, 8, .v), (20, 13, .v), (21, 1, .t), (21, 4, .t), (21, 5, .t), (22, 0, .t), (22, 4, .t), (23, 0, .v), (24, 1, .t), (24, 2, .t), (24, 3, .t), (25, 0, .t), (25, 1, .t), (25, 2, .t), (25, 3, .t)] = some (F_spec_ReadScript.code.x, F_spec_ReadScript.N, F_spec_ReadScript.np, F_spec_ReadScript.res) := by kernel_rfl
noncomputable def T_spec_ReadScript : List UInt8 → Option ((List (Int × List (Int))) × (List (Int × Int × Int × Int × List UInt8)) × Int) := evF [fn_spec_l22Lines, fn_spec_PartsOf, fn_spec_l22Commas, fn_spec_RingsOk, fn_spec_l22Deed, fn_spec_DeedOk] F_spec_ReadScript [.cell .str] [] [.cell (.sl true (.pair (.int .i64) (.sl true (.int .i64)))), .cell (.sl true (.pair (.int .i64) (.pair (.int .i64) (.pair (.int .i64) (.pair (.int .i64) .str))))), .cell (.int .i64)] []
noncomputable def fn_spec_ReadScript : TFn := ⟨4, [.cell .str], [], [.cell (.sl true (.pair (.int .i64) (.sl true (.int .i64)))), .cell (.sl true (.pair (.int .i64) (.pair (.int .i64) (.pair (.int .i64) (.pair (.int .i64) .str))))), .cell (.int .i64)], [], T_spec_ReadScript⟩
theorem ok_spec_ReadScript : FnOk Tryd.prog fn_spec_ReadScript := evF_ok mixed (allOk_cons ok_spec_l22Lines (allOk_cons ok_spec_PartsOf (allOk_cons ok_spec_l22Commas (allOk_cons ok_spec_RingsOk (allOk_cons ok_spec_l22Deed (allOk_cons ok_spec_DeedOk allOk_nil)))))) m_spec_ReadScript (by decide)
def F_internal_stringslite_HasSuffix : TF := ⟨(.seq (.reg none [.p (.mv 4 (.c (.bool false))) .unit])
 (.seq (.reg none [.p (.mv 5 (.t 0)) .unit,
  .p (.lenS 6 (.t 5)) .unit,
  .p (.mv 7 (.t 1)) .unit,
  .p (.lenS 8 (.t 7)) .unit,
  .p (.bin 9 false .geq (.t 6) (.t 8)) .unit,
  .p (.mv 10 (.t 9)) .unit,
  .g 10 true (some 11) (.mv 11 (.t 0)) .unit,
  .g 10 true (some 12) (.mv 12 (.t 0)) .unit,
  .g 10 true (some 13) (.lenS 13 (.t 12)) .unit,
  .g 10 true (some 14) (.mv 14 (.t 1)) .unit,
  .g 10 true (some 15) (.lenS 15 (.t 14)) .unit,
  .g 10 true (some 16) (.bin 16 false .sub (.t 13) (.t 15)) .unit,
  .g 10 true (some 17) (.slcS 17 (.t 11) (some (.t 16)) none) .unit,
  .g 10 true (some 18) (.mv 18 (.t 1)) .unit,
  .g 10 true (some 19) (.bin 19 false .eql (.t 17) (.t 18)) .unit,
  .p (.pick 20 (.t 10) (.t 19) (.c (.bool false))) .unit,
  .p (.mv 4 (.t 20)) .unit])
 .ret)),
 21, 2, [.t 4]⟩
theorem m_internal_stringslite_HasSuffix : mH Tryd.prog 47 [] = some (F_internal_stringslite_HasSuffix.code.x, F_internal_stringslite_HasSuffix.N, F_internal_stringslite_HasSuffix.np, F_internal_stringslite_HasSuffix.res) := by kernel_rfl
noncomputable def T_internal_stringslite_HasSuffix : (List UInt8) × List UInt8 → Option (Bool) := evF [] F_internal_stringslite_HasSuffix [.cell .str, .cell .str] [] [.cell .bool] []
noncomputable def fn_internal_stringslite_HasSuffix : TFn := ⟨47, [.cell .str, .cell .str], [], [.cell .bool], [], T_internal_stringslite_HasSuffix⟩
theorem ok_internal_stringslite_HasSuffix : FnOk Tryd.prog fn_internal_stringslite_HasSuffix := evF_ok mixed allOk_nil m_internal_stringslite_HasSuffix (by decide)
def F_internal_stringslite_TrimSuffix : TF := ⟨(.seq (.reg none [.p (.mv 4 (.c (.string (ba [])))) .unit])
 (.seq (.seq (.reg none [.p (.mv 5 (.t 0)) .unit,
  .p (.mv 6 (.t 1)) .unit,
  .p (.callB 7 n_internal_stringslite_HasSuffix [((.t 5), 0), ((.t 6), 0)]) .unit])
 (.cond (.t 7) (.seq (.reg none [.p (.mv 8 (.t 0)) .unit,
  .p (.mv 9 (.t 0)) .unit,
  .p (.lenS 10 (.t 9)) .unit,
  .p (.mv 11 (.t 1)) .unit,
  .p (.lenS 12 (.t 11)) .unit,
  .p (.bin 13 false .sub (.t 10) (.t 12)) .unit,
  .p (.slcS 14 (.t 8) none (some (.t 13))) .unit,
  .p (.mv 4 (.t 14)) .unit])
 .ret) .skip))
 (.seq (.reg none [.p (.mv 15 (.t 0)) .unit,
  .p (.mv 4 (.t 15)) .unit])
 .ret))),
 16, 2, [.t 4]⟩
theorem m_internal_stringslite_TrimSuffix : mH Tryd.prog 37 [] = some (F_internal_stringslite_TrimSuffix.code.x, F_internal_stringslite_TrimSuffix.N, F_internal_stringslite_TrimSuffix.np, F_internal_stringslite_TrimSuffix.res) := by kernel_rfl
noncomputable def T_internal_stringslite_TrimSuffix : (List UInt8) × List UInt8 → Option (List UInt8) := evF [fn_internal_stringslite_HasSuffix] F_internal_stringslite_TrimSuffix [.cell .str, .cell .str] [] [.cell .str] []
noncomputable def fn_internal_stringslite_TrimSuffix : TFn := ⟨37, [.cell .str, .cell .str], [], [.cell .str], [], T_internal_stringslite_TrimSuffix⟩
theorem ok_internal_stringslite_TrimSuffix : FnOk Tryd.prog fn_internal_stringslite_TrimSuffix := evF_ok mixed (allOk_cons ok_internal_stringslite_HasSuffix allOk_nil) m_internal_stringslite_TrimSuffix (by decide)
def F_strings_TrimSuffix : TF := ⟨(.seq (.reg none [.p (.mv 4 (.c (.string (ba [])))) .unit])
 (.seq (.reg none [.p (.mv 5 (.t 0)) .unit,
  .p (.mv 6 (.t 1)) .unit,
  .p (.callB 7 n_internal_stringslite_TrimSuffix [((.t 5), 0), ((.t 6), 0)]) .unit,
  .p (.mv 4 (.t 7)) .unit])
 .ret)),
 8, 2, [.t 4]⟩
theorem m_strings_TrimSuffix : mH Tryd.prog 30 [] = some (F_strings_TrimSuffix.code.x, F_strings_TrimSuffix.N, F_strings_TrimSuffix.np, F_strings_TrimSuffix.res) := by kernel_rfl
noncomputable def T_strings_TrimSuffix : (List UInt8) × List UInt8 → Option (List UInt8) := evF [fn_internal_stringslite_TrimSuffix] F_strings_TrimSuffix [.cell .str, .cell .str] [] [.cell .str] []
noncomputable def fn_strings_TrimSuffix : TFn := ⟨30, [.cell .str, .cell .str], [], [.cell .str], [], T_strings_TrimSuffix⟩
theorem ok_strings_TrimSuffix : FnOk Tryd.prog fn_strings_TrimSuffix := evF_ok mixed (allOk_cons ok_internal_stringslite_TrimSuffix allOk_nil) m_strings_TrimSuffix (by decide)
def F_impl_scriptLines : TF := ⟨(.seq (.reg none [.p (.mvN 2 1) .unit])
 (.seq (.seq (.reg none [.p (.mv 3 (.t 0)) .unit,
  .p (.bin 4 false .eql (.t 3) (.c (.string (ba [])))) .unit])
 (.cond (.t 4) (.seq (.reg none [.p (.mvN 2 1) .unit])
 .ret) .skip))
 (.seq (.reg none [.p (.mv 5 (.t 0)) .unit,
  .p (.callB 6 n_strings_TrimSuffix [((.t 5), 0), ((.c (.string (ba [10]))), 0)]) .unit,
  .p (.callB 7 n_strings_Split [((.t 6), 0), ((.c (.string (ba [10]))), 0)]) .unit,
  .p (.mvT 2 7) .unit])
 .ret))),
 8, 1, [.t 2]⟩
theorem m_impl_scriptLines : mH Tryd.prog 18 [(3, 3, .t)] = some (F_impl_scriptLines.code.x, F_impl_scriptLines.N, F_impl_scriptLines.np, F_impl_scriptLines.res) := by kernel_rfl
noncomputable def T_impl_scriptLines : List UInt8 → Option (List (List UInt8)) := evF [fn_strings_TrimSuffix, fn_strings_Split] F_impl_scriptLines [.cell .str] [] [.cell (.sl true .str)] []
noncomputable def fn_impl_scriptLines : TFn := ⟨18, [.cell .str], [], [.cell (.sl true .str)], [], T_impl_scriptLines⟩
theorem ok_impl_scriptLines : FnOk Tryd.prog fn_impl_scriptLines := evF_ok mixed (allOk_cons ok_strings_TrimSuffix (allOk_cons ok_strings_Split allOk_nil)) m_impl_scriptLines (by decide)
def B_impl_PartsOf_1 : TC := (.seq (.seq (.reg none [.p (.mv 11 (.t 4)) .unit,
  .p (.mv 12 (.t 0)) .unit,
  .p (.lenS 13 (.t 12)) .unit,
  .p (.bin 14 false .lss (.t 11) (.t 13)) .unit])
 (.cond (.t 14) .skip (.exit 0)))
 (.seq (.block 1 (.seq (.join ⟨[(0, true), (4, false), (26, false)], [.cell .str, .cell (.int .i64), .cell .bool]⟩ (.reg none [.p (.mv 17 (.t 0)) .unit,
  .p (.mv 18 (.t 4)) .unit,
  .p (.idx 19 (.t 17) (.t 18)) .unit,
  .p (.bin 20 false .lss (.t 19) (.c (.int .u8 32))) .unit,
  .p (.mv 21 (.t 20)) .unit,
  .g 21 false (some 22) (.mv 22 (.t 0)) .unit,
  .g 21 false (some 23) (.mv 23 (.t 4)) .unit,
  .g 21 false (some 24) (.idx 24 (.t 22) (.t 23)) .unit,
  .g 21 false (some 25) (.bin 25 false .gtr (.t 24) (.c (.int .u8 126))) .unit,
  .p (.pick 26 (.t 21) (.c (.bool true)) (.t 25)) .unit]))
 (.cond (.t 26) (.seq (.reg none [.p (.mvN 2 1) .unit,
  .p (.mv 3 (.c (.bool false))) .unit])
 .ret) .skip)))
 (.reg none [.p (.mv 15 (.t 4)) .unit,
  .p (.bin 16 false .add (.t 15) (.c (.int .i64 1))) .unit,
  .p (.mv 4 (.t 16)) .unit])))
noncomputable def L_impl_PartsOf_1 : Nat → (List UInt8) × Int → Option ((List UInt8) ⊕ ((List (List UInt8)) × Bool)) := evL [fn_strings_Split] (finT [.t 2, .t 3] [] [.cell (.sl true .str), .cell .bool]) 0 ⟨[(0, true), (4, false)], [.cell .str, .cell (.int .i64)]⟩ ⟨[(0, true)], [.cell .str]⟩ B_impl_PartsOf_1
def B_impl_PartsOf_2 : TC := (.seq (.reg none [.p (.bin 31 false .lss (.t 30) (.t 29)) .unit])
 (.seq (.cond (.t 31) .skip (.exit 2))
 (.seq (.join ⟨[(5, false), (28, false), (29, false), (30, false)], [.cell (.sl true .str), .cell (.sl true .str), .cell (.int .i64), .cell (.int .i64)]⟩ (.block 3 (.seq (.reg none [.p (.iadr 32 1 (.t 28) (.t 30)) .unit,
  .p (.load 33 (.t 32) 1 false) .unit,
  .p (.mv 7 (.t 33)) .unit])
 (.seq (.reg none [.p (.mv 34 (.t 7)) .unit,
  .p (.bin 35 false .neq (.t 34) (.c (.string (ba [])))) .unit])
 (.cond (.t 35) (.reg none [.p (.mvT 36 5) .unit,
  .p (.mv 37 (.t 7)) .unit,
  .p (.bldS 38 1 [(.lit (.string (ba [])))] [⟨0, 1, (.t 37)⟩]) .str,
  .p (.app 39 1 16 (.t 36) (.t 38)) .str,
  .p (.mvT 5 39) .unit]) .skip)))))
 (.reg none [.p (.bin 40 false .add (.t 30) (.c (.int .i64 1))) .unit,
  .p (.mv 30 (.t 40)) .unit]))))
noncomputable def L_impl_PartsOf_2 : Nat → (List (List UInt8)) × (List (List UInt8)) × (Int) × Int → Option ((List (List UInt8)) ⊕ ((List (List UInt8)) × Bool)) := evL [fn_strings_Split] (finT [.t 2, .t 3] [] [.cell (.sl true .str), .cell .bool]) 2 ⟨[(5, false), (28, false), (29, false), (30, false)], [.cell (.sl true .str), .cell (.sl true .str), .cell (.int .i64), .cell (.int .i64)]⟩ ⟨[(5, false)], [.cell (.sl true .str)]⟩ B_impl_PartsOf_2
def F_impl_PartsOf : TF := ⟨(.seq (.reg none [.p (.mvN 2 1) .unit,
  .p (.mv 3 (.c (.bool false))) .unit])
 (.seq (.seq (.reg none [.p (.mv 8 (.t 0)) .unit,
  .p (.lenS 9 (.t 8)) .unit,
  .p (.bin 10 false .gtr (.t 9) (.c (.int .i64 600))) .unit])
 (.cond (.t 10) (.seq (.reg none [.p (.mvN 2 1) .unit,
  .p (.mv 3 (.c (.bool false))) .unit])
 .ret) .skip))
 (.seq (.seq (.reg none [.p (.mv 4 (.c (.int .i64 0))) .unit])
 (.jl 0 ⟨[(0, true), (4, false)], [.cell .str, .cell (.int .i64)]⟩ ⟨[(0, true)], [.cell .str]⟩ B_impl_PartsOf_1))
 (.seq (.reg none [.p (.mvN 5 1) .unit])
 (.seq (.seq (.reg none [.p (.mv 27 (.t 0)) .unit,
  .p (.callB 28 n_strings_Split [((.t 27), 0), ((.c (.string (ba [32]))), 0)]) .unit,
  .p (.lenB 29 (.t 28)) .unit,
  .p (.mv 30 (.c (.int .i64 0))) .unit])
 (.jl 2 ⟨[(5, false), (28, false), (29, false), (30, false)], [.cell (.sl true .str), .cell (.sl true .str), .cell (.int .i64), .cell (.int .i64)]⟩ ⟨[(5, false)], [.cell (.sl true .str)]⟩ B_impl_PartsOf_2))
 (.seq (.seq (.reg none [.p (.mvA 41 5) .unit,
  .p (.lenB 42 (.t 41)) .unit,
  .p (.bin 43 false .gtr (.t 42) (.c (.int .i64 10))) .unit])
 (.cond (.t 43) (.seq (.reg none [.p (.mvN 2 1) .unit,
  .p (.mv 3 (.c (.bool false))) .unit])
 .ret) .skip))
 (.seq (.reg none [.p (.mvT 44 5) .unit,
  .p (.mvT 2 44) .unit,
  .p (.mv 3 (.c (.bool true))) .unit])
 .ret))))))),
 45, 1, [.t 2, .t 3]⟩
theorem m_impl_PartsOf : mH Tryd.prog 19 [(13, 0, .t), (13, 4, .t), (15, 0, .v), (17, 0, .t), (17, 1, .t)] = some (F_impl_PartsOf.code.x, F_impl_PartsOf.N, F_impl_PartsOf.np, F_impl_PartsOf.res) := by kernel_rfl
noncomputable def T_impl_PartsOf : List UInt8 → Option ((List (List UInt8)) × Bool) := evF [fn_strings_Split] F_impl_PartsOf [.cell .str] [] [.cell (.sl true .str), .cell .bool] []
noncomputable def fn_impl_PartsOf : TFn := ⟨19, [.cell .str], [], [.cell (.sl true .str), .cell .bool], [], T_impl_PartsOf⟩
theorem ok_impl_PartsOf : FnOk Tryd.prog fn_impl_PartsOf := evF_ok mixed (allOk_cons ok_strings_Split allOk_nil) m_impl_PartsOf (by decide)
def F_impl_Decimal : TF := ⟨(.seq (.reg none [.p (.mv 2 (.c (.string (ba [])))) .unit])
 (.seq (.reg none [.p (.mv 3 (.t 0)) .unit,
  .p (.callB 4 n_strconv_Itoa [((.t 3), 0)]) .unit,
  .p (.mv 2 (.t 4)) .unit])
 .ret)),
 5, 1, [.t 2]⟩
theorem m_impl_Decimal : mH Tryd.prog 48 [] = some (F_impl_Decimal.code.x, F_impl_Decimal.N, F_impl_Decimal.np, F_impl_Decimal.res) := by kernel_rfl
noncomputable def T_impl_Decimal : Int → Option (List UInt8) := evF [fn_strconv_Itoa] F_impl_Decimal [.cell (.int .i64)] [] [.cell .str] []
noncomputable def fn_impl_Decimal : TFn := ⟨48, [.cell (.int .i64)], [], [.cell .str], [], T_impl_Decimal⟩
theorem ok_impl_Decimal : FnOk Tryd.prog fn_impl_Decimal := evF_ok mixed (allOk_cons ok_strconv_Itoa allOk_nil) m_impl_Decimal (by decide)
def B_impl_ReadDecimal_1 : TC := (.seq (.seq (.reg none [.p (.mv 14 (.t 5)) .unit,
  .p (.mv 15 (.t 0)) .unit,
  .p (.lenS 16 (.t 15)) .unit,
  .p (.bin 17 false .lss (.t 14) (.t 16)) .unit])
 (.cond (.t 17) .skip (.exit 0)))
 (.seq (.block 1 (.seq (.seq (.join ⟨[(0, true), (4, false), (5, false), (29, false)], [.cell .str, .cell (.int .i64), .cell (.int .i64), .cell .bool]⟩ (.reg none [.p (.mv 20 (.t 0)) .unit,
  .p (.mv 21 (.t 5)) .unit,
  .p (.idx 22 (.t 20) (.t 21)) .unit,
  .p (.bin 23 false .lss (.t 22) (.c (.int .u8 48))) .unit,
  .p (.mv 24 (.t 23)) .unit,
  .g 24 false (some 25) (.mv 25 (.t 0)) .unit,
  .g 24 false (some 26) (.mv 26 (.t 5)) .unit,
  .g 24 false (some 27) (.idx 27 (.t 25) (.t 26)) .unit,
  .g 24 false (some 28) (.bin 28 false .gtr (.t 27) (.c (.int .u8 57))) .unit,
  .p (.pick 29 (.t 24) (.c (.bool true)) (.t 28)) .unit]))
 (.cond (.t 29) (.seq (.reg none [.p (.mv 2 (.c (.int .i64 0))) .unit,
  .p (.mv 3 (.c (.bool false))) .unit])
 .ret) .skip))
 (.reg none [.p (.mv 30 (.t 4)) .unit,
  .p (.bin 31 false .mul (.t 30) (.c (.int .i64 10))) .unit,
  .p (.mv 32 (.t 0)) .unit,
  .p (.mv 33 (.t 5)) .unit,
  .p (.idx 34 (.t 32) (.t 33)) .unit,
  .p (.bin 35 false .sub (.t 34) (.c (.int .u8 48))) .unit,
  .p (.cvi 36 .i64 .u8 (.t 35)) .unit,
  .p (.bin 37 false .add (.t 31) (.t 36)) .unit,
  .p (.mv 4 (.t 37)) .unit])))
 (.reg none [.p (.mv 18 (.t 5)) .unit,
  .p (.bin 19 false .add (.t 18) (.c (.int .i64 1))) .unit,
  .p (.mv 5 (.t 19)) .unit])))
noncomputable def L_impl_ReadDecimal_1 : Nat → (List UInt8) × (Int) × Int → Option (((List UInt8) × Int) ⊕ ((Int) × Bool)) := evL [fn_impl_Decimal] (finT [.t 2, .t 3] [] [.cell (.int .i64), .cell .bool]) 0 ⟨[(0, true), (4, false), (5, false)], [.cell .str, .cell (.int .i64), .cell (.int .i64)]⟩ ⟨[(0, true), (4, false)], [.cell .str, .cell (.int .i64)]⟩ B_impl_ReadDecimal_1
def F_impl_ReadDecimal : TF := ⟨(.seq (.reg none [.p (.mv 2 (.c (.int .i64 0))) .unit,
  .p (.mv 3 (.c (.bool false))) .unit])
 (.seq (.seq (.join ⟨[(0, true), (13, false)], [.cell .str, .cell .bool]⟩ (.reg none [.p (.mv 6 (.t 0)) .unit,
  .p (.lenS 7 (.t 6)) .unit,
  .p (.bin 8 false .eql (.t 7) (.c (.int .i64 0))) .unit,
  .p (.mv 9 (.t 8)) .unit,
  .g 9 false (some 10) (.mv 10 (.t 0)) .unit,
  .g 9 false (some 11) (.lenS 11 (.t 10)) .unit,
  .g 9 false (some 12) (.bin 12 false .gtr (.t 11) (.c (.int .i64 10))) .unit,
  .p (.pick 13 (.t 9) (.c (.bool true)) (.t 12)) .unit]))
 (.cond (.t 13) (.seq (.reg none [.p (.mv 2 (.c (.int .i64 0))) .unit,
  .p (.mv 3 (.c (.bool false))) .unit])
 .ret) .skip))
 (.seq (.reg none [.p (.mv 4 (.c (.int .i64 0))) .unit])
 (.seq (.seq (.reg none [.p (.mv 5 (.c (.int .i64 0))) .unit])
 (.jl 0 ⟨[(0, true), (4, false), (5, false)], [.cell .str, .cell (.int .i64), .cell (.int .i64)]⟩ ⟨[(0, true), (4, false)], [.cell .str, .cell (.int .i64)]⟩ B_impl_ReadDecimal_1))
 (.seq (.seq (.join ⟨[(4, false), (45, false)], [.cell (.int .i64), .cell .bool]⟩ (.reg none [.p (.mv 38 (.t 4)) .unit,
  .p (.bin 39 false .gtr (.t 38) (.c (.int .i64 1000000000))) .unit,
  .p (.mv 40 (.t 39)) .unit,
  .g 40 false (some 41) (.mv 41 (.t 4)) .unit,
  .g 40 false (some 42) (.callB 42 n_impl_Decimal [((.t 41), 0)]) .unit,
  .g 40 false (some 43) (.mv 43 (.t 0)) .unit,
  .g 40 false (some 44) (.bin 44 false .neq (.t 42) (.t 43)) .unit,
  .p (.pick 45 (.t 40) (.c (.bool true)) (.t 44)) .unit]))
 (.cond (.t 45) (.seq (.reg none [.p (.mv 2 (.c (.int .i64 0))) .unit,
  .p (.mv 3 (.c (.bool false))) .unit])
 .ret) .skip))
 (.seq (.reg none [.p (.mv 46 (.t 4)) .unit,
  .p (.mv 2 (.t 46)) .unit,
  .p (.mv 3 (.c (.bool true))) .unit])
 .ret)))))),
 47, 1, [.t 2, .t 3]⟩
theorem m_impl_ReadDecimal : mH Tryd.prog 38 [] = some (F_impl_ReadDecimal.code.x, F_impl_ReadDecimal.N, F_impl_ReadDecimal.np, F_impl_ReadDecimal.res) := by kernel_rfl
noncomputable def T_impl_ReadDecimal : List UInt8 → Option ((Int) × Bool) := evF [fn_impl_Decimal] F_impl_ReadDecimal [.cell .str] [] [.cell (.int .i64), .cell .bool] []
noncomputable def fn_impl_ReadDecimal : TFn := ⟨38, [.cell .str], [], [.cell (.int .i64), .cell .bool], [], T_impl_ReadDecimal⟩
theorem ok_impl_ReadDecimal : FnOk Tryd.prog fn_impl_ReadDecimal := evF_ok mixed (allOk_cons ok_impl_Decimal allOk_nil) m_impl_ReadDecimal (by decide)
def B_impl_readRing_1 : TC := (.seq (.reg none [.p (.bin 23 false .lss (.t 22) (.t 21)) .unit])
 (.seq (.cond (.t 23) .skip (.exit 0))
 (.seq (.block 1 (.seq (.reg none [.p (.iadr 24 1 (.t 20) (.t 22)) .unit,
  .p (.load 25 (.t 24) 1 false) .unit,
  .p (.mv 8 (.t 25)) .unit])
 (.seq (.reg none [.p (.mv 27 (.t 8)) .unit,
  .p (.callB 28 n_impl_ReadDecimal [((.t 27), 0)]) .unit,
  .p (.mv 26 (.t 28)) .unit,
  .p (.ext 29 (.t 26) 0) .unit,
  .p (.ext 30 (.t 26) 1) .unit,
  .p (.mv 9 (.t 29)) .unit,
  .p (.mv 10 (.t 30)) .unit])
 (.seq (.seq (.reg none [.p (.mv 31 (.t 10)) .unit,
  .p (.un 32 .not (.t 31)) .unit])
 (.cond (.t 32) (.seq (.reg none [.p (.bld 33 [(.lit (.int .i64 0)), (.sl true 1 [])] []) .unit,
  .p (.storeT (.t 4) 33 2) .unit,
  .p (.mv 5 (.c (.bool false))) .unit])
 .ret) .skip))
 (.reg none [.p (.fadr 34 (.t 6) 1) .unit,
  .p (.load 35 (.t 34) 1 false) .unit,
  .p (.mv 36 (.t 9)) .unit,
  .p (.bldS 37 1 [(.lit (.int .i64 0))] [⟨0, 1, (.t 36)⟩]) (.int .i64),
  .p (.appC 38 1 8 35 (.t 37) false) (.int .i64),
  .p (.fadr 39 (.t 6) 1) .unit,
  .p (.storeT (.t 39) 38 1) .unit])))))
 (.reg none [.p (.bin 40 false .add (.t 22) (.c (.int .i64 1))) .unit,
  .p (.mv 22 (.t 40)) .unit]))))
noncomputable def L_impl_readRing_1 : Nat → (Int × List (Int)) × (Int × List (Int)) × (List (List UInt8)) × (Int) × Int → Option (((Int × List (Int)) × Int × List (Int)) ⊕ ((Int × List (Int)) × Bool)) := evL [fn_strings_Split, fn_impl_ReadDecimal] (finT [.c 4 2 true, .t 5] [] [.agg (.pair (.int .i64) (.sl true (.int .i64))), .cell .bool]) 0 ⟨[(4, false), (6, false), (20, false), (21, false), (22, false)], [.box (.pair (.int .i64) (.sl true (.int .i64))), .box (.pair (.int .i64) (.sl true (.int .i64))), .cell (.sl true .str), .cell (.int .i64), .cell (.int .i64)]⟩ ⟨[(4, false), (6, false)], [.box (.pair (.int .i64) (.sl true (.int .i64))), .box (.pair (.int .i64) (.sl true (.int .i64)))]⟩ B_impl_readRing_1
def F_impl_readRing : TF := ⟨(.seq (.reg none [.p (.alloc 4 [(.lit (.int .i64 0)), (.sl true 1 [])]) .unit,
  .p (.mv 5 (.c (.bool false))) .unit])
 (.seq (.reg none [.p (.mv 11 (.t 0)) .unit,
  .p (.bld 12 [(.lit (.int .i64 0)), (.sl true 1 [])] [⟨0, 1, (.t 11)⟩]) .unit,
  .p (.alloc 6 [(.lit (.int .i64 0)), (.sl true 1 [])]) .unit,
  .p (.storeT (.t 6) 12 2) .unit])
 (.seq (.seq (.reg none [.p (.mv 13 (.t 1)) .unit,
  .p (.lenB 14 (.t 13)) .unit,
  .p (.bin 15 false .neq (.t 14) (.c (.int .i64 2))) .unit])
 (.cond (.t 15) (.seq (.reg none [.p (.bld 16 [(.lit (.int .i64 0)), (.sl true 1 [])] []) .unit,
  .p (.storeT (.t 4) 16 2) .unit,
  .p (.mv 5 (.c (.bool false))) .unit])
 .ret) .skip))
 (.seq (.seq (.reg none [.p (.mv 17 (.t 1)) .unit,
  .p (.iadr 18 1 (.t 17) (.c (.int .i64 1))) .unit,
  .p (.load 19 (.t 18) 1 false) .unit,
  .p (.callB 20 n_strings_Split [((.t 19), 0), ((.c (.string (ba [44]))), 0)]) .unit,
  .p (.lenB 21 (.t 20)) .unit,
  .p (.mv 22 (.c (.int .i64 0))) .unit])
 (.jl 0 ⟨[(4, false), (6, false), (20, false), (21, false), (22, false)], [.box (.pair (.int .i64) (.sl true (.int .i64))), .box (.pair (.int .i64) (.sl true (.int .i64))), .cell (.sl true .str), .cell (.int .i64), .cell (.int .i64)]⟩ ⟨[(4, false), (6, false)], [.box (.pair (.int .i64) (.sl true (.int .i64))), .box (.pair (.int .i64) (.sl true (.int .i64)))]⟩ B_impl_readRing_1))
 (.seq (.reg none [.p (.loadT 41 (.t 6) 2 true) .unit,
  .p (.storeT (.t 4) 41 2) .unit,
  .p (.mv 5 (.c (.bool true))) .unit])
 .ret))))),
 42, 2, [.c 4 2 true, .t 5]⟩
theorem m_impl_readRing : mH Tryd.prog 31 [(1, 3, .t), (3, 1, .t), (9, 1, .t), (10, 4, .z), (10, 6, .t), (12, 0, .t), (12, 1, .t)] = some (F_impl_readRing.code.x, F_impl_readRing.N, F_impl_readRing.np, F_impl_readRing.res) := by kernel_rfl
noncomputable def T_impl_readRing : (Int) × List (List UInt8) → Option ((Int × List (Int)) × Bool) := evF [fn_strings_Split, fn_impl_ReadDecimal] F_impl_readRing [.cell (.int .i64), .cell (.sl false .str)] [] [.agg (.pair (.int .i64) (.sl true (.int .i64))), .cell .bool] []
noncomputable def fn_impl_readRing : TFn := ⟨31, [.cell (.int .i64), .cell (.sl false .str)], [], [.agg (.pair (.int .i64) (.sl true (.int .i64))), .cell .bool], [], T_impl_readRing⟩
theorem ok_impl_readRing : FnOk Tryd.prog fn_impl_readRing := evF_ok mixed (allOk_cons ok_strings_Split (allOk_cons ok_impl_ReadDecimal allOk_nil)) m_impl_readRing (by decide)
def F_impl_inRange : TF := ⟨(.seq (.reg none [.p (.mv 6 (.c (.bool false))) .unit])
 (.seq (.reg none [.p (.mv 7 (.t 0)) .unit,
  .p (.mv 8 (.t 1)) .unit,
  .p (.bin 9 false .geq (.t 7) (.t 8)) .unit,
  .p (.mv 10 (.t 9)) .unit,
  .g 10 true (some 11) (.mv 11 (.t 0)) .unit,
  .g 10 true (some 12) (.mv 12 (.t 2)) .unit,
  .g 10 true (some 13) (.bin 13 false .leq (.t 11) (.t 12)) .unit,
  .p (.pick 14 (.t 10) (.t 13) (.c (.bool false))) .unit,
  .p (.mv 6 (.t 14)) .unit])
 .ret)),
 15, 3, [.t 6]⟩
theorem m_impl_inRange : mH Tryd.prog 40 [] = some (F_impl_inRange.code.x, F_impl_inRange.N, F_impl_inRange.np, F_impl_inRange.res) := by kernel_rfl
noncomputable def T_impl_inRange : (Int) × (Int) × Int → Option (Bool) := evF [] F_impl_inRange [.cell (.int .i64), .cell (.int .i64), .cell (.int .i64)] [] [.cell .bool] []
noncomputable def fn_impl_inRange : TFn := ⟨40, [.cell (.int .i64), .cell (.int .i64), .cell (.int .i64)], [], [.cell .bool], [], T_impl_inRange⟩
theorem ok_impl_inRange : FnOk Tryd.prog fn_impl_inRange := evF_ok mixed allOk_nil m_impl_inRange (by decide)
def F_impl_isDaemon : TF := ⟨(.seq (.reg none [.p (.mv 2 (.c (.bool false))) .unit])
 (.seq (.reg none [.p (.mv 3 (.t 0)) .unit,
  .p (.callB 4 n_impl_inRange [((.t 3), 0), ((.c (.int .i64 1)), 0), ((.c (.int .i64 5)), 0)]) .unit,
  .p (.mv 2 (.t 4)) .unit])
 .ret)),
 5, 1, [.t 2]⟩
theorem m_impl_isDaemon : mH Tryd.prog 49 [] = some (F_impl_isDaemon.code.x, F_impl_isDaemon.N, F_impl_isDaemon.np, F_impl_isDaemon.res) := by kernel_rfl
noncomputable def T_impl_isDaemon : Int → Option (Bool) := evF [fn_impl_inRange] F_impl_isDaemon [.cell (.int .i64)] [] [.cell .bool] []
noncomputable def fn_impl_isDaemon : TFn := ⟨49, [.cell (.int .i64)], [], [.cell .bool], [], T_impl_isDaemon⟩
theorem ok_impl_isDaemon : FnOk Tryd.prog fn_impl_isDaemon := evF_ok mixed (allOk_cons ok_impl_inRange allOk_nil) m_impl_isDaemon (by decide)
def B_impl_RingOk_1 : TC := (.seq (.reg none [.p (.bin 20 false .lss (.t 19) (.t 18)) .unit])
 (.seq (.cond (.t 20) .skip (.exit 0))
 (.seq (.block 1 (.seq (.reg none [.p (.mv 21 (.t 19)) .unit,
  .p (.iadr 22 1 (.t 17) (.t 19)) .unit,
  .p (.load 23 (.t 22) 1 false) .unit,
  .p (.mv 3 (.t 21)) .unit,
  .p (.mv 4 (.t 23)) .unit])
 (.seq (.join ⟨[(1, false), (17, false), (18, false), (19, false), (40, false)], [.box (.pair (.int .i64) (.sl false (.int .i64))), .cell (.sl false (.int .i64)), .cell (.int .i64), .cell (.int .i64), .cell .bool]⟩ (.reg none [.p (.mv 24 (.t 4)) .unit,
  .p (.callB 25 n_impl_isDaemon [((.t 24), 0)]) .unit,
  .p (.un 26 .not (.t 25)) .unit,
  .p (.mv 27 (.t 26)) .unit,
  .g 27 false (some 28) (.mv 28 (.t 3)) .unit,
  .g 27 false (some 29) (.bin 29 false .gtr (.t 28) (.c (.int .i64 0))) .unit,
  .g 27 false (some 30) (.mv 30 (.t 29)) .unit,
  .g 30 true (some 31) (.mv 31 (.t 4)) .unit,
  .g 30 true (some 32) (.fadr 32 (.t 1) 1) .unit,
  .g 30 true (some 33) (.load 33 (.t 32) 1 false) .unit,
  .g 30 true (some 34) (.mv 34 (.t 3)) .unit,
  .g 30 true (some 35) (.bin 35 false .sub (.t 34) (.c (.int .i64 1))) .unit,
  .g 30 true (some 36) (.iadr 36 1 (.t 33) (.t 35)) .unit,
  .g 30 true (some 37) (.load 37 (.t 36) 1 false) .unit,
  .g 30 true (some 38) (.bin 38 false .leq (.t 31) (.t 37)) .unit,
  .g 27 false (some 39) (.pick 39 (.t 30) (.t 38) (.c (.bool false))) .unit,
  .p (.pick 40 (.t 27) (.c (.bool true)) (.t 39)) .unit]))
 (.cond (.t 40) (.seq (.reg none [.p (.mv 2 (.c (.bool false))) .unit])
 .ret) .skip))))
 (.reg none [.p (.bin 41 false .add (.t 19) (.c (.int .i64 1))) .unit,
  .p (.mv 19 (.t 41)) .unit]))))
noncomputable def L_impl_RingOk_1 : Nat → (Int × List (Int)) × (List (Int)) × (Int) × Int → Option ((Unit) ⊕ (Bool)) := evL [fn_impl_inRange, fn_impl_isDaemon] (finT [.t 2] [] [.cell .bool]) 0 ⟨[(1, false), (17, false), (18, false), (19, false)], [.box (.pair (.int .i64) (.sl false (.int .i64))), .cell (.sl false (.int .i64)), .cell (.int .i64), .cell (.int .i64)]⟩ ⟨[], []⟩ B_impl_RingOk_1
def F_impl_RingOk : TF := ⟨(.seq (.reg none [.p (.box 1 (.t 0)) .unit,
  .p (.mv 2 (.c (.bool false))) .unit])
 (.seq (.seq (.join ⟨[(1, false), (15, false)], [.box (.pair (.int .i64) (.sl false (.int .i64))), .cell .bool]⟩ (.reg none [.p (.fadr 5 (.t 1) 0) .unit,
  .p (.load 6 (.t 5) 1 false) .unit,
  .p (.callB 7 n_impl_inRange [((.t 6), 0), ((.c (.int .i64 1)), 0), ((.c (.int .i64 9)), 0)]) .unit,
  .p (.un 8 .not (.t 7)) .unit,
  .p (.mv 9 (.t 8)) .unit,
  .g 9 false (some 10) (.fadr 10 (.t 1) 1) .unit,
  .g 9 false (some 11) (.load 11 (.t 10) 1 false) .unit,
  .g 9 false (some 12) (.lenB 12 (.t 11)) .unit,
  .g 9 false (some 13) (.callB 13 n_impl_inRange [((.t 12), 0), ((.c (.int .i64 1)), 0), ((.c (.int .i64 5)), 0)]) .unit,
  .g 9 false (some 14) (.un 14 .not (.t 13)) .unit,
  .p (.pick 15 (.t 9) (.c (.bool true)) (.t 14)) .unit]))
 (.cond (.t 15) (.seq (.reg none [.p (.mv 2 (.c (.bool false))) .unit])
 .ret) .skip))
 (.seq (.seq (.reg none [.p (.fadr 16 (.t 1) 1) .unit,
  .p (.load 17 (.t 16) 1 false) .unit,
  .p (.lenB 18 (.t 17)) .unit,
  .p (.mv 19 (.c (.int .i64 0))) .unit])
 (.jl 0 ⟨[(1, false), (17, false), (18, false), (19, false)], [.box (.pair (.int .i64) (.sl false (.int .i64))), .cell (.sl false (.int .i64)), .cell (.int .i64), .cell (.int .i64)]⟩ ⟨[], []⟩ B_impl_RingOk_1))
 (.seq (.reg none [.p (.mv 2 (.c (.bool true))) .unit])
 .ret)))),
 42, 1, [.t 2]⟩
theorem m_impl_RingOk : mH Tryd.prog 39 [] = some (F_impl_RingOk.code.x, F_impl_RingOk.N, F_impl_RingOk.np, F_impl_RingOk.res) := by kernel_rfl
noncomputable def T_impl_RingOk : Int × List (Int) → Option (Bool) := evF [fn_impl_inRange, fn_impl_isDaemon] F_impl_RingOk [.agg (.pair (.int .i64) (.sl false (.int .i64)))] [] [.cell .bool] []
noncomputable def fn_impl_RingOk : TFn := ⟨39, [.agg (.pair (.int .i64) (.sl false (.int .i64)))], [], [.cell .bool], [], T_impl_RingOk⟩
theorem ok_impl_RingOk : FnOk Tryd.prog fn_impl_RingOk := evF_ok mixed (allOk_cons ok_impl_inRange (allOk_cons ok_impl_isDaemon allOk_nil)) m_impl_RingOk (by decide)
def B_impl_RingsOk_1 : TC := (.seq (.reg none [.p (.bin 8 false .lss (.t 7) (.t 6)) .unit])
 (.seq (.cond (.t 8) .skip (.exit 0))
 (.seq (.block 1 (.seq (.reg none [.p (.mv 9 (.t 7)) .unit,
  .p (.iadr 10 2 (.t 5) (.t 7)) .unit,
  .p (.load 11 (.t 10) 2 true) .unit,
  .p (.alloc 4 [(.lit (.int .i64 0)), (.sl true 1 [])]) .unit,
  .p (.mv 3 (.t 9)) .unit,
  .p (.store (.t 4) (.t 11) 2) .unit])
 (.seq (.join ⟨[(0, true), (5, false), (6, false), (7, false), (21, false)], [.cell (.sl false (.pair (.int .i64) (.sl false (.int .i64)))), .cell (.sl false (.pair (.int .i64) (.sl false (.int .i64)))), .cell (.int .i64), .cell (.int .i64), .cell .bool]⟩ (.reg none [.p (.load 12 (.t 4) 2 true) .unit,
  .p (.callB 13 n_impl_RingOk [((.t 12), 0)]) .unit,
  .p (.un 14 .not (.t 13)) .unit,
  .p (.mv 15 (.t 14)) .unit,
  .g 15 false (some 16) (.fadr 16 (.t 4) 0) .unit,
  .g 15 false (some 17) (.load 17 (.t 16) 1 false) .unit,
  .g 15 false (some 18) (.mv 18 (.t 3)) .unit,
  .g 15 false (some 19) (.bin 19 false .add (.t 18) (.c (.int .i64 1))) .unit,
  .g 15 false (some 20) (.bin 20 false .neq (.t 17) (.t 19)) .unit,
  .p (.pick 21 (.t 15) (.c (.bool true)) (.t 20)) .unit]))
 (.cond (.t 21) (.seq (.reg none [.p (.mv 2 (.c (.bool false))) .unit])
 .ret) .skip))))
 (.reg none [.p (.bin 22 false .add (.t 7) (.c (.int .i64 1))) .unit,
  .p (.mv 7 (.t 22)) .unit]))))
noncomputable def L_impl_RingsOk_1 : Nat → (List (Int × List (Int))) × (List (Int × List (Int))) × (Int) × Int → Option ((List (Int × List (Int))) ⊕ (Bool)) := evL [fn_impl_RingOk, fn_impl_inRange] (finT [.t 2] [] [.cell .bool]) 0 ⟨[(0, true), (5, false), (6, false), (7, false)], [.cell (.sl false (.pair (.int .i64) (.sl false (.int .i64)))), .cell (.sl false (.pair (.int .i64) (.sl false (.int .i64)))), .cell (.int .i64), .cell (.int .i64)]⟩ ⟨[(0, true)], [.cell (.sl false (.pair (.int .i64) (.sl false (.int .i64))))]⟩ B_impl_RingsOk_1
def F_impl_RingsOk : TF := ⟨(.seq (.reg none [.p (.mv 2 (.c (.bool false))) .unit])
 (.seq (.seq (.reg none [.p (.mv 5 (.t 0)) .unit,
  .p (.lenB 6 (.t 5)) .unit,
  .p (.mv 7 (.c (.int .i64 0))) .unit])
 (.jl 0 ⟨[(0, true), (5, false), (6, false), (7, false)], [.cell (.sl false (.pair (.int .i64) (.sl false (.int .i64)))), .cell (.sl false (.pair (.int .i64) (.sl false (.int .i64)))), .cell (.int .i64), .cell (.int .i64)]⟩ ⟨[(0, true)], [.cell (.sl false (.pair (.int .i64) (.sl false (.int .i64))))]⟩ B_impl_RingsOk_1))
 (.seq (.reg none [.p (.mv 23 (.t 0)) .unit,
  .p (.lenB 24 (.t 23)) .unit,
  .p (.callB 25 n_impl_inRange [((.t 24), 0), ((.c (.int .i64 1)), 0), ((.c (.int .i64 9)), 0)]) .unit,
  .p (.mv 2 (.t 25)) .unit])
 .ret))),
 26, 1, [.t 2]⟩
theorem m_impl_RingsOk : mH Tryd.prog 32 [] = some (F_impl_RingsOk.code.x, F_impl_RingsOk.N, F_impl_RingsOk.np, F_impl_RingsOk.res) := by kernel_rfl
noncomputable def T_impl_RingsOk : List (Int × List (Int)) → Option (Bool) := evF [fn_impl_RingOk, fn_impl_inRange] F_impl_RingsOk [.cell (.sl false (.pair (.int .i64) (.sl false (.int .i64))))] [] [.cell .bool] []
noncomputable def fn_impl_RingsOk : TFn := ⟨32, [.cell (.sl false (.pair (.int .i64) (.sl false (.int .i64))))], [], [.cell .bool], [], T_impl_RingsOk⟩
theorem ok_impl_RingsOk : FnOk Tryd.prog fn_impl_RingsOk := evF_ok mixed (allOk_cons ok_impl_RingOk (allOk_cons ok_impl_inRange allOk_nil)) m_impl_RingsOk (by decide)
def F_impl_deedOf : TF := ⟨(.seq (.reg none [.p (.mv 2 (.c (.int .i64 0))) .unit,
  .p (.mv 3 (.c (.int .i64 0))) .unit,
  .p (.mv 4 (.c (.bool false))) .unit])
 (.seq (.seq (.reg none [.p (.mv 5 (.t 0)) .unit])
 (.block 0 (.seq (.join ⟨[(5, false), (6, false)], [.cell .str, .cell .bool]⟩ (.seq (.reg none [.p (.bin 7 false .eql (.t 5) (.c (.string (ba [115, 97, 121])))) .unit,
  .p (.mv 6 (.t 7)) .unit])
 (.cond (.t 6) .skip (.reg none [.p (.bin 8 false .eql (.t 5) (.c (.string (ba [115, 97, 102, 101])))) .unit,
  .p (.mv 6 (.t 8)) .unit]))))
 (.cond (.t 6) (.seq (.reg none [.p (.mv 2 (.c (.int .i64 1))) .unit,
  .p (.mv 3 (.c (.int .i64 3))) .unit,
  .p (.mv 4 (.c (.bool true))) .unit])
 .ret) (.seq (.reg none [.p (.bin 10 false .eql (.t 5) (.c (.string (ba [102, 105, 114, 115, 116])))) .unit,
  .p (.mv 9 (.t 10)) .unit])
 (.cond (.t 9) (.seq (.reg none [.p (.mv 2 (.c (.int .i64 2))) .unit,
  .p (.mv 3 (.c (.int .i64 2))) .unit,
  .p (.mv 4 (.c (.bool true))) .unit])
 .ret) (.seq (.reg none [.p (.bin 12 false .eql (.t 5) (.c (.string (ba [99, 97, 114, 114, 121])))) .unit,
  .p (.mv 11 (.t 12)) .unit])
 (.cond (.t 11) (.seq (.reg none [.p (.mv 2 (.c (.int .i64 3))) .unit,
  .p (.mv 3 (.c (.int .i64 2))) .unit,
  .p (.mv 4 (.c (.bool true))) .unit])
 .ret) (.seq (.reg none [.p (.bin 14 false .eql (.t 5) (.c (.string (ba [108, 111, 115, 101])))) .unit,
  .p (.mv 13 (.t 14)) .unit])
 (.cond (.t 13) (.seq (.reg none [.p (.mv 2 (.c (.int .i64 4))) .unit,
  .p (.mv 3 (.c (.int .i64 2))) .unit,
  .p (.mv 4 (.c (.bool true))) .unit])
 .ret) (.seq (.reg none [.p (.bin 16 false .eql (.t 5) (.c (.string (ba [116, 119, 105, 99, 101])))) .unit,
  .p (.mv 15 (.t 16)) .unit])
 (.cond (.t 15) (.seq (.reg none [.p (.mv 2 (.c (.int .i64 5))) .unit,
  .p (.mv 3 (.c (.int .i64 2))) .unit,
  .p (.mv 4 (.c (.bool true))) .unit])
 .ret) (.seq (.reg none [.p (.bin 18 false .eql (.t 5) (.c (.string (ba [97, 103, 97, 105, 110])))) .unit,
  .p (.mv 17 (.t 18)) .unit])
 (.cond (.t 17) (.seq (.reg none [.p (.mv 2 (.c (.int .i64 6))) .unit,
  .p (.mv 3 (.c (.int .i64 2))) .unit,
  .p (.mv 4 (.c (.bool true))) .unit])
 .ret) (.seq (.reg none [.p (.bin 20 false .eql (.t 5) (.c (.string (ba [109, 111, 118, 101])))) .unit,
  .p (.mv 19 (.t 20)) .unit])
 (.cond (.t 19) (.seq (.reg none [.p (.mv 2 (.c (.int .i64 7))) .unit,
  .p (.mv 3 (.c (.int .i64 2))) .unit,
  .p (.mv 4 (.c (.bool true))) .unit])
 .ret) (.seq (.reg none [.p (.bin 22 false .eql (.t 5) (.c (.string (ba [99, 114, 97, 115, 104])))) .unit,
  .p (.mv 21 (.t 22)) .unit])
 (.cond (.t 21) (.seq (.reg none [.p (.mv 2 (.c (.int .i64 8))) .unit,
  .p (.mv 3 (.c (.int .i64 2))) .unit,
  .p (.mv 4 (.c (.bool true))) .unit])
 .ret) (.seq (.reg none [.p (.bin 24 false .eql (.t 5) (.c (.string (ba [119, 97, 107, 101])))) .unit,
  .p (.mv 23 (.t 24)) .unit])
 (.cond (.t 23) (.seq (.reg none [.p (.mv 2 (.c (.int .i64 9))) .unit,
  .p (.mv 3 (.c (.int .i64 2))) .unit,
  .p (.mv 4 (.c (.bool true))) .unit])
 .ret) .skip))))))))))))))))))))
 (.seq (.reg none [.p (.mv 2 (.c (.int .i64 0))) .unit,
  .p (.mv 3 (.c (.int .i64 0))) .unit,
  .p (.mv 4 (.c (.bool false))) .unit])
 .ret))),
 25, 1, [.t 2, .t 3, .t 4]⟩
theorem m_impl_deedOf : mH Tryd.prog 41 [] = some (F_impl_deedOf.code.x, F_impl_deedOf.N, F_impl_deedOf.np, F_impl_deedOf.res) := by kernel_rfl
noncomputable def T_impl_deedOf : List UInt8 → Option ((Int) × (Int) × Bool) := evF [] F_impl_deedOf [.cell .str] [] [.cell (.int .i64), .cell (.int .i64), .cell .bool] []
noncomputable def fn_impl_deedOf : TFn := ⟨41, [.cell .str], [], [.cell (.int .i64), .cell (.int .i64), .cell .bool], [], T_impl_deedOf⟩
theorem ok_impl_deedOf : FnOk Tryd.prog fn_impl_deedOf := evF_ok mixed allOk_nil m_impl_deedOf (by decide)
def F_impl_isLevel : TF := ⟨(.seq (.reg none [.p (.mv 2 (.c (.bool false))) .unit])
 (.seq (.reg none [.p (.mv 3 (.t 0)) .unit,
  .p (.bin 4 false .eql (.t 3) (.c (.int .i64 1))) .unit,
  .p (.mv 5 (.t 4)) .unit,
  .g 5 false (some 6) (.mv 6 (.t 0)) .unit,
  .g 5 false (some 7) (.bin 7 false .eql (.t 6) (.c (.int .i64 2))) .unit,
  .p (.pick 8 (.t 5) (.c (.bool true)) (.t 7)) .unit,
  .p (.mv 2 (.t 8)) .unit])
 .ret)),
 9, 1, [.t 2]⟩
theorem m_impl_isLevel : mH Tryd.prog 56 [] = some (F_impl_isLevel.code.x, F_impl_isLevel.N, F_impl_isLevel.np, F_impl_isLevel.res) := by kernel_rfl
noncomputable def T_impl_isLevel : Int → Option (Bool) := evF [] F_impl_isLevel [.cell (.int .i64)] [] [.cell .bool] []
noncomputable def fn_impl_isLevel : TFn := ⟨56, [.cell (.int .i64)], [], [.cell .bool], [], T_impl_isLevel⟩
theorem ok_impl_isLevel : FnOk Tryd.prog fn_impl_isLevel := evF_ok mixed allOk_nil m_impl_isLevel (by decide)
def F_impl_wordsOk : TF := ⟨(.seq (.reg none [.p (.mv 6 (.c (.bool false))) .unit])
 (.seq (.seq (.reg none [.p (.mv 7 (.t 0)) .unit])
 (.cond (.t 7) (.seq (.reg none [.p (.mv 8 (.t 1)) .unit,
  .p (.callB 9 n_impl_isLevel [((.t 8), 0)]) .unit,
  .p (.mv 10 (.t 9)) .unit,
  .g 10 true (some 11) (.mv 11 (.t 2)) .unit,
  .g 10 true (some 12) (.lenS 12 (.t 11)) .unit,
  .g 10 true (some 13) (.bin 13 false .leq (.t 12) (.c (.int .i64 60))) .unit,
  .p (.pick 14 (.t 10) (.t 13) (.c (.bool false))) .unit,
  .p (.mv 6 (.t 14)) .unit])
 .ret) .skip))
 (.seq (.reg none [.p (.mv 15 (.t 1)) .unit,
  .p (.bin 16 false .eql (.t 15) (.c (.int .i64 0))) .unit,
  .p (.mv 17 (.t 16)) .unit,
  .g 17 true (some 18) (.mv 18 (.t 2)) .unit,
  .g 17 true (some 19) (.bin 19 false .eql (.t 18) (.c (.string (ba [])))) .unit,
  .p (.pick 20 (.t 17) (.t 19) (.c (.bool false))) .unit,
  .p (.mv 6 (.t 20)) .unit])
 .ret))),
 21, 3, [.t 6]⟩
theorem m_impl_wordsOk : mH Tryd.prog 50 [] = some (F_impl_wordsOk.code.x, F_impl_wordsOk.N, F_impl_wordsOk.np, F_impl_wordsOk.res) := by kernel_rfl
noncomputable def T_impl_wordsOk : (Bool) × (Int) × List UInt8 → Option (Bool) := evF [fn_impl_isLevel] F_impl_wordsOk [.cell .bool, .cell (.int .i64), .cell .str] [] [.cell .bool] []
noncomputable def fn_impl_wordsOk : TFn := ⟨50, [.cell .bool, .cell (.int .i64), .cell .str], [], [.cell .bool], [], T_impl_wordsOk⟩
theorem ok_impl_wordsOk : FnOk Tryd.prog fn_impl_wordsOk := evF_ok mixed (allOk_cons ok_impl_isLevel allOk_nil) m_impl_wordsOk (by decide)
def F_impl_DeedOk : TF := ⟨(.seq (.reg none [.p (.box 1 (.t 0)) .unit,
  .p (.mv 2 (.c (.bool false))) .unit])
 (.seq (.seq (.join ⟨[(1, false), (17, false)], [.box (.pair (.int .i64) (.pair (.int .i64) (.pair (.int .i64) (.pair (.int .i64) .str)))), .cell .bool]⟩ (.reg none [.p (.fadr 3 (.t 1) 0) .unit,
  .p (.load 4 (.t 3) 1 false) .unit,
  .p (.callB 5 n_impl_inRange [((.t 4), 0), ((.c (.int .i64 1)), 0), ((.c (.int .i64 9)), 0)]) .unit,
  .p (.un 6 .not (.t 5)) .unit,
  .p (.mv 7 (.t 6)) .unit,
  .g 7 false (some 8) (.fadr 8 (.t 1) 1) .unit,
  .g 7 false (some 9) (.load 9 (.t 8) 1 false) .unit,
  .g 7 false (some 10) (.callB 10 n_impl_isDaemon [((.t 9), 0)]) .unit,
  .g 7 false (some 11) (.un 11 .not (.t 10)) .unit,
  .p (.pick 12 (.t 7) (.c (.bool true)) (.t 11)) .unit,
  .p (.mv 13 (.t 12)) .unit,
  .g 13 false (some 14) (.fadr 14 (.t 1) 2) .unit,
  .g 13 false (some 15) (.load 15 (.t 14) 1 false) .unit,
  .g 13 false (some 16) (.bin 16 false .lss (.t 15) (.c (.int .i64 0))) .unit,
  .p (.pick 17 (.t 13) (.c (.bool true)) (.t 16)) .unit]))
 (.cond (.t 17) (.seq (.reg none [.p (.mv 2 (.c (.bool false))) .unit])
 .ret) .skip))
 (.seq (.reg none [.p (.fadr 18 (.t 1) 0) .unit,
  .p (.load 19 (.t 18) 1 false) .unit,
  .p (.bin 20 false .eql (.t 19) (.c (.int .i64 1))) .unit,
  .p (.fadr 21 (.t 1) 3) .unit,
  .p (.load 22 (.t 21) 1 false) .unit,
  .p (.fadr 23 (.t 1) 4) .unit,
  .p (.load 24 (.t 23) 1 false) .unit,
  .p (.callB 25 n_impl_wordsOk [((.t 20), 0), ((.t 22), 0), ((.t 24), 0)]) .unit,
  .p (.mv 2 (.t 25)) .unit])
 .ret))),
 26, 1, [.t 2]⟩
theorem m_impl_DeedOk : mH Tryd.prog 42 [] = some (F_impl_DeedOk.code.x, F_impl_DeedOk.N, F_impl_DeedOk.np, F_impl_DeedOk.res) := by kernel_rfl
noncomputable def T_impl_DeedOk : Int × Int × Int × Int × List UInt8 → Option (Bool) := evF [fn_impl_inRange, fn_impl_isDaemon, fn_impl_wordsOk] F_impl_DeedOk [.agg (.pair (.int .i64) (.pair (.int .i64) (.pair (.int .i64) (.pair (.int .i64) .str))))] [] [.cell .bool] []
noncomputable def fn_impl_DeedOk : TFn := ⟨42, [.agg (.pair (.int .i64) (.pair (.int .i64) (.pair (.int .i64) (.pair (.int .i64) .str))))], [], [.cell .bool], [], T_impl_DeedOk⟩
theorem ok_impl_DeedOk : FnOk Tryd.prog fn_impl_DeedOk := evF_ok mixed (allOk_cons ok_impl_inRange (allOk_cons ok_impl_isDaemon (allOk_cons ok_impl_wordsOk allOk_nil))) m_impl_DeedOk (by decide)
def F_impl_readDeed : TF := ⟨(.seq (.reg none [.p (.alloc 2 [(.lit (.int .i64 0)), (.lit (.int .i64 0)), (.lit (.int .i64 0)), (.lit (.int .i64 0)), (.lit (.string (ba [])))]) .unit,
  .p (.mv 3 (.c (.bool false))) .unit])
 (.seq (.reg none [.p (.mv 10 (.t 0)) .unit,
  .p (.iadr 11 1 (.t 10) (.c (.int .i64 0))) .unit,
  .p (.load 12 (.t 11) 1 false) .unit,
  .p (.callB 13 n_impl_deedOf [((.t 12), 0)]) .unit,
  .p (.mv 9 (.t 13)) .unit,
  .p (.ext 14 (.t 9) 0) .unit,
  .p (.ext 15 (.t 9) 1) .unit,
  .p (.ext 16 (.t 9) 2) .unit,
  .p (.mv 4 (.t 14)) .unit,
  .p (.mv 5 (.t 15)) .unit,
  .p (.mv 6 (.t 16)) .unit])
 (.seq (.seq (.join ⟨[(0, true), (2, false), (4, false), (24, false)], [.cell (.sl false .str), .box (.pair (.int .i64) (.pair (.int .i64) (.pair (.int .i64) (.pair (.int .i64) .str)))), .cell (.int .i64), .cell .bool]⟩ (.reg none [.p (.mv 17 (.t 6)) .unit,
  .p (.un 18 .not (.t 17)) .unit,
  .p (.mv 19 (.t 18)) .unit,
  .g 19 false (some 20) (.mv 20 (.t 0)) .unit,
  .g 19 false (some 21) (.lenB 21 (.t 20)) .unit,
  .g 19 false (some 22) (.mv 22 (.t 5)) .unit,
  .g 19 false (some 23) (.bin 23 false .neq (.t 21) (.t 22)) .unit,
  .p (.pick 24 (.t 19) (.c (.bool true)) (.t 23)) .unit]))
 (.cond (.t 24) (.seq (.reg none [.p (.bld 25 [(.lit (.int .i64 0)), (.lit (.int .i64 0)), (.lit (.int .i64 0)), (.lit (.int .i64 0)), (.lit (.string (ba [])))] []) .unit,
  .p (.store (.t 2) (.t 25) 5) .unit,
  .p (.mv 3 (.c (.bool false))) .unit])
 .ret) .skip))
 (.seq (.reg none [.p (.mv 27 (.t 0)) .unit,
  .p (.iadr 28 1 (.t 27) (.c (.int .i64 1))) .unit,
  .p (.load 29 (.t 28) 1 false) .unit,
  .p (.callB 30 n_impl_ReadDecimal [((.t 29), 0)]) .unit,
  .p (.mv 26 (.t 30)) .unit,
  .p (.ext 31 (.t 26) 0) .unit,
  .p (.ext 32 (.t 26) 1) .unit,
  .p (.mv 7 (.t 31)) .unit,
  .p (.mv 6 (.t 32)) .unit])
 (.seq (.reg none [.p (.mv 33 (.t 4)) .unit,
  .p (.mv 34 (.t 7)) .unit,
  .p (.bld 35 [(.lit (.int .i64 0)), (.lit (.int .i64 0)), (.lit (.int .i64 0)), (.lit (.int .i64 0)), (.lit (.string (ba [])))] [⟨0, 1, (.t 33)⟩, ⟨1, 1, (.t 34)⟩]) .unit,
  .p (.alloc 8 [(.lit (.int .i64 0)), (.lit (.int .i64 0)), (.lit (.int .i64 0)), (.lit (.int .i64 0)), (.lit (.string (ba [])))]) .unit,
  .p (.store (.t 8) (.t 35) 5) .unit])
 (.seq (.join ⟨[(2, false), (6, false), (8, false)], [.box (.pair (.int .i64) (.pair (.int .i64) (.pair (.int .i64) (.pair (.int .i64) .str)))), .cell .bool, .box (.pair (.int .i64) (.pair (.int .i64) (.pair (.int .i64) (.pair (.int .i64) .str))))]⟩ (.block 0 (.seq (.join ⟨[(0, true), (2, false), (4, false), (6, false), (7, false), (8, false), (36, false)], [.cell (.sl false .str), .box (.pair (.int .i64) (.pair (.int .i64) (.pair (.int .i64) (.pair (.int .i64) .str)))), .cell (.int .i64), .cell .bool, .cell (.int .i64), .box (.pair (.int .i64) (.pair (.int .i64) (.pair (.int .i64) (.pair (.int .i64) .str)))), .cell .bool]⟩ (.reg none [.p (.mv 37 (.t 4)) .unit,
  .p (.bin 38 false .eql (.t 37) (.c (.int .i64 3))) .unit,
  .p (.mv 39 (.t 38)) .unit,
  .g 39 false (some 40) (.mv 40 (.t 4)) .unit,
  .g 39 false (some 41) (.bin 41 false .eql (.t 40) (.c (.int .i64 4))) .unit,
  .p (.pick 42 (.t 39) (.c (.bool true)) (.t 41)) .unit,
  .p (.mv 43 (.t 42)) .unit,
  .g 43 false (some 44) (.mv 44 (.t 4)) .unit,
  .g 43 false (some 45) (.bin 45 false .eql (.t 44) (.c (.int .i64 5))) .unit,
  .p (.pick 46 (.t 43) (.c (.bool true)) (.t 45)) .unit,
  .p (.mv 36 (.t 46)) .unit]))
 (.cond (.t 36) (.reg none [.p (.mv 47 (.t 7)) .unit,
  .p (.fadr 48 (.t 8) 1) .unit,
  .p (.store (.t 48) (.c (.int .i64 1)) 1) .unit,
  .p (.fadr 49 (.t 8) 2) .unit,
  .p (.store (.t 49) (.t 47) 1) .unit]) (.seq (.reg none [.p (.mv 51 (.t 4)) .unit,
  .p (.bin 52 false .eql (.t 51) (.c (.int .i64 1))) .unit,
  .p (.mv 50 (.t 52)) .unit])
 (.cond (.t 50) (.seq (.reg (some [[], [0], [1], [], [3], [0, 1, 2, 3, 4], [5, 2, 4, 0, 1, 2, 3, 4]]) [.p (.mv 53 (.t 0)) .unit,
  .p (.iadr 54 1 (.t 53) (.c (.int .i64 2))) .unit,
  .p (.load 55 (.t 54) 1 false) .unit,
  .p (.fadr 56 (.t 8) 3) .unit,
  .p (.store (.t 56) (.c (.int .i64 1)) 1) .unit,
  .p (.fadr 57 (.t 8) 4) .unit,
  .p (.store (.t 57) (.t 55) 1) .unit])
 (.seq (.reg none [.p (.mv 58 (.t 0)) .unit,
  .p (.iadr 59 1 (.t 58) (.c (.int .i64 0))) .unit,
  .p (.load 60 (.t 59) 1 false) .unit,
  .p (.bin 61 false .eql (.t 60) (.c (.string (ba [115, 97, 102, 101])))) .unit])
 (.cond (.t 61) (.reg none [.p (.fadr 62 (.t 8) 3) .unit,
  .p (.store (.t 62) (.c (.int .i64 2)) 1) .unit]) .skip))) .skip))))))
 (.seq (.reg (some [[], [], [1], [2], [3, 2, 2], [2, 4], [0, 4, 0], [5, 6, 0, 1, 2, 3, 4, 5, 6]]) [.p (.load 63 (.t 8) 5 true) .unit,
  .p (.mv 64 (.t 6)) .unit,
  .p (.mv 65 (.t 64)) .unit,
  .g 65 true (some 66) (.load 66 (.t 8) 5 true) .unit,
  .g 65 true (some 67) (.callB 67 n_impl_DeedOk [((.t 66), 0)]) .unit,
  .p (.pick 68 (.t 65) (.t 67) (.c (.bool false))) .unit,
  .p (.store (.t 2) (.t 63) 5) .unit,
  .p (.mv 3 (.t 68)) .unit])
 .ret))))))),
 69, 1, [.c 2 5 true, .t 3]⟩
theorem m_impl_readDeed : mH Tryd.prog 33 [] = some (F_impl_readDeed.code.x, F_impl_readDeed.N, F_impl_readDeed.np, F_impl_readDeed.res) := by kernel_rfl
noncomputable def T_impl_readDeed : List (List UInt8) → Option ((Int × Int × Int × Int × List UInt8) × Bool) := evF [fn_impl_deedOf, fn_impl_ReadDecimal, fn_impl_DeedOk] F_impl_readDeed [.cell (.sl false .str)] [] [.agg (.pair (.int .i64) (.pair (.int .i64) (.pair (.int .i64) (.pair (.int .i64) .str)))), .cell .bool] []
noncomputable def fn_impl_readDeed : TFn := ⟨33, [.cell (.sl false .str)], [], [.agg (.pair (.int .i64) (.pair (.int .i64) (.pair (.int .i64) (.pair (.int .i64) .str)))), .cell .bool], [], T_impl_readDeed⟩
theorem ok_impl_readDeed : FnOk Tryd.prog fn_impl_readDeed := evF_ok mixed (allOk_cons ok_impl_deedOf (allOk_cons ok_impl_ReadDecimal (allOk_cons ok_impl_DeedOk allOk_nil))) m_impl_readDeed (by decide)
def F___impl_script__addLine : TF := ⟨(.seq (.reg none [.p (.mv 4 (.c (.bool false))) .unit])
 (.seq (.seq (.reg none [.p (.mv 9 (.t 1)) .unit,
  .p (.iadr 10 1 (.t 9) (.c (.int .i64 0))) .unit,
  .p (.load 11 (.t 10) 1 false) .unit,
  .p (.bin 12 false .eql (.t 11) (.c (.string (ba [114, 105, 110, 103])))) .unit])
 (.cond (.t 12) (.seq (.reg none [.p (.mvP 14 0) .unit,
  .p (.nilck 15 (.t 14)) .unit,
  .p (.fadr 16 (.t 15) 0) .unit,
  .p (.load 17 (.t 16) 1 false) .unit,
  .p (.lenB 18 (.t 17)) .unit,
  .p (.bin 19 false .add (.t 18) (.c (.int .i64 1))) .unit,
  .p (.mv 20 (.t 1)) .unit,
  .p (.callB 21 n_impl_readRing [((.t 19), 0), ((.t 20), 0)]) .unit,
  .p (.mvT 13 21) .unit,
  .p (.extT 22 13 0) .unit,
  .p (.ext 23 (.t 13) 1) .unit,
  .p (.alloc 5 [(.lit (.int .i64 0)), (.sl true 1 [])]) .unit,
  .p (.storeT (.t 5) 22 2) .unit,
  .p (.mv 6 (.t 23)) .unit])
 (.seq (.reg (some [[], [], [1], [2], [3], [], [5], [4, 6], [0, 0, 1, 2, 3, 4, 5, 6, 7], [8, 0, 1, 2, 3, 4, 5, 6, 7], [9, 7, 7, 0, 1, 2, 3, 4, 5, 6, 7]]) [.p (.mvP 24 0) .unit,
  .p (.mvP 25 0) .unit,
  .p (.nilck 26 (.t 25)) .unit,
  .p (.fadr 27 (.t 26) 0) .unit,
  .p (.load 28 (.t 27) 1 false) .unit,
  .p (.loadT 29 (.t 5) 2 true) .unit,
  .p (.bldS 30 1 [(.lit (.int .i64 0)), (.sl true 1 [])] [⟨0, 2, (.t 29)⟩]) (.pair (.int .i64) (.sl true (.int .i64))),
  .p (.appC 31 2 32 28 (.t 30) true) (.pair (.int .i64) (.sl true (.int .i64))),
  .p (.nilck 32 (.t 24)) .unit,
  .p (.fadr 33 (.t 32) 0) .unit,
  .p (.storeT (.t 33) 31 1) .unit])
 (.seq (.reg none [.p (.mv 34 (.t 6)) .unit,
  .p (.mv 35 (.t 34)) .unit,
  .g 35 true (some 36) (.mvP 36 0) .unit,
  .g 35 true (some 37) (.nilck 37 (.t 36)) .unit,
  .g 35 true (some 38) (.fadr 38 (.t 37) 1) .unit,
  .g 35 true (some 39) (.load 39 (.t 38) 1 false) .unit,
  .g 35 true (some 40) (.lenB 40 (.t 39)) .unit,
  .g 35 true (some 41) (.bin 41 false .eql (.t 40) (.c (.int .i64 0))) .unit,
  .p (.pick 42 (.t 35) (.t 41) (.c (.bool false))) .unit,
  .p (.mv 43 (.t 42)) .unit,
  .g 43 true (some 44) (.mvP 44 0) .unit,
  .g 43 true (some 45) (.nilck 45 (.t 44)) .unit,
  .g 43 true (some 46) (.fadr 46 (.t 45) 0) .unit,
  .g 43 true (some 47) (.load 47 (.t 46) 1 false) .unit,
  .g 43 true (some 48) (.callB 48 n_impl_RingsOk [((.t 47), 0)]) .unit,
  .p (.pick 49 (.t 43) (.t 48) (.c (.bool false))) .unit,
  .p (.mv 4 (.t 49)) .unit])
 .ret))) .skip))
 (.seq (.reg none [.p (.mv 51 (.t 1)) .unit,
  .p (.callB 52 n_impl_readDeed [((.t 51), 0)]) .unit,
  .p (.mv 50 (.t 52)) .unit,
  .p (.ext 53 (.t 50) 0) .unit,
  .p (.ext 54 (.t 50) 1) .unit,
  .p (.alloc 7 [(.lit (.int .i64 0)), (.lit (.int .i64 0)), (.lit (.int .i64 0)), (.lit (.int .i64 0)), (.lit (.string (ba [])))]) .unit,
  .p (.store (.t 7) (.t 53) 5) .unit,
  .p (.mv 8 (.t 54)) .unit])
 (.seq (.seq (.join ⟨[(0, true), (7, false), (72, false)], [.box (.pair (.sl true (.pair (.int .i64) (.sl true (.int .i64)))) (.sl true (.pair (.int .i64) (.pair (.int .i64) (.pair (.int .i64) (.pair (.int .i64) .str)))))), .box (.pair (.int .i64) (.pair (.int .i64) (.pair (.int .i64) (.pair (.int .i64) .str)))), .cell .bool]⟩ (.reg none [.p (.mv 55 (.t 8)) .unit,
  .p (.un 56 .not (.t 55)) .unit,
  .p (.mv 57 (.t 56)) .unit,
  .g 57 false (some 58) (.mvP 58 0) .unit,
  .g 57 false (some 59) (.nilck 59 (.t 58)) .unit,
  .g 57 false (some 60) (.fadr 60 (.t 59) 0) .unit,
  .g 57 false (some 61) (.load 61 (.t 60) 1 false) .unit,
  .g 57 false (some 62) (.lenB 62 (.t 61)) .unit,
  .g 57 false (some 63) (.bin 63 false .eql (.t 62) (.c (.int .i64 0))) .unit,
  .p (.pick 64 (.t 57) (.c (.bool true)) (.t 63)) .unit,
  .p (.mv 65 (.t 64)) .unit,
  .g 65 false (some 66) (.mvP 66 0) .unit,
  .g 65 false (some 67) (.nilck 67 (.t 66)) .unit,
  .g 65 false (some 68) (.fadr 68 (.t 67) 1) .unit,
  .g 65 false (some 69) (.load 69 (.t 68) 1 false) .unit,
  .g 65 false (some 70) (.lenB 70 (.t 69)) .unit,
  .g 65 false (some 71) (.bin 71 false .geq (.t 70) (.c (.int .i64 90))) .unit,
  .p (.pick 72 (.t 65) (.c (.bool true)) (.t 71)) .unit]))
 (.cond (.t 72) (.seq (.reg none [.p (.mv 4 (.c (.bool false))) .unit])
 .ret) .skip))
 (.seq (.reg (some [[], [], [1], [2], [3], [], [5], [4, 6], [0, 0, 1, 2, 3, 4, 5, 6, 7], [8, 0, 1, 2, 3, 4, 5, 6, 7], [9, 7, 7, 0, 1, 2, 3, 4, 5, 6, 7]]) [.p (.mvP 73 0) .unit,
  .p (.mvP 74 0) .unit,
  .p (.nilck 75 (.t 74)) .unit,
  .p (.fadr 76 (.t 75) 1) .unit,
  .p (.load 77 (.t 76) 1 false) .unit,
  .p (.load 78 (.t 7) 5 true) .unit,
  .p (.bldS 79 1 [(.lit (.int .i64 0)), (.lit (.int .i64 0)), (.lit (.int .i64 0)), (.lit (.int .i64 0)), (.lit (.string (ba [])))] [⟨0, 5, (.t 78)⟩]) (.pair (.int .i64) (.pair (.int .i64) (.pair (.int .i64) (.pair (.int .i64) .str)))),
  .p (.appC 80 5 48 77 (.t 79) false) (.pair (.int .i64) (.pair (.int .i64) (.pair (.int .i64) (.pair (.int .i64) .str)))),
  .p (.nilck 81 (.t 73)) .unit,
  .p (.fadr 82 (.t 81) 1) .unit,
  .p (.storeT (.t 82) 80 1) .unit])
 (.seq (.reg none [.p (.mv 4 (.c (.bool true))) .unit])
 .ret)))))),
 83, 2, [.t 4]⟩
theorem m___impl_script__addLine : mH Tryd.prog 20 [(2, 0, (.ms 0)), (2, 8, .t), (2, 9, .t), (2, 12, .t), (3, 0, (.ms 0)), (3, 1, (.ms 0)), (3, 5, .t), (3, 7, .v), (3, 10, .t), (4, 2, (.ms 0)), (4, 10, (.ms 0)), (6, 3, (.ms 0)), (6, 11, (.ms 0)), (8, 0, (.ms 0)), (8, 1, (.ms 0)), (8, 7, .z), (8, 10, .t)] = some (F___impl_script__addLine.code.x, F___impl_script__addLine.N, F___impl_script__addLine.np, F___impl_script__addLine.res) := by kernel_rfl
noncomputable def T___impl_script__addLine : (List (Int × List (Int)) × List (Int × Int × Int × Int × List UInt8)) × List (List UInt8) → Option ((Bool) × List (Int × List (Int)) × List (Int × Int × Int × Int × List UInt8)) := evF [fn_impl_readRing, fn_impl_RingsOk, fn_impl_readDeed] F___impl_script__addLine [.box (.pair (.sl true (.pair (.int .i64) (.sl true (.int .i64)))) (.sl true (.pair (.int .i64) (.pair (.int .i64) (.pair (.int .i64) (.pair (.int .i64) .str)))))), .cell (.sl false .str)] [0] [.cell .bool] [.box (.pair (.sl true (.pair (.int .i64) (.sl true (.int .i64)))) (.sl true (.pair (.int .i64) (.pair (.int .i64) (.pair (.int .i64) (.pair (.int .i64) .str))))))]
noncomputable def fn___impl_script__addLine : TFn := ⟨20, [.box (.pair (.sl true (.pair (.int .i64) (.sl true (.int .i64)))) (.sl true (.pair (.int .i64) (.pair (.int .i64) (.pair (.int .i64) (.pair (.int .i64) .str)))))), .cell (.sl false .str)], [0], [.cell .bool], [.box (.pair (.sl true (.pair (.int .i64) (.sl true (.int .i64)))) (.sl true (.pair (.int .i64) (.pair (.int .i64) (.pair (.int .i64) (.pair (.int .i64) .str))))))], T___impl_script__addLine⟩
theorem ok___impl_script__addLine : FnOk Tryd.prog fn___impl_script__addLine := evF_ok mixed (allOk_cons ok_impl_readRing (allOk_cons ok_impl_RingsOk (allOk_cons ok_impl_readDeed allOk_nil))) m___impl_script__addLine (by decide)
def B_impl_ReadScript_1 : TC := (.seq (.reg none [.p (.bin 24 false .lss (.t 23) (.t 22)) .unit])
 (.seq (.cond (.t 24) .skip (.exit 0))
 (.seq (.join ⟨[(6, false), (21, false), (22, false), (23, false)], [.box (.pair (.sl true (.pair (.int .i64) (.sl true (.int .i64)))) (.sl true (.pair (.int .i64) (.pair (.int .i64) (.pair (.int .i64) (.pair (.int .i64) .str)))))), .cell (.sl true .str), .cell (.int .i64), .cell (.int .i64)]⟩ (.block 1 (.seq (.reg none [.p (.mv 25 (.t 23)) .unit,
  .p (.iadr 26 1 (.t 21) (.t 23)) .unit,
  .p (.load 27 (.t 26) 1 false) .unit,
  .p (.mv 7 (.t 25)) .unit,
  .p (.mv 8 (.t 27)) .unit])
 (.seq (.reg none [.p (.mv 29 (.t 8)) .unit,
  .p (.callB 30 n_impl_PartsOf [((.t 29), 0)]) .unit,
  .p (.mvT 28 30) .unit,
  .p (.extT 31 28 0) .unit,
  .p (.ext 32 (.t 28) 1) .unit,
  .p (.mvT 9 31) .unit,
  .p (.mv 10 (.t 32)) .unit])
 (.seq (.seq (.join ⟨[(6, false), (7, false), (9, false), (10, false), (21, false), (22, false), (23, false), (45, false)], [.box (.pair (.sl true (.pair (.int .i64) (.sl true (.int .i64)))) (.sl true (.pair (.int .i64) (.pair (.int .i64) (.pair (.int .i64) (.pair (.int .i64) .str)))))), .cell (.int .i64), .cell (.sl true .str), .cell .bool, .cell (.sl true .str), .cell (.int .i64), .cell (.int .i64), .cell .bool]⟩ (.reg none [.p (.mv 33 (.t 10)) .unit,
  .p (.mv 34 (.t 33)) .unit,
  .g 34 true (some 35) (.mvA 35 9) .unit,
  .g 34 true (some 36) (.lenB 36 (.t 35)) .unit,
  .g 34 true (some 37) (.bin 37 false .eql (.t 36) (.c (.int .i64 0))) .unit,
  .g 34 true (some 38) (.mv 38 (.t 37)) .unit,
  .g 38 false (some 39) (.mvA 39 9) .unit,
  .g 38 false (some 40) (.iadr 40 1 (.t 39) (.c (.int .i64 0))) .unit,
  .g 38 false (some 41) (.load 41 (.t 40) 1 false) .unit,
  .g 38 false (some 42) (.idx 42 (.t 41) (.c (.int .i64 0))) .unit,
  .g 38 false (some 43) (.bin 43 false .eql (.t 42) (.c (.int .u8 35))) .unit,
  .g 34 true (some 44) (.pick 44 (.t 38) (.c (.bool true)) (.t 43)) .unit,
  .p (.pick 45 (.t 34) (.t 44) (.c (.bool false))) .unit]))
 (.cond (.t 45) (.exit 1) .skip))
 (.seq (.join ⟨[(6, false), (7, false), (21, false), (22, false), (23, false), (52, false)], [.box (.pair (.sl true (.pair (.int .i64) (.sl true (.int .i64)))) (.sl true (.pair (.int .i64) (.pair (.int .i64) (.pair (.int .i64) (.pair (.int .i64) .str)))))), .cell (.int .i64), .cell (.sl true .str), .cell (.int .i64), .cell (.int .i64), .cell .bool]⟩ (.reg none [.p (.mv 46 (.t 10)) .unit,
  .p (.un 47 .not (.t 46)) .unit,
  .p (.mv 48 (.t 47)) .unit,
  .g 48 false (some 49) (.mvT 49 9) .unit,
  .g 48 false (some 50) (.callM 50 n___impl_script__addLine [] (.tmp 6) [((.t 49), 0)]) .unit,
  .g 48 false (some 51) (.un 51 .not (.t 50)) .unit,
  .p (.pick 52 (.t 48) (.c (.bool true)) (.t 51)) .unit]))
 (.cond (.t 52) (.seq (.reg none [.p (.mv 53 (.t 7)) .unit,
  .p (.bin 54 false .add (.t 53) (.c (.int .i64 1))) .unit,
  .p (.mvN 2 2) .unit,
  .p (.mvN 3 5) .unit,
  .p (.mv 4 (.t 54)) .unit])
 .ret) .skip)))))))
 (.reg none [.p (.bin 55 false .add (.t 23) (.c (.int .i64 1))) .unit,
  .p (.mv 23 (.t 55)) .unit]))))
noncomputable def L_impl_ReadScript_1 : Nat → (List (Int × List (Int)) × List (Int × Int × Int × Int × List UInt8)) × (List (List UInt8)) × (Int) × Int → Option ((List (Int × List (Int)) × List (Int × Int × Int × Int × List UInt8)) ⊕ ((List (Int × List (Int))) × (List (Int × Int × Int × Int × List UInt8)) × Int)) := evL [fn_impl_scriptLines, fn_impl_PartsOf, fn___impl_script__addLine] (finT [.t 2, .t 3, .t 4] [] [.cell (.sl true (.pair (.int .i64) (.sl true (.int .i64)))), .cell (.sl true (.pair (.int .i64) (.pair (.int .i64) (.pair (.int .i64) (.pair (.int .i64) .str))))), .cell (.int .i64)]) 0 ⟨[(6, false), (21, false), (22, false), (23, false)], [.box (.pair (.sl true (.pair (.int .i64) (.sl true (.int .i64)))) (.sl true (.pair (.int .i64) (.pair (.int .i64) (.pair (.int .i64) (.pair (.int .i64) .str)))))), .cell (.sl true .str), .cell (.int .i64), .cell (.int .i64)]⟩ ⟨[(6, false)], [.box (.pair (.sl true (.pair (.int .i64) (.sl true (.int .i64)))) (.sl true (.pair (.int .i64) (.pair (.int .i64) (.pair (.int .i64) (.pair (.int .i64) .str))))))]⟩ B_impl_ReadScript_1
def F_impl_ReadScript : TF := ⟨(.seq (.reg none [.p (.mvN 2 2) .unit,
  .p (.mvN 3 5) .unit,
  .p (.mv 4 (.c (.int .i64 0))) .unit])
 (.seq (.reg none [.p (.mv 11 (.t 0)) .unit,
  .p (.callB 12 n_impl_scriptLines [((.t 11), 0)]) .unit,
  .p (.mvT 5 12) .unit])
 (.seq (.seq (.join ⟨[(5, false), (20, false)], [.cell (.sl true .str), .cell .bool]⟩ (.reg none [.p (.mv 13 (.t 0)) .unit,
  .p (.lenS 14 (.t 13)) .unit,
  .p (.bin 15 false .gtr (.t 14) (.c (.int .i64 4000))) .unit,
  .p (.mv 16 (.t 15)) .unit,
  .g 16 false (some 17) (.mvA 17 5) .unit,
  .g 16 false (some 18) (.lenB 18 (.t 17)) .unit,
  .g 16 false (some 19) (.bin 19 false .gtr (.t 18) (.c (.int .i64 110))) .unit,
  .p (.pick 20 (.t 16) (.c (.bool true)) (.t 19)) .unit]))
 (.cond (.t 20) (.seq (.reg none [.p (.mvN 2 2) .unit,
  .p (.mvN 3 5) .unit,
  .p (.mv 4 (.c (.int .i64 (-1)))) .unit])
 .ret) .skip))
 (.seq (.reg none [.p (.alloc 6 [(.sl true 2 []), (.sl true 5 [])]) .unit])
 (.seq (.seq (.reg none [.p (.mvT 21 5) .unit,
  .p (.lenB 22 (.t 21)) .unit,
  .p (.mv 23 (.c (.int .i64 0))) .unit])
 (.jl 0 ⟨[(6, false), (21, false), (22, false), (23, false)], [.box (.pair (.sl true (.pair (.int .i64) (.sl true (.int .i64)))) (.sl true (.pair (.int .i64) (.pair (.int .i64) (.pair (.int .i64) (.pair (.int .i64) .str)))))), .cell (.sl true .str), .cell (.int .i64), .cell (.int .i64)]⟩ ⟨[(6, false)], [.box (.pair (.sl true (.pair (.int .i64) (.sl true (.int .i64)))) (.sl true (.pair (.int .i64) (.pair (.int .i64) (.pair (.int .i64) (.pair (.int .i64) .str))))))]⟩ B_impl_ReadScript_1))
 (.seq (.seq (.reg none [.p (.fadr 56 (.t 6) 0) .unit,
  .p (.load 57 (.t 56) 1 false) .unit,
  .p (.lenB 58 (.t 57)) .unit,
  .p (.bin 59 false .eql (.t 58) (.c (.int .i64 0))) .unit])
 (.cond (.t 59) (.seq (.reg none [.p (.mvN 2 2) .unit,
  .p (.mvN 3 5) .unit,
  .p (.mv 4 (.c (.int .i64 1))) .unit])
 .ret) .skip))
 (.seq (.reg (some [[], [0], [], [2], [1, 0, 1], [3, 4, 0, 1, 2, 3, 4], [5, 0, 1, 2, 3, 4, 5]]) [.p (.fadr 60 (.t 6) 0) .unit,
  .p (.load 61 (.t 60) 1 false) .unit,
  .p (.fadr 62 (.t 6) 1) .unit,
  .p (.load 63 (.t 62) 1 false) .unit,
  .p (.mv 2 (.t 61)) .unit,
  .p (.mv 3 (.t 63)) .unit,
  .p (.mv 4 (.c (.int .i64 0))) .unit])
 .ret))))))),
 64, 1, [.t 2, .t 3, .t 4]⟩
theorem m_impl_ReadScript : mH Tryd.prog 5 [(1, 2, .t), (2, 4, .v), (5, 0, .t), (8, 2, .t), (8, 3, .t), (8, 5, .t), (9, 2, .v), (9, 6, .v), (10, 3, .t), (10, 4, (.m 0))] = some (F_impl_ReadScript.code.x, F_impl_ReadScript.N, F_impl_ReadScript.np, F_impl_ReadScript.res) := by kernel_rfl
noncomputable def T_impl_ReadScript : List UInt8 → Option ((List (Int × List (Int))) × (List (Int × Int × Int × Int × List UInt8)) × Int) := evF [fn_impl_scriptLines, fn_impl_PartsOf, fn___impl_script__addLine] F_impl_ReadScript [.cell .str] [] [.cell (.sl true (.pair (.int .i64) (.sl true (.int .i64)))), .cell (.sl true (.pair (.int .i64) (.pair (.int .i64) (.pair (.int .i64) (.pair (.int .i64) .str))))), .cell (.int .i64)] []
noncomputable def fn_impl_ReadScript : TFn := ⟨5, [.cell .str], [], [.cell (.sl true (.pair (.int .i64) (.sl true (.int .i64)))), .cell (.sl true (.pair (.int .i64) (.pair (.int .i64) (.pair (.int .i64) (.pair (.int .i64) .str))))), .cell (.int .i64)], [], T_impl_ReadScript⟩
theorem ok_impl_ReadScript : FnOk Tryd.prog fn_impl_ReadScript := evF_ok mixed (allOk_cons ok_impl_scriptLines (allOk_cons ok_impl_PartsOf (allOk_cons ok___impl_script__addLine allOk_nil))) m_impl_ReadScript (by decide)
def B_laws_eqIntS_1 : TC := (.seq (.seq (.reg none [.p (.mv 11 (.t 5)) .unit,
  .p (.mv 12 (.t 0)) .unit,
  .p (.lenB 13 (.t 12)) .unit,
  .p (.bin 14 false .lss (.t 11) (.t 13)) .unit])
 (.cond (.t 14) .skip (.exit 0)))
 (.seq (.block 1 (.seq (.reg (some [[], [], [0, 1], [2], [], [], [4, 5], [6], [3, 7]]) [.p (.mv 17 (.t 0)) .unit,
  .p (.mv 18 (.t 5)) .unit,
  .p (.iadr 19 1 (.t 17) (.t 18)) .unit,
  .p (.load 20 (.t 19) 1 false) .unit,
  .p (.mv 21 (.t 1)) .unit,
  .p (.mv 22 (.t 5)) .unit,
  .p (.iadr 23 1 (.t 21) (.t 22)) .unit,
  .p (.load 24 (.t 23) 1 false) .unit,
  .p (.bin 25 false .neq (.t 20) (.t 24)) .unit])
 (.cond (.t 25) (.seq (.reg none [.p (.mv 4 (.c (.bool false))) .unit])
 .ret) .skip)))
 (.reg none [.p (.mv 15 (.t 5)) .unit,
  .p (.bin 16 false .add (.t 15) (.c (.int .i64 1))) .unit,
  .p (.mv 5 (.t 16)) .unit])))
noncomputable def L_laws_eqIntS_1 : Nat → (List (Int)) × (List (Int)) × Int → Option ((Unit) ⊕ (Bool)) := evL [] (finT [.t 4] [] [.cell .bool]) 0 ⟨[(0, true), (1, true), (5, false)], [.cell (.sl false (.int .i64)), .cell (.sl false (.int .i64)), .cell (.int .i64)]⟩ ⟨[], []⟩ B_laws_eqIntS_1
def F_laws_eqIntS : TF := ⟨(.seq (.reg none [.p (.mv 4 (.c (.bool false))) .unit])
 (.seq (.seq (.reg none [.p (.mv 6 (.t 0)) .unit,
  .p (.lenB 7 (.t 6)) .unit,
  .p (.mv 8 (.t 1)) .unit,
  .p (.lenB 9 (.t 8)) .unit,
  .p (.bin 10 false .neq (.t 7) (.t 9)) .unit])
 (.cond (.t 10) (.seq (.reg none [.p (.mv 4 (.c (.bool false))) .unit])
 .ret) .skip))
 (.seq (.seq (.reg none [.p (.mv 5 (.c (.int .i64 0))) .unit])
 (.jl 0 ⟨[(0, true), (1, true), (5, false)], [.cell (.sl false (.int .i64)), .cell (.sl false (.int .i64)), .cell (.int .i64)]⟩ ⟨[], []⟩ B_laws_eqIntS_1))
 (.seq (.reg none [.p (.mv 4 (.c (.bool true))) .unit])
 .ret)))),
 26, 2, [.t 4]⟩
theorem m_laws_eqIntS : mH Tryd.prog 34 [] = some (F_laws_eqIntS.code.x, F_laws_eqIntS.N, F_laws_eqIntS.np, F_laws_eqIntS.res) := by kernel_rfl
noncomputable def T_laws_eqIntS : (List (Int)) × List (Int) → Option (Bool) := evF [] F_laws_eqIntS [.cell (.sl false (.int .i64)), .cell (.sl false (.int .i64))] [] [.cell .bool] []
noncomputable def fn_laws_eqIntS : TFn := ⟨34, [.cell (.sl false (.int .i64)), .cell (.sl false (.int .i64))], [], [.cell .bool], [], T_laws_eqIntS⟩
theorem ok_laws_eqIntS : FnOk Tryd.prog fn_laws_eqIntS := evF_ok mixed allOk_nil m_laws_eqIntS (by decide)
def F_laws_eqRing : TF := ⟨(.seq (.reg none [.p (.box 2 (.t 0)) .unit,
  .p (.box 3 (.t 1)) .unit,
  .p (.mv 4 (.c (.bool false))) .unit])
 (.seq (.seq (.reg none [.p (.fadr 5 (.t 2) 0) .unit,
  .p (.load 6 (.t 5) 1 false) .unit,
  .p (.fadr 7 (.t 3) 0) .unit,
  .p (.load 8 (.t 7) 1 false) .unit,
  .p (.bin 9 false .neq (.t 6) (.t 8)) .unit])
 (.cond (.t 9) (.seq (.reg none [.p (.mv 4 (.c (.bool false))) .unit])
 .ret) .skip))
 (.seq (.seq (.reg none [.p (.fadr 10 (.t 2) 1) .unit,
  .p (.load 11 (.t 10) 1 false) .unit,
  .p (.fadr 12 (.t 3) 1) .unit,
  .p (.load 13 (.t 12) 1 false) .unit,
  .p (.callB 14 n_laws_eqIntS [((.t 11), 0), ((.t 13), 0)]) .unit,
  .p (.un 15 .not (.t 14)) .unit])
 (.cond (.t 15) (.seq (.reg none [.p (.mv 4 (.c (.bool false))) .unit])
 .ret) .skip))
 (.seq (.reg none [.p (.mv 4 (.c (.bool true))) .unit])
 .ret)))),
 16, 2, [.t 4]⟩
theorem m_laws_eqRing : mH Tryd.prog 21 [] = some (F_laws_eqRing.code.x, F_laws_eqRing.N, F_laws_eqRing.np, F_laws_eqRing.res) := by kernel_rfl
noncomputable def T_laws_eqRing : (Int × List (Int)) × Int × List (Int) → Option (Bool) := evF [fn_laws_eqIntS] F_laws_eqRing [.agg (.pair (.int .i64) (.sl false (.int .i64))), .agg (.pair (.int .i64) (.sl false (.int .i64)))] [] [.cell .bool] []
noncomputable def fn_laws_eqRing : TFn := ⟨21, [.agg (.pair (.int .i64) (.sl false (.int .i64))), .agg (.pair (.int .i64) (.sl false (.int .i64)))], [], [.cell .bool], [], T_laws_eqRing⟩
theorem ok_laws_eqRing : FnOk Tryd.prog fn_laws_eqRing := evF_ok mixed (allOk_cons ok_laws_eqIntS allOk_nil) m_laws_eqRing (by decide)
def B_laws_eqRingS_1 : TC := (.seq (.seq (.reg none [.p (.mv 11 (.t 5)) .unit,
  .p (.mv 12 (.t 0)) .unit,
  .p (.lenB 13 (.t 12)) .unit,
  .p (.bin 14 false .lss (.t 11) (.t 13)) .unit])
 (.cond (.t 14) .skip (.exit 0)))
 (.seq (.block 1 (.seq (.reg (some [[], [], [0, 1], [2], [], [], [4, 5], [6], [3, 7], [8]]) [.p (.mv 17 (.t 0)) .unit,
  .p (.mv 18 (.t 5)) .unit,
  .p (.iadr 19 2 (.t 17) (.t 18)) .unit,
  .p (.load 20 (.t 19) 2 true) .unit,
  .p (.mv 21 (.t 1)) .unit,
  .p (.mv 22 (.t 5)) .unit,
  .p (.iadr 23 2 (.t 21) (.t 22)) .unit,
  .p (.load 24 (.t 23) 2 true) .unit,
  .p (.callB 25 n_laws_eqRing [((.t 20), 0), ((.t 24), 0)]) .unit,
  .p (.un 26 .not (.t 25)) .unit])
 (.cond (.t 26) (.seq (.reg none [.p (.mv 4 (.c (.bool false))) .unit])
 .ret) .skip)))
 (.reg none [.p (.mv 15 (.t 5)) .unit,
  .p (.bin 16 false .add (.t 15) (.c (.int .i64 1))) .unit,
  .p (.mv 5 (.t 16)) .unit])))
noncomputable def L_laws_eqRingS_1 : Nat → (List (Int × List (Int))) × (List (Int × List (Int))) × Int → Option ((Unit) ⊕ (Bool)) := evL [fn_laws_eqRing] (finT [.t 4] [] [.cell .bool]) 0 ⟨[(0, true), (1, true), (5, false)], [.cell (.sl false (.pair (.int .i64) (.sl false (.int .i64)))), .cell (.sl false (.pair (.int .i64) (.sl false (.int .i64)))), .cell (.int .i64)]⟩ ⟨[], []⟩ B_laws_eqRingS_1
def F_laws_eqRingS : TF := ⟨(.seq (.reg none [.p (.mv 4 (.c (.bool false))) .unit])
 (.seq (.seq (.reg none [.p (.mv 6 (.t 0)) .unit,
  .p (.lenB 7 (.t 6)) .unit,
  .p (.mv 8 (.t 1)) .unit,
  .p (.lenB 9 (.t 8)) .unit,
  .p (.bin 10 false .neq (.t 7) (.t 9)) .unit])
 (.cond (.t 10) (.seq (.reg none [.p (.mv 4 (.c (.bool false))) .unit])
 .ret) .skip))
 (.seq (.seq (.reg none [.p (.mv 5 (.c (.int .i64 0))) .unit])
 (.jl 0 ⟨[(0, true), (1, true), (5, false)], [.cell (.sl false (.pair (.int .i64) (.sl false (.int .i64)))), .cell (.sl false (.pair (.int .i64) (.sl false (.int .i64)))), .cell (.int .i64)]⟩ ⟨[], []⟩ B_laws_eqRingS_1))
 (.seq (.reg none [.p (.mv 4 (.c (.bool true))) .unit])
 .ret)))),
 27, 2, [.t 4]⟩
theorem m_laws_eqRingS : mH Tryd.prog 6 [] = some (F_laws_eqRingS.code.x, F_laws_eqRingS.N, F_laws_eqRingS.np, F_laws_eqRingS.res) := by kernel_rfl
noncomputable def T_laws_eqRingS : (List (Int × List (Int))) × List (Int × List (Int)) → Option (Bool) := evF [fn_laws_eqRing] F_laws_eqRingS [.cell (.sl false (.pair (.int .i64) (.sl false (.int .i64)))), .cell (.sl false (.pair (.int .i64) (.sl false (.int .i64))))] [] [.cell .bool] []
noncomputable def fn_laws_eqRingS : TFn := ⟨6, [.cell (.sl false (.pair (.int .i64) (.sl false (.int .i64)))), .cell (.sl false (.pair (.int .i64) (.sl false (.int .i64))))], [], [.cell .bool], [], T_laws_eqRingS⟩
theorem ok_laws_eqRingS : FnOk Tryd.prog fn_laws_eqRingS := evF_ok mixed (allOk_cons ok_laws_eqRing allOk_nil) m_laws_eqRingS (by decide)
def F_laws_eqDeed : TF := ⟨(.seq (.reg none [.p (.box 2 (.t 0)) .unit,
  .p (.box 3 (.t 1)) .unit,
  .p (.mv 4 (.c (.bool false))) .unit])
 (.seq (.seq (.reg none [.p (.fadr 5 (.t 2) 0) .unit,
  .p (.load 6 (.t 5) 1 false) .unit,
  .p (.fadr 7 (.t 3) 0) .unit,
  .p (.load 8 (.t 7) 1 false) .unit,
  .p (.bin 9 false .neq (.t 6) (.t 8)) .unit])
 (.cond (.t 9) (.seq (.reg none [.p (.mv 4 (.c (.bool false))) .unit])
 .ret) .skip))
 (.seq (.seq (.reg none [.p (.fadr 10 (.t 2) 1) .unit,
  .p (.load 11 (.t 10) 1 false) .unit,
  .p (.fadr 12 (.t 3) 1) .unit,
  .p (.load 13 (.t 12) 1 false) .unit,
  .p (.bin 14 false .neq (.t 11) (.t 13)) .unit])
 (.cond (.t 14) (.seq (.reg none [.p (.mv 4 (.c (.bool false))) .unit])
 .ret) .skip))
 (.seq (.seq (.reg none [.p (.fadr 15 (.t 2) 2) .unit,
  .p (.load 16 (.t 15) 1 false) .unit,
  .p (.fadr 17 (.t 3) 2) .unit,
  .p (.load 18 (.t 17) 1 false) .unit,
  .p (.bin 19 false .neq (.t 16) (.t 18)) .unit])
 (.cond (.t 19) (.seq (.reg none [.p (.mv 4 (.c (.bool false))) .unit])
 .ret) .skip))
 (.seq (.seq (.reg none [.p (.fadr 20 (.t 2) 3) .unit,
  .p (.load 21 (.t 20) 1 false) .unit,
  .p (.fadr 22 (.t 3) 3) .unit,
  .p (.load 23 (.t 22) 1 false) .unit,
  .p (.bin 24 false .neq (.t 21) (.t 23)) .unit])
 (.cond (.t 24) (.seq (.reg none [.p (.mv 4 (.c (.bool false))) .unit])
 .ret) .skip))
 (.seq (.seq (.reg none [.p (.fadr 25 (.t 2) 4) .unit,
  .p (.load 26 (.t 25) 1 false) .unit,
  .p (.fadr 27 (.t 3) 4) .unit,
  .p (.load 28 (.t 27) 1 false) .unit,
  .p (.bin 29 false .neq (.t 26) (.t 28)) .unit])
 (.cond (.t 29) (.seq (.reg none [.p (.mv 4 (.c (.bool false))) .unit])
 .ret) .skip))
 (.seq (.reg none [.p (.mv 4 (.c (.bool true))) .unit])
 .ret))))))),
 30, 2, [.t 4]⟩
theorem m_laws_eqDeed : mH Tryd.prog 22 [] = some (F_laws_eqDeed.code.x, F_laws_eqDeed.N, F_laws_eqDeed.np, F_laws_eqDeed.res) := by kernel_rfl
noncomputable def T_laws_eqDeed : (Int × Int × Int × Int × List UInt8) × Int × Int × Int × Int × List UInt8 → Option (Bool) := evF [] F_laws_eqDeed [.agg (.pair (.int .i64) (.pair (.int .i64) (.pair (.int .i64) (.pair (.int .i64) .str)))), .agg (.pair (.int .i64) (.pair (.int .i64) (.pair (.int .i64) (.pair (.int .i64) .str))))] [] [.cell .bool] []
noncomputable def fn_laws_eqDeed : TFn := ⟨22, [.agg (.pair (.int .i64) (.pair (.int .i64) (.pair (.int .i64) (.pair (.int .i64) .str)))), .agg (.pair (.int .i64) (.pair (.int .i64) (.pair (.int .i64) (.pair (.int .i64) .str))))], [], [.cell .bool], [], T_laws_eqDeed⟩
theorem ok_laws_eqDeed : FnOk Tryd.prog fn_laws_eqDeed := evF_ok mixed allOk_nil m_laws_eqDeed (by decide)
def B_laws_eqDeedS_1 : TC := (.seq (.seq (.reg none [.p (.mv 11 (.t 5)) .unit,
  .p (.mv 12 (.t 0)) .unit,
  .p (.lenB 13 (.t 12)) .unit,
  .p (.bin 14 false .lss (.t 11) (.t 13)) .unit])
 (.cond (.t 14) .skip (.exit 0)))
 (.seq (.block 1 (.seq (.reg (some [[], [], [0, 1], [2], [], [], [4, 5], [6], [3, 7], [8]]) [.p (.mv 17 (.t 0)) .unit,
  .p (.mv 18 (.t 5)) .unit,
  .p (.iadr 19 5 (.t 17) (.t 18)) .unit,
  .p (.load 20 (.t 19) 5 true) .unit,
  .p (.mv 21 (.t 1)) .unit,
  .p (.mv 22 (.t 5)) .unit,
  .p (.iadr 23 5 (.t 21) (.t 22)) .unit,
  .p (.load 24 (.t 23) 5 true) .unit,
  .p (.callB 25 n_laws_eqDeed [((.t 20), 0), ((.t 24), 0)]) .unit,
  .p (.un 26 .not (.t 25)) .unit])
 (.cond (.t 26) (.seq (.reg none [.p (.mv 4 (.c (.bool false))) .unit])
 .ret) .skip)))
 (.reg none [.p (.mv 15 (.t 5)) .unit,
  .p (.bin 16 false .add (.t 15) (.c (.int .i64 1))) .unit,
  .p (.mv 5 (.t 16)) .unit])))
noncomputable def L_laws_eqDeedS_1 : Nat → (List (Int × Int × Int × Int × List UInt8)) × (List (Int × Int × Int × Int × List UInt8)) × Int → Option ((Unit) ⊕ (Bool)) := evL [fn_laws_eqDeed] (finT [.t 4] [] [.cell .bool]) 0 ⟨[(0, true), (1, true), (5, false)], [.cell (.sl false (.pair (.int .i64) (.pair (.int .i64) (.pair (.int .i64) (.pair (.int .i64) .str))))), .cell (.sl false (.pair (.int .i64) (.pair (.int .i64) (.pair (.int .i64) (.pair (.int .i64) .str))))), .cell (.int .i64)]⟩ ⟨[], []⟩ B_laws_eqDeedS_1
def F_laws_eqDeedS : TF := ⟨(.seq (.reg none [.p (.mv 4 (.c (.bool false))) .unit])
 (.seq (.seq (.reg none [.p (.mv 6 (.t 0)) .unit,
  .p (.lenB 7 (.t 6)) .unit,
  .p (.mv 8 (.t 1)) .unit,
  .p (.lenB 9 (.t 8)) .unit,
  .p (.bin 10 false .neq (.t 7) (.t 9)) .unit])
 (.cond (.t 10) (.seq (.reg none [.p (.mv 4 (.c (.bool false))) .unit])
 .ret) .skip))
 (.seq (.seq (.reg none [.p (.mv 5 (.c (.int .i64 0))) .unit])
 (.jl 0 ⟨[(0, true), (1, true), (5, false)], [.cell (.sl false (.pair (.int .i64) (.pair (.int .i64) (.pair (.int .i64) (.pair (.int .i64) .str))))), .cell (.sl false (.pair (.int .i64) (.pair (.int .i64) (.pair (.int .i64) (.pair (.int .i64) .str))))), .cell (.int .i64)]⟩ ⟨[], []⟩ B_laws_eqDeedS_1))
 (.seq (.reg none [.p (.mv 4 (.c (.bool true))) .unit])
 .ret)))),
 27, 2, [.t 4]⟩
theorem m_laws_eqDeedS : mH Tryd.prog 7 [] = some (F_laws_eqDeedS.code.x, F_laws_eqDeedS.N, F_laws_eqDeedS.np, F_laws_eqDeedS.res) := by kernel_rfl
noncomputable def T_laws_eqDeedS : (List (Int × Int × Int × Int × List UInt8)) × List (Int × Int × Int × Int × List UInt8) → Option (Bool) := evF [fn_laws_eqDeed] F_laws_eqDeedS [.cell (.sl false (.pair (.int .i64) (.pair (.int .i64) (.pair (.int .i64) (.pair (.int .i64) .str))))), .cell (.sl false (.pair (.int .i64) (.pair (.int .i64) (.pair (.int .i64) (.pair (.int .i64) .str)))))] [] [.cell .bool] []
noncomputable def fn_laws_eqDeedS : TFn := ⟨7, [.cell (.sl false (.pair (.int .i64) (.pair (.int .i64) (.pair (.int .i64) (.pair (.int .i64) .str))))), .cell (.sl false (.pair (.int .i64) (.pair (.int .i64) (.pair (.int .i64) (.pair (.int .i64) .str)))))], [], [.cell .bool], [], T_laws_eqDeedS⟩
theorem ok_laws_eqDeedS : FnOk Tryd.prog fn_laws_eqDeedS := evF_ok mixed (allOk_cons ok_laws_eqDeed allOk_nil) m_laws_eqDeedS (by decide)
def B_laws_markIntS_1 : TC := (.seq (.seq (.reg none [.p (.mv 6 (.t 5)) .unit,
  .p (.mvA 7 0) .unit,
  .p (.lenB 8 (.t 7)) .unit,
  .p (.bin 9 false .lss (.t 6) (.t 8)) .unit])
 (.cond (.t 9) .skip (.exit 0)))
 (.seq (.block 1 (.seq (.reg none [.p (.mvA 12 0) .unit,
  .p (.mv 13 (.t 5)) .unit,
  .p (.mv 14 (.t 1)) .unit,
  .p (.iadr 15 1 (.t 12) (.t 13)) .unit,
  .p (.store (.t 15) (.t 14) 1) .unit])
 (.reg none [.p (.mv 16 (.t 1)) .unit,
  .p (.bin 17 false .add (.t 16) (.c (.int .i64 1))) .unit,
  .p (.mv 1 (.t 17)) .unit])))
 (.reg none [.p (.mv 10 (.t 5)) .unit,
  .p (.bin 11 false .add (.t 10) (.c (.int .i64 1))) .unit,
  .p (.mv 5 (.t 11)) .unit])))
noncomputable def L_laws_markIntS_1 : Nat → (List (Int)) × (Int) × Int → Option (((List (Int)) × Int) ⊕ ((Int) × List (Int))) := evL [] (finT [.t 4] [0] [.cell (.int .i64), .cell (.sl true (.int .i64))]) 0 ⟨[(0, true), (1, false), (5, false)], [.cell (.sl true (.int .i64)), .cell (.int .i64), .cell (.int .i64)]⟩ ⟨[(0, true), (1, false)], [.cell (.sl true (.int .i64)), .cell (.int .i64)]⟩ B_laws_markIntS_1
def F_laws_markIntS : TF := ⟨(.seq (.reg none [.p (.mv 4 (.c (.int .i64 0))) .unit])
 (.seq (.seq (.reg none [.p (.mv 5 (.c (.int .i64 0))) .unit])
 (.jl 0 ⟨[(0, true), (1, false), (5, false)], [.cell (.sl true (.int .i64)), .cell (.int .i64), .cell (.int .i64)]⟩ ⟨[(0, true), (1, false)], [.cell (.sl true (.int .i64)), .cell (.int .i64)]⟩ B_laws_markIntS_1))
 (.seq (.reg none [.p (.mv 18 (.t 1)) .unit,
  .p (.mv 4 (.t 18)) .unit])
 .ret))),
 19, 2, [.t 4]⟩
theorem m_laws_markIntS : mH Tryd.prog 23 [(2, 1, .v), (4, 0, .v)] = some (F_laws_markIntS.code.x, F_laws_markIntS.N, F_laws_markIntS.np, F_laws_markIntS.res) := by kernel_rfl
noncomputable def T_laws_markIntS : (List (Int)) × Int → Option ((Int) × List (Int)) := evF [] F_laws_markIntS [.cell (.sl true (.int .i64)), .cell (.int .i64)] [0] [.cell (.int .i64)] [.cell (.sl true (.int .i64))]
noncomputable def fn_laws_markIntS : TFn := ⟨23, [.cell (.sl true (.int .i64)), .cell (.int .i64)], [0], [.cell (.int .i64)], [.cell (.sl true (.int .i64))], T_laws_markIntS⟩
theorem ok_laws_markIntS : FnOk Tryd.prog fn_laws_markIntS := evF_ok mixed allOk_nil m_laws_markIntS (by decide)
def B_laws_markRingS_1 : TC := (.seq (.seq (.reg none [.p (.mv 6 (.t 5)) .unit,
  .p (.mvA 7 0) .unit,
  .p (.lenB 8 (.t 7)) .unit,
  .p (.bin 9 false .lss (.t 6) (.t 8)) .unit])
 (.cond (.t 9) .skip (.exit 0)))
 (.seq (.block 1 (.seq (.join ⟨[(0, true), (1, false), (5, false)], [.cell (.sl true (.pair (.int .i64) (.sl true (.int .i64)))), .cell (.int .i64), .cell (.int .i64)]⟩ (.reg none [.p (.mvA 12 0) .unit,
  .p (.mv 13 (.t 5)) .unit,
  .p (.mv 14 (.t 1)) .unit,
  .p (.iadr 15 2 (.t 12) (.t 13)) .unit,
  .p (.fadr 16 (.t 15) 0) .unit,
  .p (.store (.t 16) (.t 14) 1) .unit]))
 (.seq (.reg none [.p (.mv 17 (.t 1)) .unit,
  .p (.bin 18 false .add (.t 17) (.c (.int .i64 1))) .unit,
  .p (.mv 1 (.t 18)) .unit])
 (.reg none [.p (.mvA 19 0) .unit,
  .p (.mv 20 (.t 5)) .unit,
  .p (.iadr 21 2 (.t 19) (.t 20)) .unit,
  .p (.fadr 22 (.t 21) 1) .unit,
  .p (.load 23 (.t 22) 1 false) .unit,
  .p (.mv 24 (.t 1)) .unit,
  .p (.callM 25 n_laws_markIntS [] (.agg (.t 23) 0) [((.t 24), 0)]) .unit,
  .p (.mv 1 (.t 25)) .unit]))))
 (.reg none [.p (.mv 10 (.t 5)) .unit,
  .p (.bin 11 false .add (.t 10) (.c (.int .i64 1))) .unit,
  .p (.mv 5 (.t 11)) .unit])))
noncomputable def L_laws_markRingS_1 : Nat → (List (Int × List (Int))) × (Int) × Int → Option (((List (Int × List (Int))) × Int) ⊕ ((Int) × List (Int × List (Int)))) := evL [fn_laws_markIntS] (finT [.t 4] [0] [.cell (.int .i64), .cell (.sl true (.pair (.int .i64) (.sl true (.int .i64))))]) 0 ⟨[(0, true), (1, false), (5, false)], [.cell (.sl true (.pair (.int .i64) (.sl true (.int .i64)))), .cell (.int .i64), .cell (.int .i64)]⟩ ⟨[(0, true), (1, false)], [.cell (.sl true (.pair (.int .i64) (.sl true (.int .i64)))), .cell (.int .i64)]⟩ B_laws_markRingS_1
def F_laws_markRingS : TF := ⟨(.seq (.reg none [.p (.mv 4 (.c (.int .i64 0))) .unit])
 (.seq (.seq (.reg none [.p (.mv 5 (.c (.int .i64 0))) .unit])
 (.jl 0 ⟨[(0, true), (1, false), (5, false)], [.cell (.sl true (.pair (.int .i64) (.sl true (.int .i64)))), .cell (.int .i64), .cell (.int .i64)]⟩ ⟨[(0, true), (1, false)], [.cell (.sl true (.pair (.int .i64) (.sl true (.int .i64)))), .cell (.int .i64)]⟩ B_laws_markRingS_1))
 (.seq (.reg none [.p (.mv 26 (.t 1)) .unit,
  .p (.mv 4 (.t 26)) .unit])
 .ret))),
 27, 2, [.t 4]⟩
theorem m_laws_markRingS : mH Tryd.prog 8 [(2, 1, .v), (4, 0, .v), (6, 0, .v), (6, 6, (.g 0 0))] = some (F_laws_markRingS.code.x, F_laws_markRingS.N, F_laws_markRingS.np, F_laws_markRingS.res) := by kernel_rfl
noncomputable def T_laws_markRingS : (List (Int × List (Int))) × Int → Option ((Int) × List (Int × List (Int))) := evF [fn_laws_markIntS] F_laws_markRingS [.cell (.sl true (.pair (.int .i64) (.sl true (.int .i64)))), .cell (.int .i64)] [0] [.cell (.int .i64)] [.cell (.sl true (.pair (.int .i64) (.sl true (.int .i64))))]
noncomputable def fn_laws_markRingS : TFn := ⟨8, [.cell (.sl true (.pair (.int .i64) (.sl true (.int .i64)))), .cell (.int .i64)], [0], [.cell (.int .i64)], [.cell (.sl true (.pair (.int .i64) (.sl true (.int .i64))))], T_laws_markRingS⟩
theorem ok_laws_markRingS : FnOk Tryd.prog fn_laws_markRingS := evF_ok mixed (allOk_cons ok_laws_markIntS allOk_nil) m_laws_markRingS (by decide)
def B_laws_markText_1 : TC := (.seq (.seq (.reg none [.p (.mv 6 (.t 0)) .unit,
  .p (.bin 7 false .gtr (.t 6) (.c (.int .i64 0))) .unit])
 (.cond (.t 7) .skip (.exit 0)))
 (.block 1 (.seq (.reg none [.p (.mv 8 (.t 0)) .unit,
  .p (.bin 9 false .rem (.t 8) (.c (.int .i64 10))) .unit,
  .p (.bin 10 false .add (.c (.int .i64 48)) (.t 9)) .unit,
  .p (.cvi 11 .u8 .i64 (.t 10)) .unit,
  .p (.bldS 12 1 [(.lit (.int .u8 0))] [⟨0, 1, (.t 11)⟩]) (.int .u8),
  .p (.b2s 13 (.t 12)) .unit,
  .p (.mv 14 (.t 3)) .unit,
  .p (.bin 15 false .add (.t 13) (.t 14)) .unit,
  .p (.mv 3 (.t 15)) .unit])
 (.reg none [.p (.mv 16 (.t 0)) .unit,
  .p (.bin 17 false .quo (.t 16) (.c (.int .i64 10))) .unit,
  .p (.mv 0 (.t 17)) .unit]))))
noncomputable def L_laws_markText_1 : Nat → (Int) × List UInt8 → Option ((List UInt8) ⊕ (List UInt8)) := evL [] (finT [.t 2] [] [.cell .str]) 0 ⟨[(0, false), (3, false)], [.cell (.int .i64), .cell .str]⟩ ⟨[(3, false)], [.cell .str]⟩ B_laws_markText_1
def F_laws_markText : TF := ⟨(.seq (.reg none [.p (.mv 2 (.c (.string (ba [])))) .unit])
 (.seq (.seq (.reg none [.p (.mv 4 (.t 0)) .unit,
  .p (.bin 5 false .leq (.t 4) (.c (.int .i64 0))) .unit])
 (.cond (.t 5) (.seq (.reg none [.p (.mv 2 (.c (.string (ba [109, 48])))) .unit])
 .ret) .skip))
 (.seq (.reg none [.p (.mv 3 (.c (.string (ba [])))) .unit])
 (.seq (.jl 0 ⟨[(0, false), (3, false)], [.cell (.int .i64), .cell .str]⟩ ⟨[(3, false)], [.cell .str]⟩ B_laws_markText_1)
 (.seq (.reg none [.p (.mv 18 (.t 3)) .unit,
  .p (.bin 19 false .add (.c (.string (ba [109]))) (.t 18)) .unit,
  .p (.mv 2 (.t 19)) .unit])
 .ret))))),
 20, 1, [.t 2]⟩
theorem m_laws_markText : mH Tryd.prog 24 [] = some (F_laws_markText.code.x, F_laws_markText.N, F_laws_markText.np, F_laws_markText.res) := by kernel_rfl
noncomputable def T_laws_markText : Int → Option (List UInt8) := evF [] F_laws_markText [.cell (.int .i64)] [] [.cell .str] []
noncomputable def fn_laws_markText : TFn := ⟨24, [.cell (.int .i64)], [], [.cell .str], [], T_laws_markText⟩
theorem ok_laws_markText : FnOk Tryd.prog fn_laws_markText := evF_ok mixed allOk_nil m_laws_markText (by decide)
def B_laws_markDeedS_1 : TC := (.seq (.seq (.reg none [.p (.mv 6 (.t 5)) .unit,
  .p (.mvA 7 0) .unit,
  .p (.lenB 8 (.t 7)) .unit,
  .p (.bin 9 false .lss (.t 6) (.t 8)) .unit])
 (.cond (.t 9) .skip (.exit 0)))
 (.seq (.block 1 (.seq (.join ⟨[(0, true), (1, false), (5, false)], [.cell (.sl true (.pair (.int .i64) (.pair (.int .i64) (.pair (.int .i64) (.pair (.int .i64) .str))))), .cell (.int .i64), .cell (.int .i64)]⟩ (.reg none [.p (.mvA 12 0) .unit,
  .p (.mv 13 (.t 5)) .unit,
  .p (.mv 14 (.t 1)) .unit,
  .p (.iadr 15 5 (.t 12) (.t 13)) .unit,
  .p (.fadr 16 (.t 15) 0) .unit,
  .p (.store (.t 16) (.t 14) 1) .unit]))
 (.seq (.reg none [.p (.mv 17 (.t 1)) .unit,
  .p (.bin 18 false .add (.t 17) (.c (.int .i64 1))) .unit,
  .p (.mv 1 (.t 18)) .unit])
 (.seq (.join ⟨[(0, true), (1, false), (5, false)], [.cell (.sl true (.pair (.int .i64) (.pair (.int .i64) (.pair (.int .i64) (.pair (.int .i64) .str))))), .cell (.int .i64), .cell (.int .i64)]⟩ (.reg none [.p (.mvA 19 0) .unit,
  .p (.mv 20 (.t 5)) .unit,
  .p (.mv 21 (.t 1)) .unit,
  .p (.iadr 22 5 (.t 19) (.t 20)) .unit,
  .p (.fadr 23 (.t 22) 1) .unit,
  .p (.store (.t 23) (.t 21) 1) .unit]))
 (.seq (.reg none [.p (.mv 24 (.t 1)) .unit,
  .p (.bin 25 false .add (.t 24) (.c (.int .i64 1))) .unit,
  .p (.mv 1 (.t 25)) .unit])
 (.seq (.join ⟨[(0, true), (1, false), (5, false)], [.cell (.sl true (.pair (.int .i64) (.pair (.int .i64) (.pair (.int .i64) (.pair (.int .i64) .str))))), .cell (.int .i64), .cell (.int .i64)]⟩ (.reg none [.p (.mvA 26 0) .unit,
  .p (.mv 27 (.t 5)) .unit,
  .p (.mv 28 (.t 1)) .unit,
  .p (.iadr 29 5 (.t 26) (.t 27)) .unit,
  .p (.fadr 30 (.t 29) 2) .unit,
  .p (.store (.t 30) (.t 28) 1) .unit]))
 (.seq (.reg none [.p (.mv 31 (.t 1)) .unit,
  .p (.bin 32 false .add (.t 31) (.c (.int .i64 1))) .unit,
  .p (.mv 1 (.t 32)) .unit])
 (.seq (.join ⟨[(0, true), (1, false), (5, false)], [.cell (.sl true (.pair (.int .i64) (.pair (.int .i64) (.pair (.int .i64) (.pair (.int .i64) .str))))), .cell (.int .i64), .cell (.int .i64)]⟩ (.reg none [.p (.mvA 33 0) .unit,
  .p (.mv 34 (.t 5)) .unit,
  .p (.mv 35 (.t 1)) .unit,
  .p (.iadr 36 5 (.t 33) (.t 34)) .unit,
  .p (.fadr 37 (.t 36) 3) .unit,
  .p (.store (.t 37) (.t 35) 1) .unit]))
 (.seq (.reg none [.p (.mv 38 (.t 1)) .unit,
  .p (.bin 39 false .add (.t 38) (.c (.int .i64 1))) .unit,
  .p (.mv 1 (.t 39)) .unit])
 (.seq (.reg none [.p (.mvA 40 0) .unit,
  .p (.mv 41 (.t 5)) .unit,
  .p (.mv 42 (.t 1)) .unit,
  .p (.callB 43 n_laws_markText [((.t 42), 0)]) .unit,
  .p (.iadr 44 5 (.t 40) (.t 41)) .unit,
  .p (.fadr 45 (.t 44) 4) .unit,
  .p (.store (.t 45) (.t 43) 1) .unit])
 (.reg none [.p (.mv 46 (.t 1)) .unit,
  .p (.bin 47 false .add (.t 46) (.c (.int .i64 1))) .unit,
  .p (.mv 1 (.t 47)) .unit])))))))))))
 (.reg none [.p (.mv 10 (.t 5)) .unit,
  .p (.bin 11 false .add (.t 10) (.c (.int .i64 1))) .unit,
  .p (.mv 5 (.t 11)) .unit])))
noncomputable def L_laws_markDeedS_1 : Nat → (List (Int × Int × Int × Int × List UInt8)) × (Int) × Int → Option (((List (Int × Int × Int × Int × List UInt8)) × Int) ⊕ ((Int) × List (Int × Int × Int × Int × List UInt8))) := evL [fn_laws_markText] (finT [.t 4] [0] [.cell (.int .i64), .cell (.sl true (.pair (.int .i64) (.pair (.int .i64) (.pair (.int .i64) (.pair (.int .i64) .str)))))]) 0 ⟨[(0, true), (1, false), (5, false)], [.cell (.sl true (.pair (.int .i64) (.pair (.int .i64) (.pair (.int .i64) (.pair (.int .i64) .str))))), .cell (.int .i64), .cell (.int .i64)]⟩ ⟨[(0, true), (1, false)], [.cell (.sl true (.pair (.int .i64) (.pair (.int .i64) (.pair (.int .i64) (.pair (.int .i64) .str))))), .cell (.int .i64)]⟩ B_laws_markDeedS_1
def F_laws_markDeedS : TF := ⟨(.seq (.reg none [.p (.mv 4 (.c (.int .i64 0))) .unit])
 (.seq (.seq (.reg none [.p (.mv 5 (.c (.int .i64 0))) .unit])
 (.jl 0 ⟨[(0, true), (1, false), (5, false)], [.cell (.sl true (.pair (.int .i64) (.pair (.int .i64) (.pair (.int .i64) (.pair (.int .i64) .str))))), .cell (.int .i64), .cell (.int .i64)]⟩ ⟨[(0, true), (1, false)], [.cell (.sl true (.pair (.int .i64) (.pair (.int .i64) (.pair (.int .i64) (.pair (.int .i64) .str))))), .cell (.int .i64)]⟩ B_laws_markDeedS_1))
 (.seq (.reg none [.p (.mv 48 (.t 1)) .unit,
  .p (.mv 4 (.t 48)) .unit])
 .ret))),
 49, 2, [.t 4]⟩
theorem m_laws_markDeedS : mH Tryd.prog 9 [(2, 1, .v), (4, 0, .v), (6, 0, .v), (8, 0, .v), (10, 0, .v), (12, 0, .v)] = some (F_laws_markDeedS.code.x, F_laws_markDeedS.N, F_laws_markDeedS.np, F_laws_markDeedS.res) := by kernel_rfl
noncomputable def T_laws_markDeedS : (List (Int × Int × Int × Int × List UInt8)) × Int → Option ((Int) × List (Int × Int × Int × Int × List UInt8)) := evF [fn_laws_markText] F_laws_markDeedS [.cell (.sl true (.pair (.int .i64) (.pair (.int .i64) (.pair (.int .i64) (.pair (.int .i64) .str))))), .cell (.int .i64)] [0] [.cell (.int .i64)] [.cell (.sl true (.pair (.int .i64) (.pair (.int .i64) (.pair (.int .i64) (.pair (.int .i64) .str)))))]
noncomputable def fn_laws_markDeedS : TFn := ⟨9, [.cell (.sl true (.pair (.int .i64) (.pair (.int .i64) (.pair (.int .i64) (.pair (.int .i64) .str))))), .cell (.int .i64)], [0], [.cell (.int .i64)], [.cell (.sl true (.pair (.int .i64) (.pair (.int .i64) (.pair (.int .i64) (.pair (.int .i64) .str)))))], T_laws_markDeedS⟩
theorem ok_laws_markDeedS : FnOk Tryd.prog fn_laws_markDeedS := evF_ok mixed (allOk_cons ok_laws_markText allOk_nil) m_laws_markDeedS (by decide)
def B_laws_heldIntS_1 : TC := (.seq (.seq (.reg none [.p (.mv 6 (.t 5)) .unit,
  .p (.mv 7 (.t 0)) .unit,
  .p (.lenB 8 (.t 7)) .unit,
  .p (.bin 9 false .lss (.t 6) (.t 8)) .unit])
 (.cond (.t 9) .skip (.exit 0)))
 (.seq (.block 1 (.seq (.seq (.reg none [.p (.mv 12 (.t 0)) .unit,
  .p (.mv 13 (.t 5)) .unit,
  .p (.iadr 14 1 (.t 12) (.t 13)) .unit,
  .p (.load 15 (.t 14) 1 false) .unit,
  .p (.mv 16 (.t 1)) .unit,
  .p (.bin 17 false .neq (.t 15) (.t 16)) .unit])
 (.cond (.t 17) (.seq (.reg none [.p (.mv 4 (.c (.int .i64 (-1)))) .unit])
 .ret) .skip))
 (.reg none [.p (.mv 18 (.t 1)) .unit,
  .p (.bin 19 false .add (.t 18) (.c (.int .i64 1))) .unit,
  .p (.mv 1 (.t 19)) .unit])))
 (.reg none [.p (.mv 10 (.t 5)) .unit,
  .p (.bin 11 false .add (.t 10) (.c (.int .i64 1))) .unit,
  .p (.mv 5 (.t 11)) .unit])))
noncomputable def L_laws_heldIntS_1 : Nat → (List (Int)) × (Int) × Int → Option ((Int) ⊕ (Int)) := evL [] (finT [.t 4] [] [.cell (.int .i64)]) 0 ⟨[(0, true), (1, false), (5, false)], [.cell (.sl false (.int .i64)), .cell (.int .i64), .cell (.int .i64)]⟩ ⟨[(1, false)], [.cell (.int .i64)]⟩ B_laws_heldIntS_1
def F_laws_heldIntS : TF := ⟨(.seq (.reg none [.p (.mv 4 (.c (.int .i64 0))) .unit])
 (.seq (.seq (.reg none [.p (.mv 5 (.c (.int .i64 0))) .unit])
 (.jl 0 ⟨[(0, true), (1, false), (5, false)], [.cell (.sl false (.int .i64)), .cell (.int .i64), .cell (.int .i64)]⟩ ⟨[(1, false)], [.cell (.int .i64)]⟩ B_laws_heldIntS_1))
 (.seq (.reg none [.p (.mv 20 (.t 1)) .unit,
  .p (.mv 4 (.t 20)) .unit])
 .ret))),
 21, 2, [.t 4]⟩
theorem m_laws_heldIntS : mH Tryd.prog 25 [] = some (F_laws_heldIntS.code.x, F_laws_heldIntS.N, F_laws_heldIntS.np, F_laws_heldIntS.res) := by kernel_rfl
noncomputable def T_laws_heldIntS : (List (Int)) × Int → Option (Int) := evF [] F_laws_heldIntS [.cell (.sl false (.int .i64)), .cell (.int .i64)] [] [.cell (.int .i64)] []
noncomputable def fn_laws_heldIntS : TFn := ⟨25, [.cell (.sl false (.int .i64)), .cell (.int .i64)], [], [.cell (.int .i64)], [], T_laws_heldIntS⟩
theorem ok_laws_heldIntS : FnOk Tryd.prog fn_laws_heldIntS := evF_ok mixed allOk_nil m_laws_heldIntS (by decide)
def B_laws_heldRingS_1 : TC := (.seq (.seq (.reg none [.p (.mv 6 (.t 5)) .unit,
  .p (.mv 7 (.t 0)) .unit,
  .p (.lenB 8 (.t 7)) .unit,
  .p (.bin 9 false .lss (.t 6) (.t 8)) .unit])
 (.cond (.t 9) .skip (.exit 0)))
 (.seq (.block 1 (.seq (.seq (.reg none [.p (.mv 12 (.t 0)) .unit,
  .p (.mv 13 (.t 5)) .unit,
  .p (.iadr 14 2 (.t 12) (.t 13)) .unit,
  .p (.fadr 15 (.t 14) 0) .unit,
  .p (.load 16 (.t 15) 1 false) .unit,
  .p (.mv 17 (.t 1)) .unit,
  .p (.bin 18 false .neq (.t 16) (.t 17)) .unit])
 (.cond (.t 18) (.seq (.reg none [.p (.mv 4 (.c (.int .i64 (-1)))) .unit])
 .ret) .skip))
 (.seq (.reg none [.p (.mv 19 (.t 1)) .unit,
  .p (.bin 20 false .add (.t 19) (.c (.int .i64 1))) .unit,
  .p (.mv 1 (.t 20)) .unit])
 (.seq (.reg none [.p (.mv 21 (.t 0)) .unit,
  .p (.mv 22 (.t 5)) .unit,
  .p (.iadr 23 2 (.t 21) (.t 22)) .unit,
  .p (.fadr 24 (.t 23) 1) .unit,
  .p (.load 25 (.t 24) 1 false) .unit,
  .p (.mv 26 (.t 1)) .unit,
  .p (.callB 27 n_laws_heldIntS [((.t 25), 0), ((.t 26), 0)]) .unit,
  .p (.mv 1 (.t 27)) .unit])
 (.seq (.reg none [.p (.mv 28 (.t 1)) .unit,
  .p (.bin 29 false .lss (.t 28) (.c (.int .i64 0))) .unit])
 (.cond (.t 29) (.seq (.reg none [.p (.mv 4 (.c (.int .i64 (-1)))) .unit])
 .ret) .skip))))))
 (.reg none [.p (.mv 10 (.t 5)) .unit,
  .p (.bin 11 false .add (.t 10) (.c (.int .i64 1))) .unit,
  .p (.mv 5 (.t 11)) .unit])))
noncomputable def L_laws_heldRingS_1 : Nat → (List (Int × List (Int))) × (Int) × Int → Option ((Int) ⊕ (Int)) := evL [fn_laws_heldIntS] (finT [.t 4] [] [.cell (.int .i64)]) 0 ⟨[(0, true), (1, false), (5, false)], [.cell (.sl false (.pair (.int .i64) (.sl false (.int .i64)))), .cell (.int .i64), .cell (.int .i64)]⟩ ⟨[(1, false)], [.cell (.int .i64)]⟩ B_laws_heldRingS_1
def F_laws_heldRingS : TF := ⟨(.seq (.reg none [.p (.mv 4 (.c (.int .i64 0))) .unit])
 (.seq (.seq (.reg none [.p (.mv 5 (.c (.int .i64 0))) .unit])
 (.jl 0 ⟨[(0, true), (1, false), (5, false)], [.cell (.sl false (.pair (.int .i64) (.sl false (.int .i64)))), .cell (.int .i64), .cell (.int .i64)]⟩ ⟨[(1, false)], [.cell (.int .i64)]⟩ B_laws_heldRingS_1))
 (.seq (.reg none [.p (.mv 30 (.t 1)) .unit,
  .p (.mv 4 (.t 30)) .unit])
 .ret))),
 31, 2, [.t 4]⟩
theorem m_laws_heldRingS : mH Tryd.prog 10 [] = some (F_laws_heldRingS.code.x, F_laws_heldRingS.N, F_laws_heldRingS.np, F_laws_heldRingS.res) := by kernel_rfl
noncomputable def T_laws_heldRingS : (List (Int × List (Int))) × Int → Option (Int) := evF [fn_laws_heldIntS] F_laws_heldRingS [.cell (.sl false (.pair (.int .i64) (.sl false (.int .i64)))), .cell (.int .i64)] [] [.cell (.int .i64)] []
noncomputable def fn_laws_heldRingS : TFn := ⟨10, [.cell (.sl false (.pair (.int .i64) (.sl false (.int .i64)))), .cell (.int .i64)], [], [.cell (.int .i64)], [], T_laws_heldRingS⟩
theorem ok_laws_heldRingS : FnOk Tryd.prog fn_laws_heldRingS := evF_ok mixed (allOk_cons ok_laws_heldIntS allOk_nil) m_laws_heldRingS (by decide)
def B_laws_heldDeedS_1 : TC := (.seq (.seq (.reg none [.p (.mv 6 (.t 5)) .unit,
  .p (.mv 7 (.t 0)) .unit,
  .p (.lenB 8 (.t 7)) .unit,
  .p (.bin 9 false .lss (.t 6) (.t 8)) .unit])
 (.cond (.t 9) .skip (.exit 0)))
 (.seq (.block 1 (.seq (.seq (.reg none [.p (.mv 12 (.t 0)) .unit,
  .p (.mv 13 (.t 5)) .unit,
  .p (.iadr 14 5 (.t 12) (.t 13)) .unit,
  .p (.fadr 15 (.t 14) 0) .unit,
  .p (.load 16 (.t 15) 1 false) .unit,
  .p (.mv 17 (.t 1)) .unit,
  .p (.bin 18 false .neq (.t 16) (.t 17)) .unit])
 (.cond (.t 18) (.seq (.reg none [.p (.mv 4 (.c (.int .i64 (-1)))) .unit])
 .ret) .skip))
 (.seq (.reg none [.p (.mv 19 (.t 1)) .unit,
  .p (.bin 20 false .add (.t 19) (.c (.int .i64 1))) .unit,
  .p (.mv 1 (.t 20)) .unit])
 (.seq (.seq (.reg none [.p (.mv 21 (.t 0)) .unit,
  .p (.mv 22 (.t 5)) .unit,
  .p (.iadr 23 5 (.t 21) (.t 22)) .unit,
  .p (.fadr 24 (.t 23) 1) .unit,
  .p (.load 25 (.t 24) 1 false) .unit,
  .p (.mv 26 (.t 1)) .unit,
  .p (.bin 27 false .neq (.t 25) (.t 26)) .unit])
 (.cond (.t 27) (.seq (.reg none [.p (.mv 4 (.c (.int .i64 (-1)))) .unit])
 .ret) .skip))
 (.seq (.reg none [.p (.mv 28 (.t 1)) .unit,
  .p (.bin 29 false .add (.t 28) (.c (.int .i64 1))) .unit,
  .p (.mv 1 (.t 29)) .unit])
 (.seq (.seq (.reg none [.p (.mv 30 (.t 0)) .unit,
  .p (.mv 31 (.t 5)) .unit,
  .p (.iadr 32 5 (.t 30) (.t 31)) .unit,
  .p (.fadr 33 (.t 32) 2) .unit,
  .p (.load 34 (.t 33) 1 false) .unit,
  .p (.mv 35 (.t 1)) .unit,
  .p (.bin 36 false .neq (.t 34) (.t 35)) .unit])
 (.cond (.t 36) (.seq (.reg none [.p (.mv 4 (.c (.int .i64 (-1)))) .unit])
 .ret) .skip))
 (.seq (.reg none [.p (.mv 37 (.t 1)) .unit,
  .p (.bin 38 false .add (.t 37) (.c (.int .i64 1))) .unit,
  .p (.mv 1 (.t 38)) .unit])
 (.seq (.seq (.reg none [.p (.mv 39 (.t 0)) .unit,
  .p (.mv 40 (.t 5)) .unit,
  .p (.iadr 41 5 (.t 39) (.t 40)) .unit,
  .p (.fadr 42 (.t 41) 3) .unit,
  .p (.load 43 (.t 42) 1 false) .unit,
  .p (.mv 44 (.t 1)) .unit,
  .p (.bin 45 false .neq (.t 43) (.t 44)) .unit])
 (.cond (.t 45) (.seq (.reg none [.p (.mv 4 (.c (.int .i64 (-1)))) .unit])
 .ret) .skip))
 (.seq (.reg none [.p (.mv 46 (.t 1)) .unit,
  .p (.bin 47 false .add (.t 46) (.c (.int .i64 1))) .unit,
  .p (.mv 1 (.t 47)) .unit])
 (.seq (.seq (.reg (some [[], [], [0, 1], [2], [3], [], [5], [4, 6]]) [.p (.mv 48 (.t 0)) .unit,
  .p (.mv 49 (.t 5)) .unit,
  .p (.iadr 50 5 (.t 48) (.t 49)) .unit,
  .p (.fadr 51 (.t 50) 4) .unit,
  .p (.load 52 (.t 51) 1 false) .unit,
  .p (.mv 53 (.t 1)) .unit,
  .p (.callB 54 n_laws_markText [((.t 53), 0)]) .unit,
  .p (.bin 55 false .neq (.t 52) (.t 54)) .unit])
 (.cond (.t 55) (.seq (.reg none [.p (.mv 4 (.c (.int .i64 (-1)))) .unit])
 .ret) .skip))
 (.reg none [.p (.mv 56 (.t 1)) .unit,
  .p (.bin 57 false .add (.t 56) (.c (.int .i64 1))) .unit,
  .p (.mv 1 (.t 57)) .unit])))))))))))
 (.reg none [.p (.mv 10 (.t 5)) .unit,
  .p (.bin 11 false .add (.t 10) (.c (.int .i64 1))) .unit,
  .p (.mv 5 (.t 11)) .unit])))
noncomputable def L_laws_heldDeedS_1 : Nat → (List (Int × Int × Int × Int × List UInt8)) × (Int) × Int → Option ((Int) ⊕ (Int)) := evL [fn_laws_markText] (finT [.t 4] [] [.cell (.int .i64)]) 0 ⟨[(0, true), (1, false), (5, false)], [.cell (.sl false (.pair (.int .i64) (.pair (.int .i64) (.pair (.int .i64) (.pair (.int .i64) .str))))), .cell (.int .i64), .cell (.int .i64)]⟩ ⟨[(1, false)], [.cell (.int .i64)]⟩ B_laws_heldDeedS_1
def F_laws_heldDeedS : TF := ⟨(.seq (.reg none [.p (.mv 4 (.c (.int .i64 0))) .unit])
 (.seq (.seq (.reg none [.p (.mv 5 (.c (.int .i64 0))) .unit])
 (.jl 0 ⟨[(0, true), (1, false), (5, false)], [.cell (.sl false (.pair (.int .i64) (.pair (.int .i64) (.pair (.int .i64) (.pair (.int .i64) .str))))), .cell (.int .i64), .cell (.int .i64)]⟩ ⟨[(1, false)], [.cell (.int .i64)]⟩ B_laws_heldDeedS_1))
 (.seq (.reg none [.p (.mv 58 (.t 1)) .unit,
  .p (.mv 4 (.t 58)) .unit])
 .ret))),
 59, 2, [.t 4]⟩
theorem m_laws_heldDeedS : mH Tryd.prog 11 [] = some (F_laws_heldDeedS.code.x, F_laws_heldDeedS.N, F_laws_heldDeedS.np, F_laws_heldDeedS.res) := by kernel_rfl
noncomputable def T_laws_heldDeedS : (List (Int × Int × Int × Int × List UInt8)) × Int → Option (Int) := evF [fn_laws_markText] F_laws_heldDeedS [.cell (.sl false (.pair (.int .i64) (.pair (.int .i64) (.pair (.int .i64) (.pair (.int .i64) .str))))), .cell (.int .i64)] [] [.cell (.int .i64)] []
noncomputable def fn_laws_heldDeedS : TFn := ⟨11, [.cell (.sl false (.pair (.int .i64) (.pair (.int .i64) (.pair (.int .i64) (.pair (.int .i64) .str))))), .cell (.int .i64)], [], [.cell (.int .i64)], [], T_laws_heldDeedS⟩
theorem ok_laws_heldDeedS : FnOk Tryd.prog fn_laws_heldDeedS := evF_ok mixed (allOk_cons ok_laws_markText allOk_nil) m_laws_heldDeedS (by decide)
def F_laws_FnExactReadScript : TF := ⟨(.seq (.reg none [.p (.mv 2 (.c (.bool false))) .unit])
 (.seq (.seq (.reg none [.p (.mv 14 (.t 0)) .unit,
  .p (.lenS 15 (.t 14)) .unit,
  .p (.bin 16 false .gtr (.t 15) (.c (.int .i64 1048576))) .unit])
 (.cond (.t 16) (.seq (.reg none [.p (.mv 2 (.c (.bool true))) .unit])
 .ret) .skip))
 (.seq (.reg none [.p (.mv 18 (.t 0)) .unit,
  .p (.callB 19 n_spec_ReadScript [((.t 18), 0)]) .unit,
  .p (.mvT 17 19) .unit,
  .p (.extT 20 17 0) .unit,
  .p (.extT 21 17 1) .unit,
  .p (.ext 22 (.t 17) 2) .unit,
  .p (.mvT 3 20) .unit,
  .p (.mvT 4 21) .unit,
  .p (.mv 5 (.t 22)) .unit])
 (.seq (.reg none [.p (.mv 24 (.t 0)) .unit,
  .p (.callB 25 n_impl_ReadScript [((.t 24), 0)]) .unit,
  .p (.mvT 23 25) .unit,
  .p (.extT 26 23 0) .unit,
  .p (.extT 27 23 1) .unit,
  .p (.ext 28 (.t 23) 2) .unit,
  .p (.mvT 6 26) .unit,
  .p (.mvT 7 27) .unit,
  .p (.mv 8 (.t 28)) .unit])
 (.seq (.seq (.join ⟨[(0, true), (3, false), (4, false), (5, false), (6, false), (7, false), (43, false)], [.cell .str, .cell (.sl true (.pair (.int .i64) (.sl true (.int .i64)))), .cell (.sl true (.pair (.int .i64) (.pair (.int .i64) (.pair (.int .i64) (.pair (.int .i64) .str))))), .cell (.int .i64), .cell (.sl true (.pair (.int .i64) (.sl true (.int .i64)))), .cell (.sl true (.pair (.int .i64) (.pair (.int .i64) (.pair (.int .i64) (.pair (.int .i64) .str))))), .cell .bool]⟩ (.reg none [.p (.mvA 29 6) .unit,
  .p (.mvA 30 3) .unit,
  .p (.callB 31 n_laws_eqRingS [((.t 29), 0), ((.t 30), 0)]) .unit,
  .p (.un 32 .not (.t 31)) .unit,
  .p (.mv 33 (.t 32)) .unit,
  .g 33 false (some 34) (.mvA 34 7) .unit,
  .g 33 false (some 35) (.mvA 35 4) .unit,
  .g 33 false (some 36) (.callB 36 n_laws_eqDeedS [((.t 34), 0), ((.t 35), 0)]) .unit,
  .g 33 false (some 37) (.un 37 .not (.t 36)) .unit,
  .p (.pick 38 (.t 33) (.c (.bool true)) (.t 37)) .unit,
  .p (.mv 39 (.t 38)) .unit,
  .g 39 false (some 40) (.mv 40 (.t 8)) .unit,
  .g 39 false (some 41) (.mv 41 (.t 5)) .unit,
  .g 39 false (some 42) (.bin 42 false .neq (.t 40) (.t 41)) .unit,
  .p (.pick 43 (.t 39) (.c (.bool true)) (.t 42)) .unit]))
 (.cond (.t 43) (.seq (.reg none [.p (.mv 2 (.c (.bool false))) .unit])
 .ret) .skip))
 (.seq (.reg none [.p (.mv 9 (.c (.int .i64 1))) .unit])
 (.seq (.reg none [.p (.mvA 44 6) .unit,
  .p (.mv 45 (.t 9)) .unit,
  .p (.callM 46 n_laws_markRingS [] (.ptr (.t 44) 6) [((.t 45), 0)]) .unit,
  .p (.mv 9 (.t 46)) .unit])
 (.seq (.reg none [.p (.mvA 47 7) .unit,
  .p (.mv 48 (.t 9)) .unit,
  .p (.callM 49 n_laws_markDeedS [] (.ptr (.t 47) 7) [((.t 48), 0)]) .unit,
  .p (.mv 9 (.t 49)) .unit])
 (.seq (.reg none [.p (.mv 10 (.c (.int .i64 1))) .unit])
 (.seq (.reg none [.p (.mvA 50 6) .unit,
  .p (.mv 51 (.t 10)) .unit,
  .p (.callB 52 n_laws_heldRingS [((.t 50), 0), ((.t 51), 0)]) .unit,
  .p (.mv 10 (.t 52)) .unit])
 (.seq (.seq (.reg none [.p (.mv 53 (.t 10)) .unit,
  .p (.bin 54 false .lss (.t 53) (.c (.int .i64 0))) .unit])
 (.cond (.t 54) (.seq (.reg none [.p (.mv 2 (.c (.bool false))) .unit])
 .ret) .skip))
 (.seq (.reg none [.p (.mvA 55 7) .unit,
  .p (.mv 56 (.t 10)) .unit,
  .p (.callB 57 n_laws_heldDeedS [((.t 55), 0), ((.t 56), 0)]) .unit,
  .p (.mv 10 (.t 57)) .unit])
 (.seq (.seq (.reg none [.p (.mv 58 (.t 10)) .unit,
  .p (.bin 59 false .lss (.t 58) (.c (.int .i64 0))) .unit])
 (.cond (.t 59) (.seq (.reg none [.p (.mv 2 (.c (.bool false))) .unit])
 .ret) .skip))
 (.seq (.seq (.reg none [.p (.mv 60 (.t 10)) .unit,
  .p (.mv 61 (.t 9)) .unit,
  .p (.bin 62 false .neq (.t 60) (.t 61)) .unit])
 (.cond (.t 62) (.seq (.reg none [.p (.mv 2 (.c (.bool false))) .unit])
 .ret) .skip))
 (.seq (.reg none [.p (.mv 64 (.t 0)) .unit,
  .p (.callB 65 n_impl_ReadScript [((.t 64), 0)]) .unit,
  .p (.mvT 63 65) .unit,
  .p (.extT 66 63 0) .unit,
  .p (.extT 67 63 1) .unit,
  .p (.ext 68 (.t 63) 2) .unit,
  .p (.mvT 11 66) .unit,
  .p (.mvT 12 67) .unit,
  .p (.mv 13 (.t 68)) .unit])
 (.seq (.seq (.join ⟨[(6, false), (7, false), (9, false), (83, false)], [.cell (.sl true (.pair (.int .i64) (.sl true (.int .i64)))), .cell (.sl true (.pair (.int .i64) (.pair (.int .i64) (.pair (.int .i64) (.pair (.int .i64) .str))))), .cell (.int .i64), .cell .bool]⟩ (.reg none [.p (.mvT 69 11) .unit,
  .p (.mvT 70 3) .unit,
  .p (.callB 71 n_laws_eqRingS [((.t 69), 0), ((.t 70), 0)]) .unit,
  .p (.un 72 .not (.t 71)) .unit,
  .p (.mv 73 (.t 72)) .unit,
  .g 73 false (some 74) (.mvT 74 12) .unit,
  .g 73 false (some 75) (.mvT 75 4) .unit,
  .g 73 false (some 76) (.callB 76 n_laws_eqDeedS [((.t 74), 0), ((.t 75), 0)]) .unit,
  .g 73 false (some 77) (.un 77 .not (.t 76)) .unit,
  .p (.pick 78 (.t 73) (.c (.bool true)) (.t 77)) .unit,
  .p (.mv 79 (.t 78)) .unit,
  .g 79 false (some 80) (.mv 80 (.t 13)) .unit,
  .g 79 false (some 81) (.mv 81 (.t 5)) .unit,
  .g 79 false (some 82) (.bin 82 false .neq (.t 80) (.t 81)) .unit,
  .p (.pick 83 (.t 79) (.c (.bool true)) (.t 82)) .unit]))
 (.cond (.t 83) (.seq (.reg none [.p (.mv 2 (.c (.bool false))) .unit])
 .ret) .skip))
 (.seq (.reg none [.p (.mv 10 (.c (.int .i64 1))) .unit])
 (.seq (.reg none [.p (.mvT 84 6) .unit,
  .p (.mv 85 (.t 10)) .unit,
  .p (.callB 86 n_laws_heldRingS [((.t 84), 0), ((.t 85), 0)]) .unit,
  .p (.mv 10 (.t 86)) .unit])
 (.seq (.seq (.reg none [.p (.mv 87 (.t 10)) .unit,
  .p (.bin 88 false .lss (.t 87) (.c (.int .i64 0))) .unit])
 (.cond (.t 88) (.seq (.reg none [.p (.mv 2 (.c (.bool false))) .unit])
 .ret) .skip))
 (.seq (.reg none [.p (.mvT 89 7) .unit,
  .p (.mv 90 (.t 10)) .unit,
  .p (.callB 91 n_laws_heldDeedS [((.t 89), 0), ((.t 90), 0)]) .unit,
  .p (.mv 10 (.t 91)) .unit])
 (.seq (.seq (.reg none [.p (.mv 92 (.t 10)) .unit,
  .p (.bin 93 false .lss (.t 92) (.c (.int .i64 0))) .unit])
 (.cond (.t 93) (.seq (.reg none [.p (.mv 2 (.c (.bool false))) .unit])
 .ret) .skip))
 (.seq (.seq (.reg none [.p (.mv 94 (.t 10)) .unit,
  .p (.mv 95 (.t 9)) .unit,
  .p (.bin 96 false .neq (.t 94) (.t 95)) .unit])
 (.cond (.t 96) (.seq (.reg none [.p (.mv 2 (.c (.bool false))) .unit])
 .ret) .skip))
 (.seq (.reg none [.p (.mv 2 (.c (.bool true))) .unit])
 .ret))))))))))))))))))))))),
 97, 1, [.t 2]⟩
theorem m_laws_FnExactReadScript : mH Tryd.prog 3 [(3, 2, .t), (3, 3, .t), (3, 4, .t), (3, 6, .t), (3, 7, .t), (4, 2, .t), (4, 3, .t), (4, 4, .t), (4, 6, .t), (4, 7, .t), (5, 0, .v), (5, 1, .v), (5, 5, .v), (5, 6, .v), (8, 0, .v), (8, 2, (.p 0 6)), (9, 0, .v), (9, 2, (.p 0 7)), (11, 0, .v), (14, 0, .v), (19, 2, .t), (19, 3, .t), (19, 4, .t), (19, 6, .t), (19, 7, .t), (20, 0, .t), (20, 1, .t), (20, 5, .t), (20, 6, .t), (23, 0, .t), (26, 0, .t)] = some (F_laws_FnExactReadScript.code.x, F_laws_FnExactReadScript.N, F_laws_FnExactReadScript.np, F_laws_FnExactReadScript.res) := by kernel_rfl
noncomputable def T_laws_FnExactReadScript : List UInt8 → Option (Bool) := evF [fn_spec_ReadScript, fn_impl_ReadScript, fn_laws_eqRingS, fn_laws_eqDeedS, fn_laws_markRingS, fn_laws_markDeedS, fn_laws_heldRingS, fn_laws_heldDeedS] F_laws_FnExactReadScript [.cell .str] [] [.cell .bool] []
noncomputable def fn_laws_FnExactReadScript : TFn := ⟨3, [.cell .str], [], [.cell .bool], [], T_laws_FnExactReadScript⟩
theorem ok_laws_FnExactReadScript : FnOk Tryd.prog fn_laws_FnExactReadScript := evF_ok mixed (allOk_cons ok_spec_ReadScript (allOk_cons ok_impl_ReadScript (allOk_cons ok_laws_eqRingS (allOk_cons ok_laws_eqDeedS (allOk_cons ok_laws_markRingS (allOk_cons ok_laws_markDeedS (allOk_cons ok_laws_heldRingS (allOk_cons ok_laws_heldDeedS allOk_nil)))))))) m_laws_FnExactReadScript (by decide)

end Xs
end Go.Proofs.YtceeeagdjphbnaaDoor
