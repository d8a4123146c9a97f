/- laws.FnExactOwnOnly returns true, for all arguments; its card. -/
import Derived.Test.YtjeikneboeallaaGreatDoorRows
import Derived.Test.YtjeikneboeallaaGreatDoorCards
import Derived.Test.YtjeikneboeallaaGreatDoorTie
import Derived.Test.YtjeikneboeallaaGreatDoorDoor
import Derived.Test.YtjeikneboeallaaGreatDoorXOwnP
namespace Go.Proofs.YtjeikneboeallaaGreatDoor.fnExactOwnOnly
open Go Vm Xs Go.ChangeShapes Go.WideShapes Go.ChangeAt Go.RowKit
theorem own : ownKnob Tryz.prog.godebug = none := by kernel_rfl
theorem laidOut : laidOutB Tryz.prog = true := by kernel_rfl
theorem read : ∀ t ∈ Tryz.f3.params.toList, Tryz.prog.readableRec t = true ∧ t < Tryz.prog.types.size := by
  have h : (Tryz.f3.params.toList.all fun t => Tryz.prog.readableRec t && decide (t < Tryz.prog.types.size)) = true := by kernel_rfl
  intro t ht
  have := List.all_eq_true.1 h t ht
  simp only [Bool.and_eq_true, decide_eq_true_eq] at this
  exact this
theorem okX : FnOk Tryz.prog ⟨3, [.agg (HallE false)], [], [.cell .bool], [], T_laws_FnExactOwnOnly⟩ := Eq.mp (by kernel_rfl) ok_laws_FnExactOwnOnly
theorem walk : ∃ tys, tysOf Tryz.prog Tryz.f3.params.toList = some tys ∧ ∀ vs, ArgsL tys vs → Ok Tryz.prog 3 vs (fun r _ => r = vb true) :=
  law_all okX (by kernel_rfl) law_FnExactOwnOnly
theorem tabAt : Rows.fnExactOwnOnlyRow.laid[2]? = some ("internal/strconv.uint64pow10", Lib.tabData .u64 Lib.pow10Tab) := by kernel_rfl
theorem tabs {W : World} (hL : laidMetH Tryz.prog Rows.fnExactOwnOnlyRow.laid W) (hsh : W.ShapedOpen Tryz.prog) : TabW Tryz.prog W :=
  tabW_of (tabIs_at (l := Rows.fnExactOwnOnlyRow.laid) (g := 0) (t := 235) (e := 227) (n := 20) 2 tabAt (by kernel_rfl) (by kernel_rfl) Tryz.underlying235 Tryz.underlying227 (by kernel_rfl) (by kernel_rfl) hL) (fun _ => intVar (g := 1) (t := 3) (zero := #[.int .i64 0]) (by kernel_rfl) hsh (of_decide_eq_true (by kernel_rfl)) (by kernel_rfl) rfl (by kernel_rfl) (by kernel_rfl) Tryz.underlying3)
theorem door_met (os : Os) (args : Array Value) : laidMetH Tryz.prog Rows.fnExactOwnOnlyRow.laid ((World.laidAll Tryz.prog os Rows.fnExactOwnOnlyRow.laid).forCall (fun _ _ => 0) ⟨#[], args, []⟩).memory :=
  show laidMet _ _ _ from laidMet_laidAll _ (by kernel_rfl) (by kernel_rfl)
set_option maxRecDepth 100000 in
theorem lifted (os : Os) (started : os.Started) (H : Type) (enc : TypeId × Value → H) :
    ReturnsInHanded {} Tryz.checked os 3 .any (fun w args => (Rows.fnExactOwnOnlySpec.pre enc Tryz.prog Tryz.f3 [] false w args ∧ laidMetH Tryz.prog Rows.fnExactOwnOnlyRow.laid w) ∧ sizedMet enc Tryz.prog Tryz.f3 (OpenSpec.ofChange Rows.fnExactOwnOnlySpec) false w args)
      (Rows.fnExactOwnOnlySpec.post enc Tryz.prog Tryz.f3 false true false false) := by
  refine returns_door (C := Tryz.checked) (X := fun w _ => laidMetH Tryz.prog Rows.fnExactOwnOnlyRow.laid w) (fun _ _ _ hh h => h.of_heap hh) own started (by kernel_rfl) Tryz.func3
    (ChangeSpec.witness_shaped (enc := enc) (C := Tryz.checked) (os := os) (X := fun w _ => laidMetH Tryz.prog Rows.fnExactOwnOnlyRow.laid w) false (World.laidAll Tryz.prog os Rows.fnExactOwnOnlyRow.laid) #[.agg #[.slice none 0 0, .slice none 0 0, .slice none 0 0, .slice none 0 0, .slice none 0 0, .slice none 0 0, .slice none 0 0]] 12 (World.laidAll_os _ _ _) (World.shaped_of_ZipB (by kernel_rfl) (by kernel_rfl)) (by kernel_rfl) (by kernel_rfl) (by kernel_rfl) (door_met os _)) ?_
  intro W base args ds gs before hval hW hsh hL
  obtain ⟨tys, htys, walk⟩ := walk
  exact law_step (s := Rows.fnExactOwnOnlySpec) enc rfl (fun ds h => by match ds, h with | [d0], _ => rfl) (by kernel_rfl) Tryz.underlying4 laidOut read htys walk W (fun _ => tabs hL hsh) base args ds gs before hval hW
theorem over : Rows.fnExactOwnOnlyRow.holds Tryz.pinned (OpenSpec.ofChange Rows.fnExactOwnOnlySpec) :=
  OpenClaim.holds_of_wide 3 Tryz.f3 rfl rfl rfl rfl rfl rfl rfl ⟨rfl, rfl, rfl, rfl, rfl⟩ rfl rfl rfl rfl rfl (by kernel_rfl) Tryz.func3 (by kernel_rfl)
    (of_decide_eq_true (by kernel_rfl)) (by unfold Func.isWrapper; first | (rw [if_pos (by decide +kernel)]; kernel_rfl) | (rw [if_neg (by decide +kernel)]; exact ⟨rfl, rfl⟩))
    (fun os started H enc _ => lifted os started H enc)
theorem noIn : (Tryz.f3.params.toList.all fun t => !Tryz.prog.wantsStandIn t) = true := by kernel_rfl
theorem proved : Rows.FnExactOwnOnlyCardSaid :=
  Claim7.holds_tied_plain_at .later [] [.data, .data, .data, .data, .pinned] true (true, "c6535f3b92ca2849ad2ef326e55374629c09015a463de938fa19c354b98f3768") false
    over (fun _ h => by cases h) (by kernel_rfl) (fun _ h => by cases h) fnExactOwnOnly_row_tie rfl ⟨rfl, rfl⟩ (by kernel_rfl) rfl
    (fun g fn hg hfn => by
      obtain rfl : g = 3 := Option.some.inj ((show Tryz.prog.funcNamed Rows.fnExactOwnOnlyRow.func = some 3 by kernel_rfl).symm.trans hg) |>.symm
      obtain rfl : fn = Tryz.f3 := (Option.some.inj (Tryz.func3.symm.trans hfn)).symm
      exact ⟨by kernel_rfl, fun j t ht => by
        have := List.all_eq_true.1 noIn t (Array.mem_toList_iff.2 (Array.mem_of_getElem? ht))
        show Tryz.prog.wantsStandIn t = false
        simpa using this⟩)
    (by kernel_rfl)
end Go.Proofs.YtjeikneboeallaaGreatDoor.fnExactOwnOnly
