/- laws.FnExactKeep returns true, for all arguments; its card. -/
import Derived.Test.YtainknkfjekngaaDoorRows
import Derived.Test.YtainknkfjekngaaDoorCards
import Derived.Test.YtainknkfjekngaaDoorTie
import Derived.Test.YtainknkfjekngaaDoorDoor
import Derived.Test.YtainknkfjekngaaDoorXKpP
namespace Go.Proofs.YtainknkfjekngaaDoor.fnExactKeep
open Go Vm Xs Go.ChangeShapes Go.WideShapes Go.ChangeAt Go.RowKit
theorem own : ownKnob Tryd.prog.godebug = none := by kernel_rfl
theorem laidOut : laidOutB Tryd.prog = true := by kernel_rfl
theorem read : ∀ t ∈ Tryd.f3.params.toList, Tryd.prog.readableRec t = true ∧ t < Tryd.prog.types.size := by
  have h : (Tryd.f3.params.toList.all fun t => Tryd.prog.readableRec t && decide (t < Tryd.prog.types.size)) = true := by kernel_rfl
  intro t ht
  have := List.all_eq_true.1 h t ht
  simp only [Bool.and_eq_true, decide_eq_true_eq] at this
  exact this
theorem okX : FnOk Tryd.prog ⟨3, [.agg (.sl false (.pair .str (.sl false .str))), .cell (.sl false (.int .i64))], [], [.cell .bool], [], T_laws_FnExactKeep⟩ := Eq.mp (by kernel_rfl) ok_laws_FnExactKeep
theorem walk : ∃ tys, tysOf Tryd.prog Tryd.f3.params.toList = some tys ∧ ∀ vs, ArgsL tys vs → Ok Tryd.prog 3 vs (fun r _ => r = vb true) :=
  law_all okX (by kernel_rfl) law_FnExactKeep
theorem tabAt : Rows.fnExactKeepRow.laid[2]? = some ("internal/strconv.uint64pow10", Lib.tabData .u64 Lib.pow10Tab) := by kernel_rfl
theorem tabs {W : World} (hL : laidMetH Tryd.prog Rows.fnExactKeepRow.laid W) (hsh : W.ShapedOpen Tryd.prog) : TabW Tryd.prog W :=
  tabW_of (tabIs_at (l := Rows.fnExactKeepRow.laid) (g := 3) (t := 109) (e := 103) (n := 20) 2 tabAt (by kernel_rfl) (by kernel_rfl) Tryd.underlying109 Tryd.underlying103 (by kernel_rfl) (by kernel_rfl) hL) (fun _ => intVar (g := 0) (t := 3) (zero := #[.int .i64 0]) (by kernel_rfl) hsh (of_decide_eq_true (by kernel_rfl)) (by kernel_rfl) rfl (by kernel_rfl) (by kernel_rfl) Tryd.underlying3)
theorem door_met (os : Os) (args : Array Value) : laidMetH Tryd.prog Rows.fnExactKeepRow.laid ((World.laidAll Tryd.prog os Rows.fnExactKeepRow.laid).forCall (fun _ _ => 0) ⟨#[], args, []⟩).memory :=
  show laidMet _ _ _ from laidMet_laidAll _ (by kernel_rfl) (by kernel_rfl)
set_option maxRecDepth 100000 in
theorem lifted (os : Os) (started : os.Started) (H : Type) (enc : TypeId × Value → H) :
    ReturnsInHanded {} Tryd.checked os 3 .any (fun w args => (Rows.fnExactKeepSpec.pre enc Tryd.prog Tryd.f3 [] false w args ∧ laidMetH Tryd.prog Rows.fnExactKeepRow.laid w) ∧ sizedMet enc Tryd.prog Tryd.f3 (OpenSpec.ofChange Rows.fnExactKeepSpec) false w args)
      (Rows.fnExactKeepSpec.post enc Tryd.prog Tryd.f3 false true false false) := by
  refine returns_door (C := Tryd.checked) (X := fun w _ => laidMetH Tryd.prog Rows.fnExactKeepRow.laid w) (fun _ _ _ hh h => h.of_heap hh) own started (by kernel_rfl) Tryd.func3
    (ChangeSpec.witness_shaped (enc := enc) (C := Tryd.checked) (os := os) (X := fun w _ => laidMetH Tryd.prog Rows.fnExactKeepRow.laid w) false (World.laidAll Tryd.prog os Rows.fnExactKeepRow.laid) #[.agg #[.slice none 0 0], .slice none 0 0] 12 (World.laidAll_os _ _ _) (World.shaped_of_ZipB (by kernel_rfl) (by kernel_rfl)) (by kernel_rfl) (by kernel_rfl) (by kernel_rfl) (door_met os _)) ?_
  intro W base args ds gs before hval hW hsh hL
  obtain ⟨tys, htys, walk⟩ := walk
  exact law_step (s := Rows.fnExactKeepSpec) enc rfl (fun ds h => by match ds, h with | [d0, d1], _ => rfl) (by kernel_rfl) Tryd.underlying4 laidOut read htys walk W (fun _ => tabs hL hsh) base args ds gs before hval hW
theorem over : Rows.fnExactKeepRow.holds Tryd.pinned (OpenSpec.ofChange Rows.fnExactKeepSpec) :=
  OpenClaim.holds_of_wide 3 Tryd.f3 rfl rfl rfl rfl rfl rfl rfl ⟨rfl, rfl, rfl, rfl, rfl⟩ rfl rfl rfl rfl rfl (by kernel_rfl) Tryd.func3 (by kernel_rfl)
    (of_decide_eq_true (by kernel_rfl)) (by unfold Func.isWrapper; first | (rw [if_pos (by decide +kernel)]; kernel_rfl) | (rw [if_neg (by decide +kernel)]; exact ⟨rfl, rfl⟩))
    (fun os started H enc _ => lifted os started H enc)
theorem noIn : (Tryd.f3.params.toList.all fun t => !Tryd.prog.wantsStandIn t) = true := by kernel_rfl
theorem proved : Rows.FnExactKeepCardSaid :=
  Claim7.holds_tied_plain_at .later [] [.data, .data, .data, .data, .pinned] true (true, "57b3ab14b038792324ba0578eb7695d63efa00ca1f22a3b978b3134d72ecd521") false
    over (fun _ h => by cases h) (by kernel_rfl) (fun _ h => by cases h) fnExactKeep_row_tie rfl ⟨rfl, rfl⟩ (by kernel_rfl) rfl
    (fun g fn hg hfn => by
      obtain rfl : g = 3 := Option.some.inj ((show Tryd.prog.funcNamed Rows.fnExactKeepRow.func = some 3 by kernel_rfl).symm.trans hg) |>.symm
      obtain rfl : fn = Tryd.f3 := (Option.some.inj (Tryd.func3.symm.trans hfn)).symm
      exact ⟨by kernel_rfl, fun j t ht => by
        have := List.all_eq_true.1 noIn t (Array.mem_toList_iff.2 (Array.mem_of_getElem? ht))
        show Tryd.prog.wantsStandIn t = false
        simpa using this⟩)
    (by kernel_rfl)
end Go.Proofs.YtainknkfjekngaaDoor.fnExactKeep
