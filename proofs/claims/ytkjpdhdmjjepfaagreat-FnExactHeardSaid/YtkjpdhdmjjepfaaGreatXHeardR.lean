/- laws.FnExactHeard returns true, for all arguments. -/
import Derived.Test.YtkjpdhdmjjepfaaGreatRows
import Derived.Test.YtkjpdhdmjjepfaaGreatXHeardP
namespace Go.Proofs.YtkjpdhdmjjepfaaGreat.fnExactHeard
open Go Vm Xs Go.ChangeShapes Go.WideShapes Go.ChangeAt Go.RowKit
theorem own : ownKnob Tryz.prog.godebug = none := by kernel_rfl
theorem laidOut : laidOutB Tryz.prog = true := by kernel_rfl
theorem noDoor : doorB Tryz.prog = false := by kernel_rfl
theorem read : ∀ t ∈ Tryz.f4.params.toList, Tryz.prog.readableRec t = true ∧ t < Tryz.prog.types.size := by
  have h : (Tryz.f4.params.toList.all fun t => Tryz.prog.readableRec t && decide (t < Tryz.prog.types.size)) = true := by kernel_rfl
  intro t ht
  have := List.all_eq_true.1 h t ht
  simp only [Bool.and_eq_true, decide_eq_true_eq] at this
  exact this
theorem okX : FnOk Tryz.prog ⟨4, [.agg (HallE false), .cell (.int .i64)], [], [.cell .bool], [], T_laws_FnExactHeard⟩ := Eq.mp (by kernel_rfl) ok_laws_FnExactHeard
theorem walk : ∃ tys, tysOf Tryz.prog Tryz.f4.params.toList = some tys ∧ ∀ vs, ArgsL tys vs → Ok Tryz.prog 4 vs (fun r _ => r = vb true) :=
  law_all okX (by kernel_rfl) law_FnExactHeard
set_option maxRecDepth 100000 in
theorem lifted (os : Os) (started : os.Started) (H : Type) (enc : TypeId × Value → H) :
    ReturnsInHanded {} Tryz.checked os 4 .any (Rows.fnExactHeardSpec.pre6 enc Tryz.prog Tryz.f4 Rows.fnExactHeardRow.domain false) (Rows.fnExactHeardSpec.post enc Tryz.prog Tryz.f4 false true false false) := by
  refine returnsInHanded_of_change (C := Tryz.checked) own started (by kernel_rfl) Tryz.func4
    (ChangeSpec.witness6 (enc := enc) (C := Tryz.checked) false ⟨#[], #[.agg #[.slice none 0 0, .slice none 0 0, .slice none 0 0, .slice none 0 0, .slice none 0 0, .slice none 0 0, .slice none 0 0], .int .i64 0], []⟩ 12 (by kernel_rfl) (by kernel_rfl) (by kernel_rfl) (by kernel_rfl)) ?_
  intro W base args ds gs before hval hW _ _
  obtain ⟨tys, htys, walk⟩ := walk
  exact law_step (s := Rows.fnExactHeardSpec) enc rfl (fun ds h => by match ds, h with | [d0, d1], _ => rfl) (by kernel_rfl) Tryz.underlying4 laidOut read htys walk W (fun h => by rw [noDoor] at h; cases h) base args ds gs before hval hW
theorem over : Rows.fnExactHeardRow.holds Tryz.pinned (OpenSpec.ofChange Rows.fnExactHeardSpec) :=
  OpenClaim.holds_of_wide 4 Tryz.f4 rfl rfl rfl rfl rfl rfl rfl ⟨rfl, rfl, rfl, rfl, rfl⟩ rfl rfl rfl rfl rfl (by kernel_rfl) Tryz.func4 (by kernel_rfl)
    (of_decide_eq_true (by kernel_rfl)) (by unfold Func.isWrapper; first | (rw [if_pos (by decide +kernel)]; kernel_rfl) | (rw [if_neg (by decide +kernel)]; exact ⟨rfl, rfl⟩))
    (fun os started H enc _ => lifted os started H enc)
theorem proved : Rows.FnExactHeardSaid := over
end Go.Proofs.YtkjpdhdmjjepfaaGreat.fnExactHeard
