/- laws.FnExactSafeKept returns true, for all arguments. -/
import Derived.Test.YtkjpdhdmjjepfaaRows
import Derived.Test.YtkjpdhdmjjepfaaXSafeKeptP
namespace Go.Proofs.Ytkjpdhdmjjepfaa.fnExactSafeKept
open Go Vm Xs Go.ChangeShapes Go.WideShapes Go.ChangeAt Go.RowKit
theorem own : ownKnob Try.prog.godebug = none := by kernel_rfl
theorem laidOut : laidOutB Try.prog = true := by kernel_rfl
theorem noDoor : doorB Try.prog = false := by kernel_rfl
theorem read : ∀ t ∈ Try.f4.params.toList, Try.prog.readableRec t = true ∧ t < Try.prog.types.size := by
  have h : (Try.f4.params.toList.all fun t => Try.prog.readableRec t && decide (t < Try.prog.types.size)) = true := by kernel_rfl
  intro t ht
  have := List.all_eq_true.1 h t ht
  simp only [Bool.and_eq_true, decide_eq_true_eq] at this
  exact this
theorem walk : ∃ tys, tysOf Try.prog Try.f4.params.toList = some tys ∧ ∀ vs, ArgsL tys vs → Ok Try.prog 4 vs (fun r _ => r = vb true) :=
  law_all ok_laws_FnExactSafeKept (by kernel_rfl) law_FnExactSafeKept
set_option maxRecDepth 100000 in
theorem lifted (os : Os) (started : os.Started) (H : Type) (enc : TypeId × Value → H) :
    ReturnsInHanded {} Try.checked os 4 .any (Rows.fnExactSafeKeptSpec.pre6 enc Try.prog Try.f4 Rows.fnExactSafeKeptRow.domain false) (Rows.fnExactSafeKeptSpec.post enc Try.prog Try.f4 false true false false) := by
  refine returnsInHanded_of_change (C := Try.checked) own started (by kernel_rfl) Try.func4
    (ChangeSpec.witness6 (enc := enc) (C := Try.checked) false ⟨#[], #[.agg #[.slice none 0 0, .slice none 0 0, .slice none 0 0, .slice none 0 0]], []⟩ 12 (by kernel_rfl) (by kernel_rfl) (by kernel_rfl) (by kernel_rfl)) ?_
  intro W base args ds gs before hval hW _ _
  obtain ⟨tys, htys, walk⟩ := walk
  exact law_step (s := Rows.fnExactSafeKeptSpec) enc rfl (fun ds h => by match ds, h with | [d0], _ => rfl) (by kernel_rfl) Try.underlying4 laidOut read htys walk W (fun h => by rw [noDoor] at h; cases h) base args ds gs before hval hW
theorem over : Rows.fnExactSafeKeptRow.holds Try.pinned (OpenSpec.ofChange Rows.fnExactSafeKeptSpec) :=
  OpenClaim.holds_of_wide 4 Try.f4 rfl rfl rfl rfl rfl rfl rfl ⟨rfl, rfl, rfl, rfl, rfl⟩ rfl rfl rfl rfl rfl (by kernel_rfl) Try.func4 (by kernel_rfl)
    (of_decide_eq_true (by kernel_rfl)) (by unfold Func.isWrapper; first | (rw [if_pos (by decide +kernel)]; kernel_rfl) | (rw [if_neg (by decide +kernel)]; exact ⟨rfl, rfl⟩))
    (fun os started H enc _ => lifted os started H enc)
theorem proved : Rows.FnExactSafeKeptSaid := over
end Go.Proofs.Ytkjpdhdmjjepfaa.fnExactSafeKept
