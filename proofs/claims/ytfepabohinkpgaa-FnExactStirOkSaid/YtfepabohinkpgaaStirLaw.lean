import Derived.Test.YtfepabohinkpgaaRows
import Derived.Test.YtfepabohinkpgaaStirOk
namespace Go.Proofs.Ytfepabohinkpgaa.fnExactStirOk
open Go Vm Go.ChangeShapes Go.WideShapes Go.ChangeAt Go.RowKit
theorem own : ownKnob Try.prog.godebug = none := by kernel_rfl
theorem laidOut : laidOutB Try.prog = true := by kernel_rfl
def tys : List Ty := [.st [.int .i64, .int .i64, .str, .st [.int .i64, .int .i64, .int .i64, .int .i64, .str]]]
theorem htys : tysOf Try.prog Try.f3.params.toList = some tys := by kernel_rfl
theorem read : ∀ t ∈ Try.f3.params.toList, Try.prog.readableRec t = true ∧ t < Try.prog.types.size := by
  rw [Try.params3]
  intro t ht
  simp at ht
  subst ht
  exact ⟨by kernel_rfl, of_decide_eq_true (by kernel_rfl)⟩
theorem walk (vs : List V) (h : ArgsL tys vs) : Ok Try.prog 3 vs (fun r _ => r = vb true) := by
  obtain ⟨v, r, rfl, ⟨vs, rfl, a0, b0, rfl, ⟨k, rfl, wk⟩, a1, b1, rfl, ⟨m, rfl, wm⟩, a2, b2, rfl, ⟨t, rfl, wt⟩, a3, b3, rfl, ⟨a4, b4, rfl, ⟨a, rfl, wa⟩, a5, b5, rfl, ⟨b, rfl, wb⟩, a6, b6, rfl, ⟨c, rfl, wc⟩, a7, b7, rfl, ⟨d, rfl, wd⟩, a8, b8, rfl, ⟨s, rfl, ws⟩, rfl⟩, rfl⟩, rfl⟩ := h
  exact ok_law_StirOk k m t a b c d s
set_option maxRecDepth 100000 in
theorem lifted (os : Os) (started : os.Started) (H : Type) (enc : TypeId × Value → H) :
    ReturnsInHanded {} Try.checked os 3 .any (Rows.fnExactStirOkSpec.pre6 enc Try.prog Try.f3 Rows.fnExactStirOkRow.domain false) (Rows.fnExactStirOkSpec.post enc Try.prog Try.f3 false true false false) := by
  refine returnsInHanded_of_change (C := Try.checked) own started (by kernel_rfl) Try.func3
    (ChangeSpec.witness6 (enc := enc) (C := Try.checked) false ⟨#[], #[.agg #[.int .i64 0, .int .i64 0, .string ⟨#[]⟩, .int .i64 0, .int .i64 0, .int .i64 0, .int .i64 0, .string ⟨#[]⟩]], []⟩ 8 (by kernel_rfl) (by kernel_rfl) (by kernel_rfl) (by kernel_rfl)) ?_
  intro W base args ds gs before hval hW _ _
  exact law_step (s := Rows.fnExactStirOkSpec) enc rfl (fun ds h => by match ds, h with | [d], _ => rfl) (by kernel_rfl) Try.underlying4 laidOut read htys walk W base args ds gs before hval hW
theorem over : Rows.fnExactStirOkRow.holds Try.pinned (OpenSpec.ofChange Rows.fnExactStirOkSpec) :=
  OpenClaim.holds_of_wide 3 Try.f3 rfl rfl rfl rfl rfl rfl rfl ⟨rfl, rfl, rfl, rfl, rfl⟩ rfl rfl rfl rfl rfl (by kernel_rfl) Try.func3 (by kernel_rfl)
    (of_decide_eq_true (by kernel_rfl)) (by unfold Func.isWrapper; first | (rw [if_pos (by decide +kernel)]; kernel_rfl) | (rw [if_neg (by decide +kernel)]; exact ⟨rfl, rfl⟩))
    (fun os started H enc _ => lifted os started H enc)
theorem proved : Rows.FnExactStirOkSaid := over
end Go.Proofs.Ytfepabohinkpgaa.fnExactStirOk
