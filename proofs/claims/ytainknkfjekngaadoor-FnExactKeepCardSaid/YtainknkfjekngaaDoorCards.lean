/-
  DERIVED. GIVEN WITH THE SEED: THE CARDS: each row of YtainknkfjekngaaDoorRows.lean that lists a variable, with what it lists TIED to the program's text (the seventh form; the later family's looks); each row that meets fmt, with fmt's text TOLD by the authors' own Lean function (tested against real Go, not proved from fmt's source: count such statements apart). THE CARD IS WHAT COUNTS. Prove the row's statement (the work); the ties are given (YtainknkfjekngaaDoorTie.lean); close each card by the builder's one call (the guide's Derived/Test/ToyasCard.lean, 'card_holds'). Laid BY PROGRAM, IN A SANDBOX (cutbox-door.mjs). By AI agents, Wed Nov 11 2026. No macro, syntax, notation, axiom, sorry.
-/
import Derived.Test.YtainknkfjekngaaDoorRows
import GoSem.ClaimSeven
namespace Go.Proofs.YtainknkfjekngaaDoor
namespace Rows

/-- THE TIED CARD OF 'laws.FnExactKeep'. -/
def fnExactKeepCard : Claim7 := { stood := { row := fnExactKeepRow, standIns := [], harness := (true, "57b3ab14b038792324ba0578eb7695d63efa00ca1f22a3b978b3134d72ecd521"), looks := false }, kinds := [], alts := [], laidByText := true, laidKinds := [.data, .data, .data, .data, .pinned], laidTests := true, laidLooks := .later }
def FnExactKeepCardSaid : Prop := Claim7.holds Tryd.pinned (.plain (OpenSpec.ofChange fnExactKeepSpec)) fnExactKeepCard

/-- THE TIED CARD OF 'laws.FnExactMerge'. -/
def fnExactMergeCard : Claim7 := { stood := { row := fnExactMergeRow, standIns := [], harness := (true, "57b3ab14b038792324ba0578eb7695d63efa00ca1f22a3b978b3134d72ecd521"), looks := false }, kinds := [], alts := [], laidByText := true, laidKinds := [.data, .data, .data, .data, .pinned], laidTests := true, laidLooks := .later }
def FnExactMergeCardSaid : Prop := Claim7.holds Tryd.pinned (.plain (OpenSpec.ofChange fnExactMergeSpec)) fnExactMergeCard

/-- THE SECOND FORM's CARD OF 'laws.FnExactKeep'. -/
def fnExactKeepUptoCard : Claim7 := { stood := { row := fnExactKeepUptoRow, standIns := [], harness := (true, "57b3ab14b038792324ba0578eb7695d63efa00ca1f22a3b978b3134d72ecd521"), looks := false }, kinds := [], alts := [], laidByText := true, laidKinds := [.data, .data, .data, .data, .pinned], laidTests := true, laidLooks := .later }
def FnExactKeepUptoCardSaid : Prop := Claim7.holds Tryd.pinned (.plain (OpenSpec.upto fnExactKeepSpec)) fnExactKeepUptoCard

/-- THE SECOND FORM's CARD OF 'laws.FnExactMerge'. -/
def fnExactMergeUptoCard : Claim7 := { stood := { row := fnExactMergeUptoRow, standIns := [], harness := (true, "57b3ab14b038792324ba0578eb7695d63efa00ca1f22a3b978b3134d72ecd521"), looks := false }, kinds := [], alts := [], laidByText := true, laidKinds := [.data, .data, .data, .data, .pinned], laidTests := true, laidLooks := .later }
def FnExactMergeUptoCardSaid : Prop := Claim7.holds Tryd.pinned (.plain (OpenSpec.upto fnExactMergeSpec)) fnExactMergeUptoCard
end Rows
end Go.Proofs.YtainknkfjekngaaDoor
