/-
  DERIVED. GIVEN WITH THE SEED: THE CARDS: each row of YtjeikneboeallaaGreatDoorRows.lean that lists a variable, with what it lists TIED to the program's text (the seventh form; the later family's looks); each row that meets fmt, with fmt's text TOLD by the authors' own Lean function (tested against real Go, not proved from fmt's source: count such statements apart). THE CARD IS WHAT COUNTS. Prove the row's statement (the work); the ties are given (YtjeikneboeallaaGreatDoorTie.lean); close each card by the builder's one call (the guide's Derived/Test/ToyasCard.lean, 'card_holds'). Laid BY PROGRAM, IN A SANDBOX (cutbox-door.mjs). By AI agents, Wed Nov 11 2026. No macro, syntax, notation, axiom, sorry.
-/
import Derived.Test.YtjeikneboeallaaGreatDoorRows
import GoSem.ClaimSeven
namespace Go.Proofs.YtjeikneboeallaaGreatDoor
namespace Rows

/-- THE TIED CARD OF 'laws.FnExactOwnOnly'. -/
def fnExactOwnOnlyCard : Claim7 := { stood := { row := fnExactOwnOnlyRow, standIns := [], harness := (true, "c6535f3b92ca2849ad2ef326e55374629c09015a463de938fa19c354b98f3768"), looks := false }, kinds := [], alts := [], laidByText := true, laidKinds := [.data, .data, .data, .data, .pinned], laidTests := true, laidLooks := .later }
def FnExactOwnOnlyCardSaid : Prop := Claim7.holds Tryz.pinned (.plain (OpenSpec.ofChange fnExactOwnOnlySpec)) fnExactOwnOnlyCard

/-- THE SECOND FORM's CARD OF 'laws.FnExactOwnOnly'. -/
def fnExactOwnOnlyUptoCard : Claim7 := { stood := { row := fnExactOwnOnlyUptoRow, standIns := [], harness := (true, "c6535f3b92ca2849ad2ef326e55374629c09015a463de938fa19c354b98f3768"), looks := false }, kinds := [], alts := [], laidByText := true, laidKinds := [.data, .data, .data, .data, .pinned], laidTests := true, laidLooks := .later }
def FnExactOwnOnlyUptoCardSaid : Prop := Claim7.holds Tryz.pinned (.plain (OpenSpec.upto fnExactOwnOnlySpec)) fnExactOwnOnlyUptoCard
end Rows
end Go.Proofs.YtjeikneboeallaaGreatDoor
