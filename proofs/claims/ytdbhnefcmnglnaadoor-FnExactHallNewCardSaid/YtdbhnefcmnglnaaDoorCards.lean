/-
  DERIVED. GIVEN WITH THE SEED: THE CARDS: each row of YtdbhnefcmnglnaaDoorRows.lean that lists a variable, with what it lists TIED to the program's text (the seventh form; the later family's looks); each row that meets fmt, with fmt's text TOLD by the authors' own Lean function (tested against real Go, not proved from fmt's source: count such statements apart). THE CARD IS WHAT COUNTS. Prove the row's statement (the work); the ties are given (YtdbhnefcmnglnaaDoorTie.lean); close each card by the builder's one call (the guide's Derived/Test/ToyasCard.lean, 'card_holds'). Laid BY PROGRAM, IN A SANDBOX (cutbox-door.mjs). By AI agents, Wed Nov 11 2026. No macro, syntax, notation, axiom, sorry.
-/
import Derived.Test.YtdbhnefcmnglnaaDoorRows
import GoSem.ClaimSeven
namespace Go.Proofs.YtdbhnefcmnglnaaDoor
namespace Rows

/-- THE TIED CARD OF 'laws.FnExactHallNew'. -/
def fnExactHallNewCard : Claim7 := { stood := { row := fnExactHallNewRow, standIns := [], harness := (true, "6f580e3a787395e78cdfa262c816ab6f402b35e188ff6a40bcda8b9a324774aa"), looks := false }, kinds := [], alts := [], laidByText := true, laidKinds := [.data, .data, .data], laidTests := true, laidLooks := .later }
def FnExactHallNewCardSaid : Prop := Claim7.holds Tryd.pinned (.plain (OpenSpec.ofChange fnExactHallNewSpec)) fnExactHallNewCard

/-- THE SECOND FORM's CARD OF 'laws.FnExactHallNew'. -/
def fnExactHallNewUptoCard : Claim7 := { stood := { row := fnExactHallNewUptoRow, standIns := [], harness := (true, "6f580e3a787395e78cdfa262c816ab6f402b35e188ff6a40bcda8b9a324774aa"), looks := false }, kinds := [], alts := [], laidByText := true, laidKinds := [.data, .data, .data], laidTests := true, laidLooks := .later }
def FnExactHallNewUptoCardSaid : Prop := Claim7.holds Tryd.pinned (.plain (OpenSpec.upto fnExactHallNewSpec)) fnExactHallNewUptoCard
end Rows
end Go.Proofs.YtdbhnefcmnglnaaDoor
