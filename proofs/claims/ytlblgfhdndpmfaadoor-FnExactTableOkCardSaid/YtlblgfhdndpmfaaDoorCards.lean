/-
  DERIVED. GIVEN WITH THE SEED: THE CARDS: each row of YtlblgfhdndpmfaaDoorRows.lean that lists a variable, with what it lists TIED to the program's text (the seventh form; the later family's looks); each row that meets fmt, with fmt's text TOLD by the authors' own Lean function (tested against real Go, not proved from fmt's source: count such statements apart). THE CARD IS WHAT COUNTS. Prove the row's statement (the work); the ties are given (YtlblgfhdndpmfaaDoorTie.lean); close each card by the builder's one call (the guide's Derived/Test/ToyasCard.lean, 'card_holds'). Laid BY PROGRAM, IN A SANDBOX (cutbox-door.mjs). By AI agents, Wed Nov 11 2026. No macro, syntax, notation, axiom, sorry.
-/
import Derived.Test.YtlblgfhdndpmfaaDoorRows
import GoSem.ClaimSeven
namespace Go.Proofs.YtlblgfhdndpmfaaDoor
namespace Rows

/-- THE TIED CARD OF 'laws.FnExactShowEvent'. -/
def fnExactShowEventCard : Claim7 := { stood := { row := fnExactShowEventRow, standIns := [], harness := (true, "56fec8b2e9c5b364e576ce34526b51018e31a35ad19613c30e59a3c4b5e3c786"), looks := false }, kinds := [], alts := [], laidByText := true, laidKinds := [.data, .data, .data], laidTests := true, laidLooks := .later }
def FnExactShowEventCardSaid : Prop := Claim7.holds Tryd.pinned (.plain (OpenSpec.ofChange fnExactShowEventSpec)) fnExactShowEventCard

/-- THE TIED CARD OF 'laws.FnExactWordOk'. -/
def fnExactWordOkCard : Claim7 := { stood := { row := fnExactWordOkRow, standIns := [], harness := (true, "56fec8b2e9c5b364e576ce34526b51018e31a35ad19613c30e59a3c4b5e3c786"), looks := false }, kinds := [], alts := [], laidByText := true, laidKinds := [.data, .data, .data, .data, .pinned], laidTests := true, laidLooks := .later }
def FnExactWordOkCardSaid : Prop := Claim7.holds Tryd.pinned (.plain (OpenSpec.ofChange fnExactWordOkSpec)) fnExactWordOkCard

/-- THE TIED CARD OF 'laws.FnExactTableOk'. -/
def fnExactTableOkCard : Claim7 := { stood := { row := fnExactTableOkRow, standIns := [], harness := (true, "56fec8b2e9c5b364e576ce34526b51018e31a35ad19613c30e59a3c4b5e3c786"), looks := false }, kinds := [], alts := [], laidByText := true, laidKinds := [.data, .data, .data, .data, .pinned], laidTests := true, laidLooks := .later }
def FnExactTableOkCardSaid : Prop := Claim7.holds Tryd.pinned (.plain (OpenSpec.ofChange fnExactTableOkSpec)) fnExactTableOkCard

/-- THE TIED CARD OF 'laws.FnExactWordText'. -/
def fnExactWordTextCard : Claim7 := { stood := { row := fnExactWordTextRow, standIns := [], harness := (true, "56fec8b2e9c5b364e576ce34526b51018e31a35ad19613c30e59a3c4b5e3c786"), looks := false }, kinds := [], alts := [], laidByText := true, laidKinds := [.data, .data, .data, .data, .pinned], laidTests := true, laidLooks := .later }
def FnExactWordTextCardSaid : Prop := Claim7.holds Tryd.pinned (.plain (OpenSpec.ofChange fnExactWordTextSpec)) fnExactWordTextCard

/-- THE SECOND FORM's CARD OF 'laws.FnExactShowEvent'. -/
def fnExactShowEventUptoCard : Claim7 := { stood := { row := fnExactShowEventUptoRow, standIns := [], harness := (true, "56fec8b2e9c5b364e576ce34526b51018e31a35ad19613c30e59a3c4b5e3c786"), looks := false }, kinds := [], alts := [], laidByText := true, laidKinds := [.data, .data, .data], laidTests := true, laidLooks := .later }
def FnExactShowEventUptoCardSaid : Prop := Claim7.holds Tryd.pinned (.plain (OpenSpec.upto fnExactShowEventSpec)) fnExactShowEventUptoCard

/-- THE SECOND FORM's CARD OF 'laws.FnExactWordOk'. -/
def fnExactWordOkUptoCard : Claim7 := { stood := { row := fnExactWordOkUptoRow, standIns := [], harness := (true, "56fec8b2e9c5b364e576ce34526b51018e31a35ad19613c30e59a3c4b5e3c786"), looks := false }, kinds := [], alts := [], laidByText := true, laidKinds := [.data, .data, .data, .data, .pinned], laidTests := true, laidLooks := .later }
def FnExactWordOkUptoCardSaid : Prop := Claim7.holds Tryd.pinned (.plain (OpenSpec.upto fnExactWordOkSpec)) fnExactWordOkUptoCard

/-- THE SECOND FORM's CARD OF 'laws.FnExactTableOk'. -/
def fnExactTableOkUptoCard : Claim7 := { stood := { row := fnExactTableOkUptoRow, standIns := [], harness := (true, "56fec8b2e9c5b364e576ce34526b51018e31a35ad19613c30e59a3c4b5e3c786"), looks := false }, kinds := [], alts := [], laidByText := true, laidKinds := [.data, .data, .data, .data, .pinned], laidTests := true, laidLooks := .later }
def FnExactTableOkUptoCardSaid : Prop := Claim7.holds Tryd.pinned (.plain (OpenSpec.upto fnExactTableOkSpec)) fnExactTableOkUptoCard

/-- THE SECOND FORM's CARD OF 'laws.FnExactWordText'. -/
def fnExactWordTextUptoCard : Claim7 := { stood := { row := fnExactWordTextUptoRow, standIns := [], harness := (true, "56fec8b2e9c5b364e576ce34526b51018e31a35ad19613c30e59a3c4b5e3c786"), looks := false }, kinds := [], alts := [], laidByText := true, laidKinds := [.data, .data, .data, .data, .pinned], laidTests := true, laidLooks := .later }
def FnExactWordTextUptoCardSaid : Prop := Claim7.holds Tryd.pinned (.plain (OpenSpec.upto fnExactWordTextSpec)) fnExactWordTextUptoCard
end Rows
end Go.Proofs.YtlblgfhdndpmfaaDoor
