/-
  DERIVED. GIVEN WITH THE SEED: THE CARDS: each row of YtkjpdhdmjjepfaaDoorRows.lean that lists a variable, with what it lists TIED to the program's text (the seventh form; the later family's looks); each row that meets fmt, with fmt's text TOLD by the authors' own Lean function (tested against real Go, not proved from fmt's source: count such statements apart). THE CARD IS WHAT COUNTS. Prove the row's statement (the work); the ties are given (YtkjpdhdmjjepfaaDoorTie.lean); close each card by the builder's one call (the guide's Derived/Test/ToyasCard.lean, 'card_holds'). Laid BY PROGRAM, IN A SANDBOX (cutbox-door.mjs). By AI agents, Wed Nov 11 2026. No macro, syntax, notation, axiom, sorry.
-/
import Derived.Test.YtkjpdhdmjjepfaaDoorRows
import GoSem.ClaimSeven
namespace Go.Proofs.YtkjpdhdmjjepfaaDoor
namespace Rows

/-- THE TIED CARD OF 'laws.FnExactReadWord'. -/
def fnExactReadWordCard : Claim7 := { stood := { row := fnExactReadWordRow, standIns := [], harness := (true, "7008fdccc7c1d8e1cd91d7f2a755ce465e33f1679411daa79cfca0f23fd54183"), looks := false }, kinds := [], alts := [], laidByText := true, laidKinds := [.data, .data, .data, .data, .pinned], laidTests := true, laidLooks := .later }
def FnExactReadWordCardSaid : Prop := Claim7.holds Tryd.pinned (.plain (OpenSpec.ofChange fnExactReadWordSpec)) fnExactReadWordCard

/-- THE TIED CARD OF 'laws.FnExactKeep'. -/
def fnExactKeepCard : Claim7 := { stood := { row := fnExactKeepRow, standIns := [], harness := (true, "7008fdccc7c1d8e1cd91d7f2a755ce465e33f1679411daa79cfca0f23fd54183"), looks := false }, kinds := [], alts := [], laidByText := true, laidKinds := [.data, .data, .data, .data, .pinned], laidTests := true, laidLooks := .later }
def FnExactKeepCardSaid : Prop := Claim7.holds Tryd.pinned (.plain (OpenSpec.ofChange fnExactKeepSpec)) fnExactKeepCard

/-- THE TIED CARD OF 'laws.FnWords'. -/
def fnWordsCard : Claim7 := { stood := { row := fnWordsRow, standIns := [], harness := (true, "7008fdccc7c1d8e1cd91d7f2a755ce465e33f1679411daa79cfca0f23fd54183"), looks := false }, kinds := [], alts := [], laidByText := true, laidKinds := [.data, .data, .data, .data, .pinned], laidTests := true, laidLooks := .later }
def FnWordsCardSaid : Prop := Claim7.holds Tryd.pinned (.plain (OpenSpec.ofChange fnWordsSpec)) fnWordsCard

/-- THE TIED CARD OF 'laws.FnExactMerge'. -/
def fnExactMergeCard : Claim7 := { stood := { row := fnExactMergeRow, standIns := [], harness := (true, "7008fdccc7c1d8e1cd91d7f2a755ce465e33f1679411daa79cfca0f23fd54183"), looks := false }, kinds := [], alts := [], laidByText := true, laidKinds := [.data, .data, .data, .data, .pinned], laidTests := true, laidLooks := .later }
def FnExactMergeCardSaid : Prop := Claim7.holds Tryd.pinned (.plain (OpenSpec.ofChange fnExactMergeSpec)) fnExactMergeCard

/-- THE TIED CARD OF 'laws.FnExactReadScript'. -/
def fnExactReadScriptCard : Claim7 := { stood := { row := fnExactReadScriptRow, standIns := [], harness := (true, "7008fdccc7c1d8e1cd91d7f2a755ce465e33f1679411daa79cfca0f23fd54183"), looks := false }, kinds := [], alts := [], laidByText := true, laidKinds := [.data, .data, .data, .data, .pinned], laidTests := true, laidLooks := .later }
def FnExactReadScriptCardSaid : Prop := Claim7.holds Tryd.pinned (.plain (OpenSpec.ofChange fnExactReadScriptSpec)) fnExactReadScriptCard

/-- THE SECOND FORM's CARD OF 'laws.FnExactReadWord'. -/
def fnExactReadWordUptoCard : Claim7 := { stood := { row := fnExactReadWordUptoRow, standIns := [], harness := (true, "7008fdccc7c1d8e1cd91d7f2a755ce465e33f1679411daa79cfca0f23fd54183"), looks := false }, kinds := [], alts := [], laidByText := true, laidKinds := [.data, .data, .data, .data, .pinned], laidTests := true, laidLooks := .later }
def FnExactReadWordUptoCardSaid : Prop := Claim7.holds Tryd.pinned (.plain (OpenSpec.upto fnExactReadWordSpec)) fnExactReadWordUptoCard

/-- THE SECOND FORM's CARD OF 'laws.FnExactKeep'. -/
def fnExactKeepUptoCard : Claim7 := { stood := { row := fnExactKeepUptoRow, standIns := [], harness := (true, "7008fdccc7c1d8e1cd91d7f2a755ce465e33f1679411daa79cfca0f23fd54183"), looks := false }, kinds := [], alts := [], laidByText := true, laidKinds := [.data, .data, .data, .data, .pinned], laidTests := true, laidLooks := .later }
def FnExactKeepUptoCardSaid : Prop := Claim7.holds Tryd.pinned (.plain (OpenSpec.upto fnExactKeepSpec)) fnExactKeepUptoCard

/-- THE SECOND FORM's CARD OF 'laws.FnWords'. -/
def fnWordsUptoCard : Claim7 := { stood := { row := fnWordsUptoRow, standIns := [], harness := (true, "7008fdccc7c1d8e1cd91d7f2a755ce465e33f1679411daa79cfca0f23fd54183"), looks := false }, kinds := [], alts := [], laidByText := true, laidKinds := [.data, .data, .data, .data, .pinned], laidTests := true, laidLooks := .later }
def FnWordsUptoCardSaid : Prop := Claim7.holds Tryd.pinned (.plain (OpenSpec.upto fnWordsSpec)) fnWordsUptoCard

/-- THE SECOND FORM's CARD OF 'laws.FnExactMerge'. -/
def fnExactMergeUptoCard : Claim7 := { stood := { row := fnExactMergeUptoRow, standIns := [], harness := (true, "7008fdccc7c1d8e1cd91d7f2a755ce465e33f1679411daa79cfca0f23fd54183"), looks := false }, kinds := [], alts := [], laidByText := true, laidKinds := [.data, .data, .data, .data, .pinned], laidTests := true, laidLooks := .later }
def FnExactMergeUptoCardSaid : Prop := Claim7.holds Tryd.pinned (.plain (OpenSpec.upto fnExactMergeSpec)) fnExactMergeUptoCard

/-- THE SECOND FORM's CARD OF 'laws.FnExactReadScript'. -/
def fnExactReadScriptUptoCard : Claim7 := { stood := { row := fnExactReadScriptUptoRow, standIns := [], harness := (true, "7008fdccc7c1d8e1cd91d7f2a755ce465e33f1679411daa79cfca0f23fd54183"), looks := false }, kinds := [], alts := [], laidByText := true, laidKinds := [.data, .data, .data, .data, .pinned], laidTests := true, laidLooks := .later }
def FnExactReadScriptUptoCardSaid : Prop := Claim7.holds Tryd.pinned (.plain (OpenSpec.upto fnExactReadScriptSpec)) fnExactReadScriptUptoCard
end Rows
end Go.Proofs.YtkjpdhdmjjepfaaDoor
