/-
  No cell of these rows narrows 'for every input' (looked for: loops, veiled, ifaces, maps, wideKeys, modest, calm, conditions, laid).
  DERIVED. THE GIVEN ROWS OF THIS SEAT. 12 by the template 'for every input the law returns true; each argument reads behind the call as it read before'; 0 by the template 'total and deterministic' (their statements: YtfepabohinkpgaaTotals.lean).
  GIVEN WITH THE SEED: the statements are not yours to turn. If you find one false, say at which input.
  Laid BY PROGRAM, IN A SANDBOX (cutbox-rows.mjs): the forced cells as the released guide's own fill.sh prints them over the translation 31cff517e18ecbd1… (all of the seat's roots in one cut). By AI agents, Wed Nov 11 2026. No macro, syntax, notation, axiom, sorry.
-/
import Derived.Test.YtfepabohinkpgaaChecked
import GoSem.Claim
import GoSem.ClaimJoined
import GoSem.ClaimMapViews
import Derived.JoinedTies
import Derived.KernelRfl
namespace Go.Proofs.Ytfepabohinkpgaa
/- THE CELL 'sum', in the pinned program and in every row, IS THE sha256 OF THE DUMP (.gsa) THAT YtfepabohinkpgaaProg.lean LOADS. Nothing in Lean hashes anything: it is a label: what it is worth is what the hold of that sum in a sandbox is worth. -/
noncomputable def Try.pinned : Pinned := { name := "ytfepabohinkpgaa", sum := "31cff517e18ecbd164cd3b0f55bfef256631ebb652685eb6aec2d6e2a79175cd", checked := Try.checked }
namespace Rows
def none {H : Type} : Left H := { results := [], args := [] }

/-- 'laws.FnExactStirOk': WHATEVER THE INPUT: true; the input reads as it did. -/
def fnExactStirOkSpec : ChangeSpec := { name := "fnExactStirOk", fn := fun _ => fun
  | [d] => { results := [.lit (.bool true)], args := [d] }
  | _ => none }
def fnExactStirOkRow : OpenClaim := { program := "ytfepabohinkpgaa", sum := "31cff517e18ecbd164cd3b0f55bfef256631ebb652685eb6aec2d6e2a79175cd", func := "loop.example/g00183/laws.FnExactStirOk", spec := "fnExactStirOk", apart := false }
def FnExactStirOkSaid : Prop := fnExactStirOkRow.holds Try.pinned (OpenSpec.ofChange fnExactStirOkSpec)

/-- ITS FALSE NEIGHBOUR: 'it returns false'. Refute it at one input. -/
def fnExactStirOkWrong : ChangeSpec := { name := "fnExactStirOk", fn := fun _ => fun
  | [d] => { results := [.lit (.bool false)], args := [d] }
  | _ => none }
def FnExactStirOkWrongFalsely : Prop := fnExactStirOkRow.holds Try.pinned (OpenSpec.ofChange fnExactStirOkWrong)

/-- 'laws.FnExactBoxOk': WHATEVER THE INPUT: true; the input reads as it did. -/
def fnExactBoxOkSpec : ChangeSpec := { name := "fnExactBoxOk", fn := fun _ => fun
  | [d] => { results := [.lit (.bool true)], args := [d] }
  | _ => none }
def fnExactBoxOkRow : OpenClaim := { program := "ytfepabohinkpgaa", sum := "31cff517e18ecbd164cd3b0f55bfef256631ebb652685eb6aec2d6e2a79175cd", func := "loop.example/g00183/laws.FnExactBoxOk", spec := "fnExactBoxOk", apart := false }
def FnExactBoxOkSaid : Prop := fnExactBoxOkRow.holds Try.pinned (OpenSpec.ofChange fnExactBoxOkSpec)

/-- ITS FALSE NEIGHBOUR: 'it returns false'. Refute it at one input. -/
def fnExactBoxOkWrong : ChangeSpec := { name := "fnExactBoxOk", fn := fun _ => fun
  | [d] => { results := [.lit (.bool false)], args := [d] }
  | _ => none }
def FnExactBoxOkWrongFalsely : Prop := fnExactBoxOkRow.holds Try.pinned (OpenSpec.ofChange fnExactBoxOkWrong)

/-- 'laws.FnBoxes': WHATEVER THE INPUT: true; the input reads as it did. -/
def fnBoxesSpec : ChangeSpec := { name := "fnBoxes", fn := fun _ => fun
  | [d] => { results := [.lit (.bool true)], args := [d] }
  | _ => none }
def fnBoxesRow : OpenClaim := { program := "ytfepabohinkpgaa", sum := "31cff517e18ecbd164cd3b0f55bfef256631ebb652685eb6aec2d6e2a79175cd", func := "loop.example/g00183/laws.FnBoxes", spec := "fnBoxes", apart := false }
def FnBoxesSaid : Prop := fnBoxesRow.holds Try.pinned (OpenSpec.ofChange fnBoxesSpec)

/-- ITS FALSE NEIGHBOUR: 'it returns false'. Refute it at one input. -/
def fnBoxesWrong : ChangeSpec := { name := "fnBoxes", fn := fun _ => fun
  | [d] => { results := [.lit (.bool false)], args := [d] }
  | _ => none }
def FnBoxesWrongFalsely : Prop := fnBoxesRow.holds Try.pinned (OpenSpec.ofChange fnBoxesWrong)

/-- 'laws.FnExactAskOk': WHATEVER THE INPUT: true; the input reads as it did. -/
def fnExactAskOkSpec : ChangeSpec := { name := "fnExactAskOk", fn := fun _ => fun
  | [d] => { results := [.lit (.bool true)], args := [d] }
  | _ => none }
def fnExactAskOkRow : OpenClaim := { program := "ytfepabohinkpgaa", sum := "31cff517e18ecbd164cd3b0f55bfef256631ebb652685eb6aec2d6e2a79175cd", func := "loop.example/g00183/laws.FnExactAskOk", spec := "fnExactAskOk", apart := false }
def FnExactAskOkSaid : Prop := fnExactAskOkRow.holds Try.pinned (OpenSpec.ofChange fnExactAskOkSpec)

/-- ITS FALSE NEIGHBOUR: 'it returns false'. Refute it at one input. -/
def fnExactAskOkWrong : ChangeSpec := { name := "fnExactAskOk", fn := fun _ => fun
  | [d] => { results := [.lit (.bool false)], args := [d] }
  | _ => none }
def FnExactAskOkWrongFalsely : Prop := fnExactAskOkRow.holds Try.pinned (OpenSpec.ofChange fnExactAskOkWrong)

/-- 'laws.FnExactSessionOk': WHATEVER THE INPUT: true; the input reads as it did. -/
def fnExactSessionOkSpec : ChangeSpec := { name := "fnExactSessionOk", fn := fun _ => fun
  | [d] => { results := [.lit (.bool true)], args := [d] }
  | _ => none }
def fnExactSessionOkRow : OpenClaim := { program := "ytfepabohinkpgaa", sum := "31cff517e18ecbd164cd3b0f55bfef256631ebb652685eb6aec2d6e2a79175cd", func := "loop.example/g00183/laws.FnExactSessionOk", spec := "fnExactSessionOk", apart := false }
def FnExactSessionOkSaid : Prop := fnExactSessionOkRow.holds Try.pinned (OpenSpec.ofChange fnExactSessionOkSpec)

/-- ITS FALSE NEIGHBOUR: 'it returns false'. Refute it at one input. -/
def fnExactSessionOkWrong : ChangeSpec := { name := "fnExactSessionOk", fn := fun _ => fun
  | [d] => { results := [.lit (.bool false)], args := [d] }
  | _ => none }
def FnExactSessionOkWrongFalsely : Prop := fnExactSessionOkRow.holds Try.pinned (OpenSpec.ofChange fnExactSessionOkWrong)

/-- 'laws.FnExactReadItem': WHATEVER THE INPUT: true; the input reads as it did. -/
def fnExactReadItemSpec : ChangeSpec := { name := "fnExactReadItem", fn := fun _ => fun
  | [d] => { results := [.lit (.bool true)], args := [d] }
  | _ => none }
def fnExactReadItemRow : OpenClaim := { program := "ytfepabohinkpgaa", sum := "31cff517e18ecbd164cd3b0f55bfef256631ebb652685eb6aec2d6e2a79175cd", func := "loop.example/g00183/laws.FnExactReadItem", spec := "fnExactReadItem", apart := false }
def FnExactReadItemSaid : Prop := fnExactReadItemRow.holds Try.pinned (OpenSpec.ofChange fnExactReadItemSpec)

/-- ITS FALSE NEIGHBOUR: 'it returns false'. Refute it at one input. -/
def fnExactReadItemWrong : ChangeSpec := { name := "fnExactReadItem", fn := fun _ => fun
  | [d] => { results := [.lit (.bool false)], args := [d] }
  | _ => none }
def FnExactReadItemWrongFalsely : Prop := fnExactReadItemRow.holds Try.pinned (OpenSpec.ofChange fnExactReadItemWrong)

/-- 'laws.FnExactMembersOf': WHATEVER THE INPUT: true; the input reads as it did. -/
def fnExactMembersOfSpec : ChangeSpec := { name := "fnExactMembersOf", fn := fun _ => fun
  | [d1, d2] => { results := [.lit (.bool true)], args := [d1, d2] }
  | _ => none }
def fnExactMembersOfRow : OpenClaim := { program := "ytfepabohinkpgaa", sum := "31cff517e18ecbd164cd3b0f55bfef256631ebb652685eb6aec2d6e2a79175cd", func := "loop.example/g00183/laws.FnExactMembersOf", spec := "fnExactMembersOf", apart := false }
def FnExactMembersOfSaid : Prop := fnExactMembersOfRow.holds Try.pinned (OpenSpec.ofChange fnExactMembersOfSpec)

/-- ITS FALSE NEIGHBOUR: 'it returns false'. Refute it at one input. -/
def fnExactMembersOfWrong : ChangeSpec := { name := "fnExactMembersOf", fn := fun _ => fun
  | [d1, d2] => { results := [.lit (.bool false)], args := [d1, d2] }
  | _ => none }
def FnExactMembersOfWrongFalsely : Prop := fnExactMembersOfRow.holds Try.pinned (OpenSpec.ofChange fnExactMembersOfWrong)

/-- 'laws.FnExactDrop': WHATEVER THE INPUT: true; the input reads as it did. -/
def fnExactDropSpec : ChangeSpec := { name := "fnExactDrop", fn := fun _ => fun
  | [d1, d2] => { results := [.lit (.bool true)], args := [d1, d2] }
  | _ => none }
def fnExactDropRow : OpenClaim := { program := "ytfepabohinkpgaa", sum := "31cff517e18ecbd164cd3b0f55bfef256631ebb652685eb6aec2d6e2a79175cd", func := "loop.example/g00183/laws.FnExactDrop", spec := "fnExactDrop", apart := false }
def FnExactDropSaid : Prop := fnExactDropRow.holds Try.pinned (OpenSpec.ofChange fnExactDropSpec)

/-- ITS FALSE NEIGHBOUR: 'it returns false'. Refute it at one input. -/
def fnExactDropWrong : ChangeSpec := { name := "fnExactDrop", fn := fun _ => fun
  | [d1, d2] => { results := [.lit (.bool false)], args := [d1, d2] }
  | _ => none }
def FnExactDropWrongFalsely : Prop := fnExactDropRow.holds Try.pinned (OpenSpec.ofChange fnExactDropWrong)

/-- 'laws.FnExactFetch': WHATEVER THE INPUT: true; the input reads as it did. -/
def fnExactFetchSpec : ChangeSpec := { name := "fnExactFetch", fn := fun _ => fun
  | [d] => { results := [.lit (.bool true)], args := [d] }
  | _ => none }
def fnExactFetchRow : OpenClaim := { program := "ytfepabohinkpgaa", sum := "31cff517e18ecbd164cd3b0f55bfef256631ebb652685eb6aec2d6e2a79175cd", func := "loop.example/g00183/laws.FnExactFetch", spec := "fnExactFetch", apart := false }
def FnExactFetchSaid : Prop := fnExactFetchRow.holds Try.pinned (OpenSpec.ofChange fnExactFetchSpec)

/-- ITS FALSE NEIGHBOUR: 'it returns false'. Refute it at one input. -/
def fnExactFetchWrong : ChangeSpec := { name := "fnExactFetch", fn := fun _ => fun
  | [d] => { results := [.lit (.bool false)], args := [d] }
  | _ => none }
def FnExactFetchWrongFalsely : Prop := fnExactFetchRow.holds Try.pinned (OpenSpec.ofChange fnExactFetchWrong)

/-- 'laws.FnBoxDraws': WHATEVER THE INPUT: true; the input reads as it did. -/
def fnBoxDrawsSpec : ChangeSpec := { name := "fnBoxDraws", fn := fun _ => fun
  | [d] => { results := [.lit (.bool true)], args := [d] }
  | _ => none }
def fnBoxDrawsRow : OpenClaim := { program := "ytfepabohinkpgaa", sum := "31cff517e18ecbd164cd3b0f55bfef256631ebb652685eb6aec2d6e2a79175cd", func := "loop.example/g00183/laws.FnBoxDraws", spec := "fnBoxDraws", apart := false }
def FnBoxDrawsSaid : Prop := fnBoxDrawsRow.holds Try.pinned (OpenSpec.ofChange fnBoxDrawsSpec)

/-- ITS FALSE NEIGHBOUR: 'it returns false'. Refute it at one input. -/
def fnBoxDrawsWrong : ChangeSpec := { name := "fnBoxDraws", fn := fun _ => fun
  | [d] => { results := [.lit (.bool false)], args := [d] }
  | _ => none }
def FnBoxDrawsWrongFalsely : Prop := fnBoxDrawsRow.holds Try.pinned (OpenSpec.ofChange fnBoxDrawsWrong)

/-- 'laws.FnExactAskText': WHATEVER THE INPUT: true; the input reads as it did. -/
def fnExactAskTextSpec : ChangeSpec := { name := "fnExactAskText", fn := fun _ => fun
  | [d] => { results := [.lit (.bool true)], args := [d] }
  | _ => none }
def fnExactAskTextRow : OpenClaim := { program := "ytfepabohinkpgaa", sum := "31cff517e18ecbd164cd3b0f55bfef256631ebb652685eb6aec2d6e2a79175cd", func := "loop.example/g00183/laws.FnExactAskText", spec := "fnExactAskText", inPlace := ["internal/abi.NoEscape"], apart := false }
def FnExactAskTextSaid : Prop := fnExactAskTextRow.holds Try.pinned (OpenSpec.ofChange fnExactAskTextSpec)

/-- ITS FALSE NEIGHBOUR: 'it returns false'. Refute it at one input. -/
def fnExactAskTextWrong : ChangeSpec := { name := "fnExactAskText", fn := fun _ => fun
  | [d] => { results := [.lit (.bool false)], args := [d] }
  | _ => none }
def FnExactAskTextWrongFalsely : Prop := fnExactAskTextRow.holds Try.pinned (OpenSpec.ofChange fnExactAskTextWrong)

/-- 'laws.FnExactItemsOf': WHATEVER THE INPUT: true; the input reads as it did. -/
def fnExactItemsOfSpec : ChangeSpec := { name := "fnExactItemsOf", fn := fun _ => fun
  | [d1, d2] => { results := [.lit (.bool true)], args := [d1, d2] }
  | _ => none }
def fnExactItemsOfRow : OpenClaim := { program := "ytfepabohinkpgaa", sum := "31cff517e18ecbd164cd3b0f55bfef256631ebb652685eb6aec2d6e2a79175cd", func := "loop.example/g00183/laws.FnExactItemsOf", spec := "fnExactItemsOf", apart := false }
def FnExactItemsOfSaid : Prop := fnExactItemsOfRow.holds Try.pinned (OpenSpec.ofChange fnExactItemsOfSpec)

/-- ITS FALSE NEIGHBOUR: 'it returns false'. Refute it at one input. -/
def fnExactItemsOfWrong : ChangeSpec := { name := "fnExactItemsOf", fn := fun _ => fun
  | [d1, d2] => { results := [.lit (.bool false)], args := [d1, d2] }
  | _ => none }
def FnExactItemsOfWrongFalsely : Prop := fnExactItemsOfRow.holds Try.pinned (OpenSpec.ofChange fnExactItemsOfWrong)

/- THE SECOND FORM. 'bulk': how many values and letters a reading holds, each counted each time it is reached (what is shared counts as often as it is met; a slice's spare places count too). A statement '..UptoSaid' is the law's where the arguments, and the package variables that the reading takes, are together of bulk at most 1048576: NARROWER than '..Said'. Prove '..Said' where nothing that the law and all that it calls make is longer than what came in: it says more and counts as full. Else prove '..UptoSaid'. A law counts once. -/
mutual
def uptoBulk {H : Type} : DataW H → Nat
  | .lit (.string bytes) => bytes.length + 1
  | .lit _ => 1
  | .nil => 1
  | .ptr d => uptoBulk d + 1
  | .slice elems spare => uptoBulkAll elems + uptoBulkAll spare + 1
  | .agg parts => uptoBulkAll parts + 1
  | .iface _ d => uptoBulk d + 1
  | .map entries => uptoBulkEntries entries + 1
  | .held _ => 1
def uptoBulkAll {H : Type} : List (DataW H) → Nat
  | [] => 0
  | d :: r => uptoBulk d + uptoBulkAll r
def uptoBulkEntries {H : Type} : List (Lit × DataW H) → Nat
  | [] => 0
  | x :: r => uptoBulkEntry x + uptoBulkEntries r
def uptoBulkEntry {H : Type} : Lit × DataW H → Nat
  | (.string bytes, d) => bytes.length + uptoBulk d + 1
  | (_, d) => uptoBulk d + 1
 end
def uptoSmall : (H : Type) → List (DataW H) → Bool := fun _ ds => decide (uptoBulkAll ds ≤ 1048576)
def OpenSpec.upto (s : _root_.Go.ChangeSpec) : _root_.Go.OpenSpec := { _root_.Go.OpenSpec.ofChange s with cond := some uptoSmall }

/-- 'laws.FnExactStirOk', WHERE WHAT IT READS IS OF BULK AT MOST 1048576: true; the input reads as it did. -/
def fnExactStirOkUptoRow : OpenClaim := { program := "ytfepabohinkpgaa", sum := "31cff517e18ecbd164cd3b0f55bfef256631ebb652685eb6aec2d6e2a79175cd", func := "loop.example/g00183/laws.FnExactStirOk", spec := "fnExactStirOk", apart := false, narrowed := true }
def FnExactStirOkUptoSaid : Prop := fnExactStirOkUptoRow.holds Try.pinned (OpenSpec.upto fnExactStirOkSpec)

/-- 'laws.FnExactBoxOk', WHERE WHAT IT READS IS OF BULK AT MOST 1048576: true; the input reads as it did. -/
def fnExactBoxOkUptoRow : OpenClaim := { program := "ytfepabohinkpgaa", sum := "31cff517e18ecbd164cd3b0f55bfef256631ebb652685eb6aec2d6e2a79175cd", func := "loop.example/g00183/laws.FnExactBoxOk", spec := "fnExactBoxOk", apart := false, narrowed := true }
def FnExactBoxOkUptoSaid : Prop := fnExactBoxOkUptoRow.holds Try.pinned (OpenSpec.upto fnExactBoxOkSpec)

/-- 'laws.FnBoxes', WHERE WHAT IT READS IS OF BULK AT MOST 1048576: true; the input reads as it did. -/
def fnBoxesUptoRow : OpenClaim := { program := "ytfepabohinkpgaa", sum := "31cff517e18ecbd164cd3b0f55bfef256631ebb652685eb6aec2d6e2a79175cd", func := "loop.example/g00183/laws.FnBoxes", spec := "fnBoxes", apart := false, narrowed := true }
def FnBoxesUptoSaid : Prop := fnBoxesUptoRow.holds Try.pinned (OpenSpec.upto fnBoxesSpec)

/-- 'laws.FnExactAskOk', WHERE WHAT IT READS IS OF BULK AT MOST 1048576: true; the input reads as it did. -/
def fnExactAskOkUptoRow : OpenClaim := { program := "ytfepabohinkpgaa", sum := "31cff517e18ecbd164cd3b0f55bfef256631ebb652685eb6aec2d6e2a79175cd", func := "loop.example/g00183/laws.FnExactAskOk", spec := "fnExactAskOk", apart := false, narrowed := true }
def FnExactAskOkUptoSaid : Prop := fnExactAskOkUptoRow.holds Try.pinned (OpenSpec.upto fnExactAskOkSpec)

/-- 'laws.FnExactSessionOk', WHERE WHAT IT READS IS OF BULK AT MOST 1048576: true; the input reads as it did. -/
def fnExactSessionOkUptoRow : OpenClaim := { program := "ytfepabohinkpgaa", sum := "31cff517e18ecbd164cd3b0f55bfef256631ebb652685eb6aec2d6e2a79175cd", func := "loop.example/g00183/laws.FnExactSessionOk", spec := "fnExactSessionOk", apart := false, narrowed := true }
def FnExactSessionOkUptoSaid : Prop := fnExactSessionOkUptoRow.holds Try.pinned (OpenSpec.upto fnExactSessionOkSpec)

/-- 'laws.FnExactReadItem', WHERE WHAT IT READS IS OF BULK AT MOST 1048576: true; the input reads as it did. -/
def fnExactReadItemUptoRow : OpenClaim := { program := "ytfepabohinkpgaa", sum := "31cff517e18ecbd164cd3b0f55bfef256631ebb652685eb6aec2d6e2a79175cd", func := "loop.example/g00183/laws.FnExactReadItem", spec := "fnExactReadItem", apart := false, narrowed := true }
def FnExactReadItemUptoSaid : Prop := fnExactReadItemUptoRow.holds Try.pinned (OpenSpec.upto fnExactReadItemSpec)

/-- 'laws.FnExactMembersOf', WHERE WHAT IT READS IS OF BULK AT MOST 1048576: true; the input reads as it did. -/
def fnExactMembersOfUptoRow : OpenClaim := { program := "ytfepabohinkpgaa", sum := "31cff517e18ecbd164cd3b0f55bfef256631ebb652685eb6aec2d6e2a79175cd", func := "loop.example/g00183/laws.FnExactMembersOf", spec := "fnExactMembersOf", apart := false, narrowed := true }
def FnExactMembersOfUptoSaid : Prop := fnExactMembersOfUptoRow.holds Try.pinned (OpenSpec.upto fnExactMembersOfSpec)

/-- 'laws.FnExactDrop', WHERE WHAT IT READS IS OF BULK AT MOST 1048576: true; the input reads as it did. -/
def fnExactDropUptoRow : OpenClaim := { program := "ytfepabohinkpgaa", sum := "31cff517e18ecbd164cd3b0f55bfef256631ebb652685eb6aec2d6e2a79175cd", func := "loop.example/g00183/laws.FnExactDrop", spec := "fnExactDrop", apart := false, narrowed := true }
def FnExactDropUptoSaid : Prop := fnExactDropUptoRow.holds Try.pinned (OpenSpec.upto fnExactDropSpec)

/-- 'laws.FnExactFetch', WHERE WHAT IT READS IS OF BULK AT MOST 1048576: true; the input reads as it did. -/
def fnExactFetchUptoRow : OpenClaim := { program := "ytfepabohinkpgaa", sum := "31cff517e18ecbd164cd3b0f55bfef256631ebb652685eb6aec2d6e2a79175cd", func := "loop.example/g00183/laws.FnExactFetch", spec := "fnExactFetch", apart := false, narrowed := true }
def FnExactFetchUptoSaid : Prop := fnExactFetchUptoRow.holds Try.pinned (OpenSpec.upto fnExactFetchSpec)

/-- 'laws.FnBoxDraws', WHERE WHAT IT READS IS OF BULK AT MOST 1048576: true; the input reads as it did. -/
def fnBoxDrawsUptoRow : OpenClaim := { program := "ytfepabohinkpgaa", sum := "31cff517e18ecbd164cd3b0f55bfef256631ebb652685eb6aec2d6e2a79175cd", func := "loop.example/g00183/laws.FnBoxDraws", spec := "fnBoxDraws", apart := false, narrowed := true }
def FnBoxDrawsUptoSaid : Prop := fnBoxDrawsUptoRow.holds Try.pinned (OpenSpec.upto fnBoxDrawsSpec)

/-- 'laws.FnExactAskText', WHERE WHAT IT READS IS OF BULK AT MOST 1048576: true; the input reads as it did. -/
def fnExactAskTextUptoRow : OpenClaim := { program := "ytfepabohinkpgaa", sum := "31cff517e18ecbd164cd3b0f55bfef256631ebb652685eb6aec2d6e2a79175cd", func := "loop.example/g00183/laws.FnExactAskText", spec := "fnExactAskText", inPlace := ["internal/abi.NoEscape"], apart := false, narrowed := true }
def FnExactAskTextUptoSaid : Prop := fnExactAskTextUptoRow.holds Try.pinned (OpenSpec.upto fnExactAskTextSpec)

/-- 'laws.FnExactItemsOf', WHERE WHAT IT READS IS OF BULK AT MOST 1048576: true; the input reads as it did. -/
def fnExactItemsOfUptoRow : OpenClaim := { program := "ytfepabohinkpgaa", sum := "31cff517e18ecbd164cd3b0f55bfef256631ebb652685eb6aec2d6e2a79175cd", func := "loop.example/g00183/laws.FnExactItemsOf", spec := "fnExactItemsOf", apart := false, narrowed := true }
def FnExactItemsOfUptoSaid : Prop := fnExactItemsOfUptoRow.holds Try.pinned (OpenSpec.upto fnExactItemsOfSpec)

end Rows
end Go.Proofs.Ytfepabohinkpgaa
