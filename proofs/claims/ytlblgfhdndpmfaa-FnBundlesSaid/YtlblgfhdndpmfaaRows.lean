/-
  No cell of these rows narrows 'for every input' (looked for: loops, veiled, ifaces, maps, wideKeys, modest, calm, conditions, laid).
  DERIVED. THE GIVEN ROWS OF THIS SEAT. 8 by the template 'for every input the law returns true; each argument reads behind the call as it read before'; 0 by the template 'total and deterministic' (their statements: YtlblgfhdndpmfaaTotals.lean).
  GIVEN WITH THE SEED: the statements are not yours to turn. If you find one false, say at which input.
  Laid BY PROGRAM, IN A SANDBOX (cutbox-rows.mjs): the forced cells as the released guide's own fill.sh prints them over the translation 8556fbbb90214c25… (all of the seat's roots in one cut). By AI agents, Wed Nov 11 2026. No macro, syntax, notation, axiom, sorry.
-/
import Derived.Test.YtlblgfhdndpmfaaChecked
import GoSem.Claim
import GoSem.ClaimJoined
import GoSem.ClaimMapViews
import Derived.JoinedTies
import Derived.KernelRfl
namespace Go.Proofs.Ytlblgfhdndpmfaa
/- THE CELL 'sum', in the pinned program and in every row, IS THE sha256 OF THE DUMP (.gsa) THAT YtlblgfhdndpmfaaProg.lean LOADS. Nothing in Lean hashes anything: it is a label: what it is worth is what the hold of that sum in a sandbox is worth. -/
noncomputable def Try.pinned : Pinned := { name := "ytlblgfhdndpmfaa", sum := "8556fbbb90214c25524ec8edb90676b28ef1b70aeca81c39d0b166823d01b37c", checked := Try.checked }
namespace Rows
def none {H : Type} : Left H := { results := [], args := [] }

/-- 'laws.FnItems': WHATEVER THE INPUT: true; the input reads as it did. -/
def fnItemsSpec : ChangeSpec := { name := "fnItems", fn := fun _ => fun
  | [d] => { results := [.lit (.bool true)], args := [d] }
  | _ => none }
def fnItemsRow : OpenClaim := { program := "ytlblgfhdndpmfaa", sum := "8556fbbb90214c25524ec8edb90676b28ef1b70aeca81c39d0b166823d01b37c", func := "loop.example/g00183/laws.FnItems", spec := "fnItems", apart := false }
def FnItemsSaid : Prop := fnItemsRow.holds Try.pinned (OpenSpec.ofChange fnItemsSpec)

/-- ITS FALSE NEIGHBOUR: 'it returns false'. Refute it at one input. -/
def fnItemsWrong : ChangeSpec := { name := "fnItems", fn := fun _ => fun
  | [d] => { results := [.lit (.bool false)], args := [d] }
  | _ => none }
def FnItemsWrongFalsely : Prop := fnItemsRow.holds Try.pinned (OpenSpec.ofChange fnItemsWrong)

/-- 'laws.FnExactReadToken': WHATEVER THE INPUT: true; the input reads as it did. -/
def fnExactReadTokenSpec : ChangeSpec := { name := "fnExactReadToken", fn := fun _ => fun
  | [d] => { results := [.lit (.bool true)], args := [d] }
  | _ => none }
def fnExactReadTokenRow : OpenClaim := { program := "ytlblgfhdndpmfaa", sum := "8556fbbb90214c25524ec8edb90676b28ef1b70aeca81c39d0b166823d01b37c", func := "loop.example/g00183/laws.FnExactReadToken", spec := "fnExactReadToken", apart := false }
def FnExactReadTokenSaid : Prop := fnExactReadTokenRow.holds Try.pinned (OpenSpec.ofChange fnExactReadTokenSpec)

/-- ITS FALSE NEIGHBOUR: 'it returns false'. Refute it at one input. -/
def fnExactReadTokenWrong : ChangeSpec := { name := "fnExactReadToken", fn := fun _ => fun
  | [d] => { results := [.lit (.bool false)], args := [d] }
  | _ => none }
def FnExactReadTokenWrongFalsely : Prop := fnExactReadTokenRow.holds Try.pinned (OpenSpec.ofChange fnExactReadTokenWrong)

/-- 'laws.FnExactReadAsk': WHATEVER THE INPUT: true; the input reads as it did. -/
def fnExactReadAskSpec : ChangeSpec := { name := "fnExactReadAsk", fn := fun _ => fun
  | [d] => { results := [.lit (.bool true)], args := [d] }
  | _ => none }
def fnExactReadAskRow : OpenClaim := { program := "ytlblgfhdndpmfaa", sum := "8556fbbb90214c25524ec8edb90676b28ef1b70aeca81c39d0b166823d01b37c", func := "loop.example/g00183/laws.FnExactReadAsk", spec := "fnExactReadAsk", apart := false }
def FnExactReadAskSaid : Prop := fnExactReadAskRow.holds Try.pinned (OpenSpec.ofChange fnExactReadAskSpec)

/-- ITS FALSE NEIGHBOUR: 'it returns false'. Refute it at one input. -/
def fnExactReadAskWrong : ChangeSpec := { name := "fnExactReadAsk", fn := fun _ => fun
  | [d] => { results := [.lit (.bool false)], args := [d] }
  | _ => none }
def FnExactReadAskWrongFalsely : Prop := fnExactReadAskRow.holds Try.pinned (OpenSpec.ofChange fnExactReadAskWrong)

/-- 'laws.FnExactReadBundle': WHATEVER THE INPUT: true; the input reads as it did. -/
def fnExactReadBundleSpec : ChangeSpec := { name := "fnExactReadBundle", fn := fun _ => fun
  | [d] => { results := [.lit (.bool true)], args := [d] }
  | _ => none }
def fnExactReadBundleRow : OpenClaim := { program := "ytlblgfhdndpmfaa", sum := "8556fbbb90214c25524ec8edb90676b28ef1b70aeca81c39d0b166823d01b37c", func := "loop.example/g00183/laws.FnExactReadBundle", spec := "fnExactReadBundle", apart := false }
def FnExactReadBundleSaid : Prop := fnExactReadBundleRow.holds Try.pinned (OpenSpec.ofChange fnExactReadBundleSpec)

/-- ITS FALSE NEIGHBOUR: 'it returns false'. Refute it at one input. -/
def fnExactReadBundleWrong : ChangeSpec := { name := "fnExactReadBundle", fn := fun _ => fun
  | [d] => { results := [.lit (.bool false)], args := [d] }
  | _ => none }
def FnExactReadBundleWrongFalsely : Prop := fnExactReadBundleRow.holds Try.pinned (OpenSpec.ofChange fnExactReadBundleWrong)

/-- 'laws.FnTokens': WHATEVER THE INPUT: true; the input reads as it did. -/
def fnTokensSpec : ChangeSpec := { name := "fnTokens", fn := fun _ => fun
  | [d] => { results := [.lit (.bool true)], args := [d] }
  | _ => none }
def fnTokensRow : OpenClaim := { program := "ytlblgfhdndpmfaa", sum := "8556fbbb90214c25524ec8edb90676b28ef1b70aeca81c39d0b166823d01b37c", func := "loop.example/g00183/laws.FnTokens", spec := "fnTokens", inPlace := ["internal/abi.NoEscape"], apart := false }
def FnTokensSaid : Prop := fnTokensRow.holds Try.pinned (OpenSpec.ofChange fnTokensSpec)

/-- ITS FALSE NEIGHBOUR: 'it returns false'. Refute it at one input. -/
def fnTokensWrong : ChangeSpec := { name := "fnTokens", fn := fun _ => fun
  | [d] => { results := [.lit (.bool false)], args := [d] }
  | _ => none }
def FnTokensWrongFalsely : Prop := fnTokensRow.holds Try.pinned (OpenSpec.ofChange fnTokensWrong)

/-- 'laws.FnAsks': WHATEVER THE INPUT: true; the input reads as it did. -/
def fnAsksSpec : ChangeSpec := { name := "fnAsks", fn := fun _ => fun
  | [d] => { results := [.lit (.bool true)], args := [d] }
  | _ => none }
def fnAsksRow : OpenClaim := { program := "ytlblgfhdndpmfaa", sum := "8556fbbb90214c25524ec8edb90676b28ef1b70aeca81c39d0b166823d01b37c", func := "loop.example/g00183/laws.FnAsks", spec := "fnAsks", inPlace := ["internal/abi.NoEscape"], apart := false }
def FnAsksSaid : Prop := fnAsksRow.holds Try.pinned (OpenSpec.ofChange fnAsksSpec)

/-- ITS FALSE NEIGHBOUR: 'it returns false'. Refute it at one input. -/
def fnAsksWrong : ChangeSpec := { name := "fnAsks", fn := fun _ => fun
  | [d] => { results := [.lit (.bool false)], args := [d] }
  | _ => none }
def FnAsksWrongFalsely : Prop := fnAsksRow.holds Try.pinned (OpenSpec.ofChange fnAsksWrong)

/-- 'laws.FnBundles': WHATEVER THE INPUT: true; the input reads as it did. -/
def fnBundlesSpec : ChangeSpec := { name := "fnBundles", fn := fun _ => fun
  | [d] => { results := [.lit (.bool true)], args := [d] }
  | _ => none }
def fnBundlesRow : OpenClaim := { program := "ytlblgfhdndpmfaa", sum := "8556fbbb90214c25524ec8edb90676b28ef1b70aeca81c39d0b166823d01b37c", func := "loop.example/g00183/laws.FnBundles", spec := "fnBundles", inPlace := ["internal/abi.NoEscape"], apart := false }
def FnBundlesSaid : Prop := fnBundlesRow.holds Try.pinned (OpenSpec.ofChange fnBundlesSpec)

/-- ITS FALSE NEIGHBOUR: 'it returns false'. Refute it at one input. -/
def fnBundlesWrong : ChangeSpec := { name := "fnBundles", fn := fun _ => fun
  | [d] => { results := [.lit (.bool false)], args := [d] }
  | _ => none }
def FnBundlesWrongFalsely : Prop := fnBundlesRow.holds Try.pinned (OpenSpec.ofChange fnBundlesWrong)

/-- 'laws.FnExactSaidFirst': WHATEVER THE INPUT: true; the input reads as it did. -/
def fnExactSaidFirstSpec : ChangeSpec := { name := "fnExactSaidFirst", fn := fun _ => fun
  | [d] => { results := [.lit (.bool true)], args := [d] }
  | _ => none }
def fnExactSaidFirstRow : OpenClaim := { program := "ytlblgfhdndpmfaa", sum := "8556fbbb90214c25524ec8edb90676b28ef1b70aeca81c39d0b166823d01b37c", func := "loop.example/g00183/laws.FnExactSaidFirst", spec := "fnExactSaidFirst", unfollowed := true, recurses := true, apart := false }
def FnExactSaidFirstSaid : Prop := fnExactSaidFirstRow.holds Try.pinned (OpenSpec.ofChange fnExactSaidFirstSpec)

/-- ITS FALSE NEIGHBOUR: 'it returns false'. Refute it at one input. -/
def fnExactSaidFirstWrong : ChangeSpec := { name := "fnExactSaidFirst", fn := fun _ => fun
  | [d] => { results := [.lit (.bool false)], args := [d] }
  | _ => none }
def FnExactSaidFirstWrongFalsely : Prop := fnExactSaidFirstRow.holds Try.pinned (OpenSpec.ofChange fnExactSaidFirstWrong)

/- THE SECOND FORM. 'bulk': how many values and letters a reading holds, each counted each time it is reached (what is shared counts as often as it is met; a slice's spare places count too). A statement '..UptoSaid' is the law's where the arguments, and the package variables that the reading takes, are together of bulk at most 1048576: NARROWER than '..Said'. Prove '..Said' where nothing that the law and all that it calls make is longer than what came in: it says more and counts as full. Else prove '..UptoSaid'. A law counts once. -/
mutual
def uptoBulk {H : Type} : DataW H → Nat
  | .lit (.string bytes) => bytes.length + 1
  | .lit _ => 1
  | .nil => 1
  | .ptr d => uptoBulk d + 1
  | .slice elems spare => uptoBulkAll elems + uptoBulkAll spare + 1
  | .agg parts => uptoBulkAll parts + 1
  | .iface _ d => uptoBulk d + 1
  | .map entries => uptoBulkEntries entries + 1
  | .held _ => 1
def uptoBulkAll {H : Type} : List (DataW H) → Nat
  | [] => 0
  | d :: r => uptoBulk d + uptoBulkAll r
def uptoBulkEntries {H : Type} : List (Lit × DataW H) → Nat
  | [] => 0
  | x :: r => uptoBulkEntry x + uptoBulkEntries r
def uptoBulkEntry {H : Type} : Lit × DataW H → Nat
  | (.string bytes, d) => bytes.length + uptoBulk d + 1
  | (_, d) => uptoBulk d + 1
 end
def uptoSmall : (H : Type) → List (DataW H) → Bool := fun _ ds => decide (uptoBulkAll ds ≤ 1048576)
def OpenSpec.upto (s : _root_.Go.ChangeSpec) : _root_.Go.OpenSpec := { _root_.Go.OpenSpec.ofChange s with cond := some uptoSmall }

/-- 'laws.FnItems', WHERE WHAT IT READS IS OF BULK AT MOST 1048576: true; the input reads as it did. -/
def fnItemsUptoRow : OpenClaim := { program := "ytlblgfhdndpmfaa", sum := "8556fbbb90214c25524ec8edb90676b28ef1b70aeca81c39d0b166823d01b37c", func := "loop.example/g00183/laws.FnItems", spec := "fnItems", apart := false, narrowed := true }
def FnItemsUptoSaid : Prop := fnItemsUptoRow.holds Try.pinned (OpenSpec.upto fnItemsSpec)

/-- 'laws.FnExactReadToken', WHERE WHAT IT READS IS OF BULK AT MOST 1048576: true; the input reads as it did. -/
def fnExactReadTokenUptoRow : OpenClaim := { program := "ytlblgfhdndpmfaa", sum := "8556fbbb90214c25524ec8edb90676b28ef1b70aeca81c39d0b166823d01b37c", func := "loop.example/g00183/laws.FnExactReadToken", spec := "fnExactReadToken", apart := false, narrowed := true }
def FnExactReadTokenUptoSaid : Prop := fnExactReadTokenUptoRow.holds Try.pinned (OpenSpec.upto fnExactReadTokenSpec)

/-- 'laws.FnExactReadAsk', WHERE WHAT IT READS IS OF BULK AT MOST 1048576: true; the input reads as it did. -/
def fnExactReadAskUptoRow : OpenClaim := { program := "ytlblgfhdndpmfaa", sum := "8556fbbb90214c25524ec8edb90676b28ef1b70aeca81c39d0b166823d01b37c", func := "loop.example/g00183/laws.FnExactReadAsk", spec := "fnExactReadAsk", apart := false, narrowed := true }
def FnExactReadAskUptoSaid : Prop := fnExactReadAskUptoRow.holds Try.pinned (OpenSpec.upto fnExactReadAskSpec)

/-- 'laws.FnExactReadBundle', WHERE WHAT IT READS IS OF BULK AT MOST 1048576: true; the input reads as it did. -/
def fnExactReadBundleUptoRow : OpenClaim := { program := "ytlblgfhdndpmfaa", sum := "8556fbbb90214c25524ec8edb90676b28ef1b70aeca81c39d0b166823d01b37c", func := "loop.example/g00183/laws.FnExactReadBundle", spec := "fnExactReadBundle", apart := false, narrowed := true }
def FnExactReadBundleUptoSaid : Prop := fnExactReadBundleUptoRow.holds Try.pinned (OpenSpec.upto fnExactReadBundleSpec)

/-- 'laws.FnTokens', WHERE WHAT IT READS IS OF BULK AT MOST 1048576: true; the input reads as it did. -/
def fnTokensUptoRow : OpenClaim := { program := "ytlblgfhdndpmfaa", sum := "8556fbbb90214c25524ec8edb90676b28ef1b70aeca81c39d0b166823d01b37c", func := "loop.example/g00183/laws.FnTokens", spec := "fnTokens", inPlace := ["internal/abi.NoEscape"], apart := false, narrowed := true }
def FnTokensUptoSaid : Prop := fnTokensUptoRow.holds Try.pinned (OpenSpec.upto fnTokensSpec)

/-- 'laws.FnAsks', WHERE WHAT IT READS IS OF BULK AT MOST 1048576: true; the input reads as it did. -/
def fnAsksUptoRow : OpenClaim := { program := "ytlblgfhdndpmfaa", sum := "8556fbbb90214c25524ec8edb90676b28ef1b70aeca81c39d0b166823d01b37c", func := "loop.example/g00183/laws.FnAsks", spec := "fnAsks", inPlace := ["internal/abi.NoEscape"], apart := false, narrowed := true }
def FnAsksUptoSaid : Prop := fnAsksUptoRow.holds Try.pinned (OpenSpec.upto fnAsksSpec)

/-- 'laws.FnBundles', WHERE WHAT IT READS IS OF BULK AT MOST 1048576: true; the input reads as it did. -/
def fnBundlesUptoRow : OpenClaim := { program := "ytlblgfhdndpmfaa", sum := "8556fbbb90214c25524ec8edb90676b28ef1b70aeca81c39d0b166823d01b37c", func := "loop.example/g00183/laws.FnBundles", spec := "fnBundles", inPlace := ["internal/abi.NoEscape"], apart := false, narrowed := true }
def FnBundlesUptoSaid : Prop := fnBundlesUptoRow.holds Try.pinned (OpenSpec.upto fnBundlesSpec)

/-- 'laws.FnExactSaidFirst', WHERE WHAT IT READS IS OF BULK AT MOST 1048576: true; the input reads as it did. -/
def fnExactSaidFirstUptoRow : OpenClaim := { program := "ytlblgfhdndpmfaa", sum := "8556fbbb90214c25524ec8edb90676b28ef1b70aeca81c39d0b166823d01b37c", func := "loop.example/g00183/laws.FnExactSaidFirst", spec := "fnExactSaidFirst", unfollowed := true, recurses := true, apart := false, narrowed := true }
def FnExactSaidFirstUptoSaid : Prop := fnExactSaidFirstUptoRow.holds Try.pinned (OpenSpec.upto fnExactSaidFirstSpec)

end Rows
end Go.Proofs.Ytlblgfhdndpmfaa
