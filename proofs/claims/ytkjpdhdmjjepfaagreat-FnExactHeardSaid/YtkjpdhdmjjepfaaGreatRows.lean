/-
  No cell of these rows narrows 'for every input' (looked for: loops, veiled, ifaces, maps, wideKeys, modest, calm, conditions, laid).
  DERIVED. THE GIVEN ROWS OF THIS SEAT. 2 by the template 'for every input the law returns true; each argument reads behind the call as it read before'; 0 by the template 'total and deterministic' (their statements: YtkjpdhdmjjepfaaGreatTotals.lean).
  GIVEN WITH THE SEED: the statements are not yours to turn. If you find one false, say at which input.
  Laid BY PROGRAM, IN A SANDBOX (cutbox-rows.mjs): the forced cells as the released guide's own fill.sh prints them over the translation f3f289f2164edfe8… (all of the seat's roots in one cut). By AI agents, Wed Nov 11 2026. No macro, syntax, notation, axiom, sorry.
-/
import Derived.Test.YtkjpdhdmjjepfaaGreatChecked
import GoSem.Claim
import GoSem.ClaimJoined
import GoSem.ClaimMapViews
import Derived.JoinedTies
import Derived.KernelRfl
namespace Go.Proofs.YtkjpdhdmjjepfaaGreat
/- THE CELL 'sum', in the pinned program and in every row, IS THE sha256 OF THE DUMP (.gsa) THAT YtkjpdhdmjjepfaaGreatProg.lean LOADS. Nothing in Lean hashes anything: it is a label: what it is worth is what the hold of that sum in a sandbox is worth. -/
noncomputable def Tryz.pinned : Pinned := { name := "ytkjpdhdmjjepfaagreat", sum := "f3f289f2164edfe82a80ab53ae8bdc7800b54ca46d746b6242e96ce0bec35bf1", checked := Tryz.checked }
namespace Rows
def none {H : Type} : Left H := { results := [], args := [] }

/-- 'laws.FnExactOneHeard': WHATEVER THE INPUT: true; the input reads as it did. -/
def fnExactOneHeardSpec : ChangeSpec := { name := "fnExactOneHeard", fn := fun _ => fun
  | [d] => { results := [.lit (.bool true)], args := [d] }
  | _ => none }
def fnExactOneHeardRow : OpenClaim := { program := "ytkjpdhdmjjepfaagreat", sum := "f3f289f2164edfe82a80ab53ae8bdc7800b54ca46d746b6242e96ce0bec35bf1", func := "loop.example/g00183/laws.FnExactOneHeard", spec := "fnExactOneHeard", apart := false }
def FnExactOneHeardSaid : Prop := fnExactOneHeardRow.holds Tryz.pinned (OpenSpec.ofChange fnExactOneHeardSpec)

/-- ITS FALSE NEIGHBOUR: 'it returns false'. Refute it at one input. -/
def fnExactOneHeardWrong : ChangeSpec := { name := "fnExactOneHeard", fn := fun _ => fun
  | [d] => { results := [.lit (.bool false)], args := [d] }
  | _ => none }
def FnExactOneHeardWrongFalsely : Prop := fnExactOneHeardRow.holds Tryz.pinned (OpenSpec.ofChange fnExactOneHeardWrong)

/-- 'laws.FnExactHeard': WHATEVER THE INPUT: true; the input reads as it did. -/
def fnExactHeardSpec : ChangeSpec := { name := "fnExactHeard", fn := fun _ => fun
  | [d1, d2] => { results := [.lit (.bool true)], args := [d1, d2] }
  | _ => none }
def fnExactHeardRow : OpenClaim := { program := "ytkjpdhdmjjepfaagreat", sum := "f3f289f2164edfe82a80ab53ae8bdc7800b54ca46d746b6242e96ce0bec35bf1", func := "loop.example/g00183/laws.FnExactHeard", spec := "fnExactHeard", apart := false }
def FnExactHeardSaid : Prop := fnExactHeardRow.holds Tryz.pinned (OpenSpec.ofChange fnExactHeardSpec)

/-- ITS FALSE NEIGHBOUR: 'it returns false'. Refute it at one input. -/
def fnExactHeardWrong : ChangeSpec := { name := "fnExactHeard", fn := fun _ => fun
  | [d1, d2] => { results := [.lit (.bool false)], args := [d1, d2] }
  | _ => none }
def FnExactHeardWrongFalsely : Prop := fnExactHeardRow.holds Tryz.pinned (OpenSpec.ofChange fnExactHeardWrong)

/- THE SECOND FORM. 'bulk': how many values and letters a reading holds, each counted each time it is reached (what is shared counts as often as it is met; a slice's spare places count too). A statement '..UptoSaid' is the law's where the arguments, and the package variables that the reading takes, are together of bulk at most 1048576: NARROWER than '..Said'. Prove '..Said' where nothing that the law and all that it calls make is longer than what came in: it says more and counts as full. Else prove '..UptoSaid'. A law counts once. -/
mutual
def uptoBulk {H : Type} : DataW H → Nat
  | .lit (.string bytes) => bytes.length + 1
  | .lit _ => 1
  | .nil => 1
  | .ptr d => uptoBulk d + 1
  | .slice elems spare => uptoBulkAll elems + uptoBulkAll spare + 1
  | .agg parts => uptoBulkAll parts + 1
  | .iface _ d => uptoBulk d + 1
  | .map entries => uptoBulkEntries entries + 1
  | .held _ => 1
def uptoBulkAll {H : Type} : List (DataW H) → Nat
  | [] => 0
  | d :: r => uptoBulk d + uptoBulkAll r
def uptoBulkEntries {H : Type} : List (Lit × DataW H) → Nat
  | [] => 0
  | x :: r => uptoBulkEntry x + uptoBulkEntries r
def uptoBulkEntry {H : Type} : Lit × DataW H → Nat
  | (.string bytes, d) => bytes.length + uptoBulk d + 1
  | (_, d) => uptoBulk d + 1
 end
def uptoSmall : (H : Type) → List (DataW H) → Bool := fun _ ds => decide (uptoBulkAll ds ≤ 1048576)
def OpenSpec.upto (s : _root_.Go.ChangeSpec) : _root_.Go.OpenSpec := { _root_.Go.OpenSpec.ofChange s with cond := some uptoSmall }

/-- 'laws.FnExactOneHeard', WHERE WHAT IT READS IS OF BULK AT MOST 1048576: true; the input reads as it did. -/
def fnExactOneHeardUptoRow : OpenClaim := { program := "ytkjpdhdmjjepfaagreat", sum := "f3f289f2164edfe82a80ab53ae8bdc7800b54ca46d746b6242e96ce0bec35bf1", func := "loop.example/g00183/laws.FnExactOneHeard", spec := "fnExactOneHeard", apart := false, narrowed := true }
def FnExactOneHeardUptoSaid : Prop := fnExactOneHeardUptoRow.holds Tryz.pinned (OpenSpec.upto fnExactOneHeardSpec)

/-- 'laws.FnExactHeard', WHERE WHAT IT READS IS OF BULK AT MOST 1048576: true; the input reads as it did. -/
def fnExactHeardUptoRow : OpenClaim := { program := "ytkjpdhdmjjepfaagreat", sum := "f3f289f2164edfe82a80ab53ae8bdc7800b54ca46d746b6242e96ce0bec35bf1", func := "loop.example/g00183/laws.FnExactHeard", spec := "fnExactHeard", apart := false, narrowed := true }
def FnExactHeardUptoSaid : Prop := fnExactHeardUptoRow.holds Tryz.pinned (OpenSpec.upto fnExactHeardSpec)

end Rows
end Go.Proofs.YtkjpdhdmjjepfaaGreat
