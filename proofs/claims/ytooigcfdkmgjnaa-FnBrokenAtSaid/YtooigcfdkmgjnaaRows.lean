/-
  No cell of these rows narrows 'for every input' (looked for: loops, veiled, ifaces, maps, wideKeys, modest, calm, conditions, laid).
  DERIVED. THE GIVEN ROWS OF THIS SEAT. 10 by the template 'for every input the law returns true; each argument reads behind the call as it read before'; 0 by the template 'total and deterministic' (their statements: YtooigcfdkmgjnaaTotals.lean).
  GIVEN WITH THE SEED: the statements are not yours to turn. If you find one false, say at which input.
  Laid BY PROGRAM, IN A SANDBOX (cutbox-rows.mjs): the forced cells as the released guide's own fill.sh prints them over the translation e30ced50ed7003bb… (all of the seat's roots in one cut). By AI agents, Wed Nov 11 2026. No macro, syntax, notation, axiom, sorry.
-/
import Derived.Test.YtooigcfdkmgjnaaChecked
import GoSem.Claim
import GoSem.ClaimJoined
import GoSem.ClaimMapViews
import Derived.JoinedTies
import Derived.KernelRfl
namespace Go.Proofs.Ytooigcfdkmgjnaa
/- THE CELL 'sum', in the pinned program and in every row, IS THE sha256 OF THE DUMP (.gsa) THAT YtooigcfdkmgjnaaProg.lean LOADS. Nothing in Lean hashes anything: it is a label: what it is worth is what the hold of that sum in a sandbox is worth. -/
noncomputable def Try.pinned : Pinned := { name := "ytooigcfdkmgjnaa", sum := "e30ced50ed7003bb1bbc214ad41c9a81039211cf004a53d9475123d354b0b490", checked := Try.checked }
namespace Rows
def none {H : Type} : Left H := { results := [], args := [] }

/-- 'laws.FnExactValidAccesses': WHATEVER THE INPUT: true; the input reads as it did. -/
def fnExactValidAccessesSpec : ChangeSpec := { name := "fnExactValidAccesses", fn := fun _ => fun
  | [d] => { results := [.lit (.bool true)], args := [d] }
  | _ => none }
def fnExactValidAccessesRow : OpenClaim := { program := "ytooigcfdkmgjnaa", sum := "e30ced50ed7003bb1bbc214ad41c9a81039211cf004a53d9475123d354b0b490", func := "loop.example/witnessorders/laws.FnExactValidAccesses", spec := "fnExactValidAccesses", apart := false }
def FnExactValidAccessesSaid : Prop := fnExactValidAccessesRow.holds Try.pinned (OpenSpec.ofChange fnExactValidAccessesSpec)

/-- ITS FALSE NEIGHBOUR: 'it returns false'. Refute it at one input. -/
def fnExactValidAccessesWrong : ChangeSpec := { name := "fnExactValidAccesses", fn := fun _ => fun
  | [d] => { results := [.lit (.bool false)], args := [d] }
  | _ => none }
def FnExactValidAccessesWrongFalsely : Prop := fnExactValidAccessesRow.holds Try.pinned (OpenSpec.ofChange fnExactValidAccessesWrong)

/-- 'laws.FnValidAccesses': WHATEVER THE INPUT: true; the input reads as it did. -/
def fnValidAccessesSpec : ChangeSpec := { name := "fnValidAccesses", fn := fun _ => fun
  | [d] => { results := [.lit (.bool true)], args := [d] }
  | _ => none }
def fnValidAccessesRow : OpenClaim := { program := "ytooigcfdkmgjnaa", sum := "e30ced50ed7003bb1bbc214ad41c9a81039211cf004a53d9475123d354b0b490", func := "loop.example/witnessorders/laws.FnValidAccesses", spec := "fnValidAccesses", apart := false }
def FnValidAccessesSaid : Prop := fnValidAccessesRow.holds Try.pinned (OpenSpec.ofChange fnValidAccessesSpec)

/-- ITS FALSE NEIGHBOUR: 'it returns false'. Refute it at one input. -/
def fnValidAccessesWrong : ChangeSpec := { name := "fnValidAccesses", fn := fun _ => fun
  | [d] => { results := [.lit (.bool false)], args := [d] }
  | _ => none }
def FnValidAccessesWrongFalsely : Prop := fnValidAccessesRow.holds Try.pinned (OpenSpec.ofChange fnValidAccessesWrong)

/-- 'laws.FnExactIsCausal': WHATEVER THE INPUT: true; the input reads as it did. -/
def fnExactIsCausalSpec : ChangeSpec := { name := "fnExactIsCausal", fn := fun _ => fun
  | [d] => { results := [.lit (.bool true)], args := [d] }
  | _ => none }
def fnExactIsCausalRow : OpenClaim := { program := "ytooigcfdkmgjnaa", sum := "e30ced50ed7003bb1bbc214ad41c9a81039211cf004a53d9475123d354b0b490", func := "loop.example/witnessorders/laws.FnExactIsCausal", spec := "fnExactIsCausal", apart := false }
def FnExactIsCausalSaid : Prop := fnExactIsCausalRow.holds Try.pinned (OpenSpec.ofChange fnExactIsCausalSpec)

/-- ITS FALSE NEIGHBOUR: 'it returns false'. Refute it at one input. -/
def fnExactIsCausalWrong : ChangeSpec := { name := "fnExactIsCausal", fn := fun _ => fun
  | [d] => { results := [.lit (.bool false)], args := [d] }
  | _ => none }
def FnExactIsCausalWrongFalsely : Prop := fnExactIsCausalRow.holds Try.pinned (OpenSpec.ofChange fnExactIsCausalWrong)

/-- 'laws.FnExactCausesOf': WHATEVER THE INPUT: true; the input reads as it did. -/
def fnExactCausesOfSpec : ChangeSpec := { name := "fnExactCausesOf", fn := fun _ => fun
  | [d] => { results := [.lit (.bool true)], args := [d] }
  | _ => none }
def fnExactCausesOfRow : OpenClaim := { program := "ytooigcfdkmgjnaa", sum := "e30ced50ed7003bb1bbc214ad41c9a81039211cf004a53d9475123d354b0b490", func := "loop.example/witnessorders/laws.FnExactCausesOf", spec := "fnExactCausesOf", apart := false }
def FnExactCausesOfSaid : Prop := fnExactCausesOfRow.holds Try.pinned (OpenSpec.ofChange fnExactCausesOfSpec)

/-- ITS FALSE NEIGHBOUR: 'it returns false'. Refute it at one input. -/
def fnExactCausesOfWrong : ChangeSpec := { name := "fnExactCausesOf", fn := fun _ => fun
  | [d] => { results := [.lit (.bool false)], args := [d] }
  | _ => none }
def FnExactCausesOfWrongFalsely : Prop := fnExactCausesOfRow.holds Try.pinned (OpenSpec.ofChange fnExactCausesOfWrong)

/-- 'laws.FnCausesOf': WHATEVER THE INPUT: true; the input reads as it did. -/
def fnCausesOfSpec : ChangeSpec := { name := "fnCausesOf", fn := fun _ => fun
  | [d] => { results := [.lit (.bool true)], args := [d] }
  | _ => none }
def fnCausesOfRow : OpenClaim := { program := "ytooigcfdkmgjnaa", sum := "e30ced50ed7003bb1bbc214ad41c9a81039211cf004a53d9475123d354b0b490", func := "loop.example/witnessorders/laws.FnCausesOf", spec := "fnCausesOf", apart := false }
def FnCausesOfSaid : Prop := fnCausesOfRow.holds Try.pinned (OpenSpec.ofChange fnCausesOfSpec)

/-- ITS FALSE NEIGHBOUR: 'it returns false'. Refute it at one input. -/
def fnCausesOfWrong : ChangeSpec := { name := "fnCausesOf", fn := fun _ => fun
  | [d] => { results := [.lit (.bool false)], args := [d] }
  | _ => none }
def FnCausesOfWrongFalsely : Prop := fnCausesOfRow.holds Try.pinned (OpenSpec.ofChange fnCausesOfWrong)

/-- 'laws.FnExactBrokenAt': WHATEVER THE INPUT: true; the input reads as it did. -/
def fnExactBrokenAtSpec : ChangeSpec := { name := "fnExactBrokenAt", fn := fun _ => fun
  | [d1, d2] => { results := [.lit (.bool true)], args := [d1, d2] }
  | _ => none }
def fnExactBrokenAtRow : OpenClaim := { program := "ytooigcfdkmgjnaa", sum := "e30ced50ed7003bb1bbc214ad41c9a81039211cf004a53d9475123d354b0b490", func := "loop.example/witnessorders/laws.FnExactBrokenAt", spec := "fnExactBrokenAt", apart := false }
def FnExactBrokenAtSaid : Prop := fnExactBrokenAtRow.holds Try.pinned (OpenSpec.ofChange fnExactBrokenAtSpec)

/-- ITS FALSE NEIGHBOUR: 'it returns false'. Refute it at one input. -/
def fnExactBrokenAtWrong : ChangeSpec := { name := "fnExactBrokenAt", fn := fun _ => fun
  | [d1, d2] => { results := [.lit (.bool false)], args := [d1, d2] }
  | _ => none }
def FnExactBrokenAtWrongFalsely : Prop := fnExactBrokenAtRow.holds Try.pinned (OpenSpec.ofChange fnExactBrokenAtWrong)

/-- 'laws.FnBrokenAt': WHATEVER THE INPUT: true; the input reads as it did. -/
def fnBrokenAtSpec : ChangeSpec := { name := "fnBrokenAt", fn := fun _ => fun
  | [d] => { results := [.lit (.bool true)], args := [d] }
  | _ => none }
def fnBrokenAtRow : OpenClaim := { program := "ytooigcfdkmgjnaa", sum := "e30ced50ed7003bb1bbc214ad41c9a81039211cf004a53d9475123d354b0b490", func := "loop.example/witnessorders/laws.FnBrokenAt", spec := "fnBrokenAt", apart := false }
def FnBrokenAtSaid : Prop := fnBrokenAtRow.holds Try.pinned (OpenSpec.ofChange fnBrokenAtSpec)

/-- ITS FALSE NEIGHBOUR: 'it returns false'. Refute it at one input. -/
def fnBrokenAtWrong : ChangeSpec := { name := "fnBrokenAt", fn := fun _ => fun
  | [d] => { results := [.lit (.bool false)], args := [d] }
  | _ => none }
def FnBrokenAtWrongFalsely : Prop := fnBrokenAtRow.holds Try.pinned (OpenSpec.ofChange fnBrokenAtWrong)

/-- 'laws.FnExactMendReads': WHATEVER THE INPUT: true; the input reads as it did. -/
def fnExactMendReadsSpec : ChangeSpec := { name := "fnExactMendReads", fn := fun _ => fun
  | [d] => { results := [.lit (.bool true)], args := [d] }
  | _ => none }
def fnExactMendReadsRow : OpenClaim := { program := "ytooigcfdkmgjnaa", sum := "e30ced50ed7003bb1bbc214ad41c9a81039211cf004a53d9475123d354b0b490", func := "loop.example/witnessorders/laws.FnExactMendReads", spec := "fnExactMendReads", apart := false }
def FnExactMendReadsSaid : Prop := fnExactMendReadsRow.holds Try.pinned (OpenSpec.ofChange fnExactMendReadsSpec)

/-- ITS FALSE NEIGHBOUR: 'it returns false'. Refute it at one input. -/
def fnExactMendReadsWrong : ChangeSpec := { name := "fnExactMendReads", fn := fun _ => fun
  | [d] => { results := [.lit (.bool false)], args := [d] }
  | _ => none }
def FnExactMendReadsWrongFalsely : Prop := fnExactMendReadsRow.holds Try.pinned (OpenSpec.ofChange fnExactMendReadsWrong)

/-- 'laws.FnMendReads': WHATEVER THE INPUT: true; the input reads as it did. -/
def fnMendReadsSpec : ChangeSpec := { name := "fnMendReads", fn := fun _ => fun
  | [d] => { results := [.lit (.bool true)], args := [d] }
  | _ => none }
def fnMendReadsRow : OpenClaim := { program := "ytooigcfdkmgjnaa", sum := "e30ced50ed7003bb1bbc214ad41c9a81039211cf004a53d9475123d354b0b490", func := "loop.example/witnessorders/laws.FnMendReads", spec := "fnMendReads", apart := false }
def FnMendReadsSaid : Prop := fnMendReadsRow.holds Try.pinned (OpenSpec.ofChange fnMendReadsSpec)

/-- ITS FALSE NEIGHBOUR: 'it returns false'. Refute it at one input. -/
def fnMendReadsWrong : ChangeSpec := { name := "fnMendReads", fn := fun _ => fun
  | [d] => { results := [.lit (.bool false)], args := [d] }
  | _ => none }
def FnMendReadsWrongFalsely : Prop := fnMendReadsRow.holds Try.pinned (OpenSpec.ofChange fnMendReadsWrong)

/-- 'laws.FnIsCausal': WHATEVER THE INPUT: true; the input reads as it did. -/
def fnIsCausalSpec : ChangeSpec := { name := "fnIsCausal", fn := fun _ => fun
  | [d] => { results := [.lit (.bool true)], args := [d] }
  | _ => none }
def fnIsCausalRow : OpenClaim := { program := "ytooigcfdkmgjnaa", sum := "e30ced50ed7003bb1bbc214ad41c9a81039211cf004a53d9475123d354b0b490", func := "loop.example/witnessorders/laws.FnIsCausal", spec := "fnIsCausal", apart := false }
def FnIsCausalSaid : Prop := fnIsCausalRow.holds Try.pinned (OpenSpec.ofChange fnIsCausalSpec)

/-- ITS FALSE NEIGHBOUR: 'it returns false'. Refute it at one input. -/
def fnIsCausalWrong : ChangeSpec := { name := "fnIsCausal", fn := fun _ => fun
  | [d] => { results := [.lit (.bool false)], args := [d] }
  | _ => none }
def FnIsCausalWrongFalsely : Prop := fnIsCausalRow.holds Try.pinned (OpenSpec.ofChange fnIsCausalWrong)

/- THE SECOND FORM. 'bulk': how many values and letters a reading holds, each counted each time it is reached (what is shared counts as often as it is met; a slice's spare places count too). A statement '..UptoSaid' is the law's where the arguments, and the package variables that the reading takes, are together of bulk at most 1048576: NARROWER than '..Said'. Prove '..Said' where nothing that the law and all that it calls make is longer than what came in: it says more and counts as full. Else prove '..UptoSaid'. A law counts once. -/
mutual
def uptoBulk {H : Type} : DataW H → Nat
  | .lit (.string bytes) => bytes.length + 1
  | .lit _ => 1
  | .nil => 1
  | .ptr d => uptoBulk d + 1
  | .slice elems spare => uptoBulkAll elems + uptoBulkAll spare + 1
  | .agg parts => uptoBulkAll parts + 1
  | .iface _ d => uptoBulk d + 1
  | .map entries => uptoBulkEntries entries + 1
  | .held _ => 1
def uptoBulkAll {H : Type} : List (DataW H) → Nat
  | [] => 0
  | d :: r => uptoBulk d + uptoBulkAll r
def uptoBulkEntries {H : Type} : List (Lit × DataW H) → Nat
  | [] => 0
  | x :: r => uptoBulkEntry x + uptoBulkEntries r
def uptoBulkEntry {H : Type} : Lit × DataW H → Nat
  | (.string bytes, d) => bytes.length + uptoBulk d + 1
  | (_, d) => uptoBulk d + 1
 end
def uptoSmall : (H : Type) → List (DataW H) → Bool := fun _ ds => decide (uptoBulkAll ds ≤ 1048576)
def OpenSpec.upto (s : _root_.Go.ChangeSpec) : _root_.Go.OpenSpec := { _root_.Go.OpenSpec.ofChange s with cond := some uptoSmall }

/-- 'laws.FnExactValidAccesses', WHERE WHAT IT READS IS OF BULK AT MOST 1048576: true; the input reads as it did. -/
def fnExactValidAccessesUptoRow : OpenClaim := { program := "ytooigcfdkmgjnaa", sum := "e30ced50ed7003bb1bbc214ad41c9a81039211cf004a53d9475123d354b0b490", func := "loop.example/witnessorders/laws.FnExactValidAccesses", spec := "fnExactValidAccesses", apart := false, narrowed := true }
def FnExactValidAccessesUptoSaid : Prop := fnExactValidAccessesUptoRow.holds Try.pinned (OpenSpec.upto fnExactValidAccessesSpec)

/-- 'laws.FnValidAccesses', WHERE WHAT IT READS IS OF BULK AT MOST 1048576: true; the input reads as it did. -/
def fnValidAccessesUptoRow : OpenClaim := { program := "ytooigcfdkmgjnaa", sum := "e30ced50ed7003bb1bbc214ad41c9a81039211cf004a53d9475123d354b0b490", func := "loop.example/witnessorders/laws.FnValidAccesses", spec := "fnValidAccesses", apart := false, narrowed := true }
def FnValidAccessesUptoSaid : Prop := fnValidAccessesUptoRow.holds Try.pinned (OpenSpec.upto fnValidAccessesSpec)

/-- 'laws.FnExactIsCausal', WHERE WHAT IT READS IS OF BULK AT MOST 1048576: true; the input reads as it did. -/
def fnExactIsCausalUptoRow : OpenClaim := { program := "ytooigcfdkmgjnaa", sum := "e30ced50ed7003bb1bbc214ad41c9a81039211cf004a53d9475123d354b0b490", func := "loop.example/witnessorders/laws.FnExactIsCausal", spec := "fnExactIsCausal", apart := false, narrowed := true }
def FnExactIsCausalUptoSaid : Prop := fnExactIsCausalUptoRow.holds Try.pinned (OpenSpec.upto fnExactIsCausalSpec)

/-- 'laws.FnExactCausesOf', WHERE WHAT IT READS IS OF BULK AT MOST 1048576: true; the input reads as it did. -/
def fnExactCausesOfUptoRow : OpenClaim := { program := "ytooigcfdkmgjnaa", sum := "e30ced50ed7003bb1bbc214ad41c9a81039211cf004a53d9475123d354b0b490", func := "loop.example/witnessorders/laws.FnExactCausesOf", spec := "fnExactCausesOf", apart := false, narrowed := true }
def FnExactCausesOfUptoSaid : Prop := fnExactCausesOfUptoRow.holds Try.pinned (OpenSpec.upto fnExactCausesOfSpec)

/-- 'laws.FnCausesOf', WHERE WHAT IT READS IS OF BULK AT MOST 1048576: true; the input reads as it did. -/
def fnCausesOfUptoRow : OpenClaim := { program := "ytooigcfdkmgjnaa", sum := "e30ced50ed7003bb1bbc214ad41c9a81039211cf004a53d9475123d354b0b490", func := "loop.example/witnessorders/laws.FnCausesOf", spec := "fnCausesOf", apart := false, narrowed := true }
def FnCausesOfUptoSaid : Prop := fnCausesOfUptoRow.holds Try.pinned (OpenSpec.upto fnCausesOfSpec)

/-- 'laws.FnExactBrokenAt', WHERE WHAT IT READS IS OF BULK AT MOST 1048576: true; the input reads as it did. -/
def fnExactBrokenAtUptoRow : OpenClaim := { program := "ytooigcfdkmgjnaa", sum := "e30ced50ed7003bb1bbc214ad41c9a81039211cf004a53d9475123d354b0b490", func := "loop.example/witnessorders/laws.FnExactBrokenAt", spec := "fnExactBrokenAt", apart := false, narrowed := true }
def FnExactBrokenAtUptoSaid : Prop := fnExactBrokenAtUptoRow.holds Try.pinned (OpenSpec.upto fnExactBrokenAtSpec)

/-- 'laws.FnBrokenAt', WHERE WHAT IT READS IS OF BULK AT MOST 1048576: true; the input reads as it did. -/
def fnBrokenAtUptoRow : OpenClaim := { program := "ytooigcfdkmgjnaa", sum := "e30ced50ed7003bb1bbc214ad41c9a81039211cf004a53d9475123d354b0b490", func := "loop.example/witnessorders/laws.FnBrokenAt", spec := "fnBrokenAt", apart := false, narrowed := true }
def FnBrokenAtUptoSaid : Prop := fnBrokenAtUptoRow.holds Try.pinned (OpenSpec.upto fnBrokenAtSpec)

/-- 'laws.FnExactMendReads', WHERE WHAT IT READS IS OF BULK AT MOST 1048576: true; the input reads as it did. -/
def fnExactMendReadsUptoRow : OpenClaim := { program := "ytooigcfdkmgjnaa", sum := "e30ced50ed7003bb1bbc214ad41c9a81039211cf004a53d9475123d354b0b490", func := "loop.example/witnessorders/laws.FnExactMendReads", spec := "fnExactMendReads", apart := false, narrowed := true }
def FnExactMendReadsUptoSaid : Prop := fnExactMendReadsUptoRow.holds Try.pinned (OpenSpec.upto fnExactMendReadsSpec)

/-- 'laws.FnMendReads', WHERE WHAT IT READS IS OF BULK AT MOST 1048576: true; the input reads as it did. -/
def fnMendReadsUptoRow : OpenClaim := { program := "ytooigcfdkmgjnaa", sum := "e30ced50ed7003bb1bbc214ad41c9a81039211cf004a53d9475123d354b0b490", func := "loop.example/witnessorders/laws.FnMendReads", spec := "fnMendReads", apart := false, narrowed := true }
def FnMendReadsUptoSaid : Prop := fnMendReadsUptoRow.holds Try.pinned (OpenSpec.upto fnMendReadsSpec)

/-- 'laws.FnIsCausal', WHERE WHAT IT READS IS OF BULK AT MOST 1048576: true; the input reads as it did. -/
def fnIsCausalUptoRow : OpenClaim := { program := "ytooigcfdkmgjnaa", sum := "e30ced50ed7003bb1bbc214ad41c9a81039211cf004a53d9475123d354b0b490", func := "loop.example/witnessorders/laws.FnIsCausal", spec := "fnIsCausal", apart := false, narrowed := true }
def FnIsCausalUptoSaid : Prop := fnIsCausalUptoRow.holds Try.pinned (OpenSpec.upto fnIsCausalSpec)

end Rows
end Go.Proofs.Ytooigcfdkmgjnaa
