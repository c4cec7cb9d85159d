/-
  No cell of these rows narrows 'for every input' (looked for: loops, veiled, ifaces, maps, wideKeys, modest, calm, conditions, laid).
  DERIVED. THE GIVEN ROWS OF THIS SEAT. 3 by the template 'for every input the law returns true; each argument reads behind the call as it read before'; 0 by the template 'total and deterministic' (their statements: YtkahhcpfkebgiaaTotals.lean).
  GIVEN WITH THE SEED: the statements are not yours to turn. If you find one false, say at which input.
  Laid BY PROGRAM, IN A SANDBOX (cutbox-rows.mjs): the forced cells as the released guide's own fill.sh prints them over the translation 004f73b6dc8ea9a8… (all of the seat's roots in one cut). By AI agents, Wed Nov 11 2026. No macro, syntax, notation, axiom, sorry.
-/
import Derived.Test.YtkahhcpfkebgiaaChecked
import GoSem.Claim
import GoSem.ClaimJoined
import GoSem.ClaimMapViews
import Derived.JoinedTies
import Derived.KernelRfl
namespace Go.Proofs.Ytkahhcpfkebgiaa
/- THE CELL 'sum', in the pinned program and in every row, IS THE sha256 OF THE DUMP (.gsa) THAT YtkahhcpfkebgiaaProg.lean LOADS. Nothing in Lean hashes anything: it is a label: what it is worth is what the hold of that sum in a sandbox is worth. -/
noncomputable def Try.pinned : Pinned := { name := "ytkahhcpfkebgiaa", sum := "004f73b6dc8ea9a8515c61ca142114aab022b96fc07f3a9edce1d9d15bda2717", checked := Try.checked }
namespace Rows
def none {H : Type} : Left H := { results := [], args := [] }

/-- 'laws.FnExactNewCopy': WHATEVER THE INPUT: true; the input reads as it did. -/
def fnExactNewCopySpec : ChangeSpec := { name := "fnExactNewCopy", fn := fun _ => fun
  | [] => { results := [.lit (.bool true)], args := [] }
  | _ => none }
def fnExactNewCopyRow : OpenClaim := { program := "ytkahhcpfkebgiaa", sum := "004f73b6dc8ea9a8515c61ca142114aab022b96fc07f3a9edce1d9d15bda2717", func := "loop.example/witnessorders/laws.FnExactNewCopy", spec := "fnExactNewCopy", apart := false }
def FnExactNewCopySaid : Prop := fnExactNewCopyRow.holds Try.pinned (OpenSpec.ofChange fnExactNewCopySpec)

/-- ITS FALSE NEIGHBOUR: 'it returns false'. Refute it at one input. -/
def fnExactNewCopyWrong : ChangeSpec := { name := "fnExactNewCopy", fn := fun _ => fun
  | [] => { results := [.lit (.bool false)], args := [] }
  | _ => none }
def FnExactNewCopyWrongFalsely : Prop := fnExactNewCopyRow.holds Try.pinned (OpenSpec.ofChange fnExactNewCopyWrong)

/-- 'laws.FnExactValidCopy': WHATEVER THE INPUT: true; the input reads as it did. -/
def fnExactValidCopySpec : ChangeSpec := { name := "fnExactValidCopy", fn := fun _ => fun
  | [d] => { results := [.lit (.bool true)], args := [d] }
  | _ => none }
def fnExactValidCopyRow : OpenClaim := { program := "ytkahhcpfkebgiaa", sum := "004f73b6dc8ea9a8515c61ca142114aab022b96fc07f3a9edce1d9d15bda2717", func := "loop.example/witnessorders/laws.FnExactValidCopy", spec := "fnExactValidCopy", unfollowed := true, recurses := true, apart := false }
def FnExactValidCopySaid : Prop := fnExactValidCopyRow.holds Try.pinned (OpenSpec.ofChange fnExactValidCopySpec)

/-- ITS FALSE NEIGHBOUR: 'it returns false'. Refute it at one input. -/
def fnExactValidCopyWrong : ChangeSpec := { name := "fnExactValidCopy", fn := fun _ => fun
  | [d] => { results := [.lit (.bool false)], args := [d] }
  | _ => none }
def FnExactValidCopyWrongFalsely : Prop := fnExactValidCopyRow.holds Try.pinned (OpenSpec.ofChange fnExactValidCopyWrong)

/-- 'laws.FnExactTotalOf': WHATEVER THE INPUT: true; the input reads as it did. -/
def fnExactTotalOfSpec : ChangeSpec := { name := "fnExactTotalOf", fn := fun _ => fun
  | [d] => { results := [.lit (.bool true)], args := [d] }
  | _ => none }
def fnExactTotalOfRow : OpenClaim := { program := "ytkahhcpfkebgiaa", sum := "004f73b6dc8ea9a8515c61ca142114aab022b96fc07f3a9edce1d9d15bda2717", func := "loop.example/witnessorders/laws.FnExactTotalOf", spec := "fnExactTotalOf", unfollowed := true, recurses := true, apart := false }
def FnExactTotalOfSaid : Prop := fnExactTotalOfRow.holds Try.pinned (OpenSpec.ofChange fnExactTotalOfSpec)

/-- ITS FALSE NEIGHBOUR: 'it returns false'. Refute it at one input. -/
def fnExactTotalOfWrong : ChangeSpec := { name := "fnExactTotalOf", fn := fun _ => fun
  | [d] => { results := [.lit (.bool false)], args := [d] }
  | _ => none }
def FnExactTotalOfWrongFalsely : Prop := fnExactTotalOfRow.holds Try.pinned (OpenSpec.ofChange fnExactTotalOfWrong)

/- THE SECOND FORM. 'bulk': how many values and letters a reading holds, each counted each time it is reached (what is shared counts as often as it is met; a slice's spare places count too). A statement '..UptoSaid' is the law's where the arguments, and the package variables that the reading takes, are together of bulk at most 1048576: NARROWER than '..Said'. Prove '..Said' where nothing that the law and all that it calls make is longer than what came in: it says more and counts as full. Else prove '..UptoSaid'. A law counts once. -/
mutual
def uptoBulk {H : Type} : DataW H → Nat
  | .lit (.string bytes) => bytes.length + 1
  | .lit _ => 1
  | .nil => 1
  | .ptr d => uptoBulk d + 1
  | .slice elems spare => uptoBulkAll elems + uptoBulkAll spare + 1
  | .agg parts => uptoBulkAll parts + 1
  | .iface _ d => uptoBulk d + 1
  | .map entries => uptoBulkEntries entries + 1
  | .held _ => 1
def uptoBulkAll {H : Type} : List (DataW H) → Nat
  | [] => 0
  | d :: r => uptoBulk d + uptoBulkAll r
def uptoBulkEntries {H : Type} : List (Lit × DataW H) → Nat
  | [] => 0
  | x :: r => uptoBulkEntry x + uptoBulkEntries r
def uptoBulkEntry {H : Type} : Lit × DataW H → Nat
  | (.string bytes, d) => bytes.length + uptoBulk d + 1
  | (_, d) => uptoBulk d + 1
 end
def uptoSmall : (H : Type) → List (DataW H) → Bool := fun _ ds => decide (uptoBulkAll ds ≤ 1048576)
def OpenSpec.upto (s : _root_.Go.ChangeSpec) : _root_.Go.OpenSpec := { _root_.Go.OpenSpec.ofChange s with cond := some uptoSmall }

/-- 'laws.FnExactNewCopy', WHERE WHAT IT READS IS OF BULK AT MOST 1048576: true; the input reads as it did. -/
def fnExactNewCopyUptoRow : OpenClaim := { program := "ytkahhcpfkebgiaa", sum := "004f73b6dc8ea9a8515c61ca142114aab022b96fc07f3a9edce1d9d15bda2717", func := "loop.example/witnessorders/laws.FnExactNewCopy", spec := "fnExactNewCopy", apart := false, narrowed := true }
def FnExactNewCopyUptoSaid : Prop := fnExactNewCopyUptoRow.holds Try.pinned (OpenSpec.upto fnExactNewCopySpec)

/-- 'laws.FnExactValidCopy', WHERE WHAT IT READS IS OF BULK AT MOST 1048576: true; the input reads as it did. -/
def fnExactValidCopyUptoRow : OpenClaim := { program := "ytkahhcpfkebgiaa", sum := "004f73b6dc8ea9a8515c61ca142114aab022b96fc07f3a9edce1d9d15bda2717", func := "loop.example/witnessorders/laws.FnExactValidCopy", spec := "fnExactValidCopy", unfollowed := true, recurses := true, apart := false, narrowed := true }
def FnExactValidCopyUptoSaid : Prop := fnExactValidCopyUptoRow.holds Try.pinned (OpenSpec.upto fnExactValidCopySpec)

/-- 'laws.FnExactTotalOf', WHERE WHAT IT READS IS OF BULK AT MOST 1048576: true; the input reads as it did. -/
def fnExactTotalOfUptoRow : OpenClaim := { program := "ytkahhcpfkebgiaa", sum := "004f73b6dc8ea9a8515c61ca142114aab022b96fc07f3a9edce1d9d15bda2717", func := "loop.example/witnessorders/laws.FnExactTotalOf", spec := "fnExactTotalOf", unfollowed := true, recurses := true, apart := false, narrowed := true }
def FnExactTotalOfUptoSaid : Prop := fnExactTotalOfUptoRow.holds Try.pinned (OpenSpec.upto fnExactTotalOfSpec)

end Rows
end Go.Proofs.Ytkahhcpfkebgiaa
