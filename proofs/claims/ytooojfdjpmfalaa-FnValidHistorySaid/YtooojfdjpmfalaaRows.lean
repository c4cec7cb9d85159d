/-
  No cell of these rows narrows 'for every input' (looked for: loops, veiled, ifaces, maps, wideKeys, modest, calm, conditions, laid).
  DERIVED. THE GIVEN ROWS OF THIS SEAT. 12 by the template 'for every input the law returns true; each argument reads behind the call as it read before'; 0 by the template 'total and deterministic' (their statements: YtooojfdjpmfalaaTotals.lean).
  GIVEN WITH THE SEED: the statements are not yours to turn. If you find one false, say at which input.
  Laid BY PROGRAM, IN A SANDBOX (cutbox-rows.mjs): the forced cells as the released guide's own fill.sh prints them over the translation 3d24d9395315a9dc… (all of the seat's roots in one cut). By AI agents, Wed Nov 11 2026. No macro, syntax, notation, axiom, sorry.
-/
import Derived.Test.YtooojfdjpmfalaaChecked
import GoSem.Claim
import GoSem.ClaimJoined
import GoSem.ClaimMapViews
import Derived.JoinedTies
import Derived.KernelRfl
namespace Go.Proofs.Ytooojfdjpmfalaa
/- THE CELL 'sum', in the pinned program and in every row, IS THE sha256 OF THE DUMP (.gsa) THAT YtooojfdjpmfalaaProg.lean LOADS. Nothing in Lean hashes anything: it is a label: what it is worth is what the hold of that sum in a sandbox is worth. -/
noncomputable def Try.pinned : Pinned := { name := "ytooojfdjpmfalaa", sum := "3d24d9395315a9dcccdcb019445606e812e9d76728d0b3b51c6c2253ecf3a8c0", checked := Try.checked }
namespace Rows
def none {H : Type} : Left H := { results := [], args := [] }

/-- 'laws.FnExactConstants': WHATEVER THE INPUT: true; the input reads as it did. -/
def fnExactConstantsSpec : ChangeSpec := { name := "fnExactConstants", fn := fun _ => fun
  | [] => { results := [.lit (.bool true)], args := [] }
  | _ => none }
def fnExactConstantsRow : OpenClaim := { program := "ytooojfdjpmfalaa", sum := "3d24d9395315a9dcccdcb019445606e812e9d76728d0b3b51c6c2253ecf3a8c0", func := "loop.example/witnessorders/laws.FnExactConstants", spec := "fnExactConstants", apart := false }
def FnExactConstantsSaid : Prop := fnExactConstantsRow.holds Try.pinned (OpenSpec.ofChange fnExactConstantsSpec)

/-- ITS FALSE NEIGHBOUR: 'it returns false'. Refute it at one input. -/
def fnExactConstantsWrong : ChangeSpec := { name := "fnExactConstants", fn := fun _ => fun
  | [] => { results := [.lit (.bool false)], args := [] }
  | _ => none }
def FnExactConstantsWrongFalsely : Prop := fnExactConstantsRow.holds Try.pinned (OpenSpec.ofChange fnExactConstantsWrong)

/-- 'laws.FnExactIsBefore': WHATEVER THE INPUT: true; the input reads as it did. -/
def fnExactIsBeforeSpec : ChangeSpec := { name := "fnExactIsBefore", fn := fun _ => fun
  | [d1, d2] => { results := [.lit (.bool true)], args := [d1, d2] }
  | _ => none }
def fnExactIsBeforeRow : OpenClaim := { program := "ytooojfdjpmfalaa", sum := "3d24d9395315a9dcccdcb019445606e812e9d76728d0b3b51c6c2253ecf3a8c0", func := "loop.example/witnessorders/laws.FnExactIsBefore", spec := "fnExactIsBefore", apart := false }
def FnExactIsBeforeSaid : Prop := fnExactIsBeforeRow.holds Try.pinned (OpenSpec.ofChange fnExactIsBeforeSpec)

/-- ITS FALSE NEIGHBOUR: 'it returns false'. Refute it at one input. -/
def fnExactIsBeforeWrong : ChangeSpec := { name := "fnExactIsBefore", fn := fun _ => fun
  | [d1, d2] => { results := [.lit (.bool false)], args := [d1, d2] }
  | _ => none }
def FnExactIsBeforeWrongFalsely : Prop := fnExactIsBeforeRow.holds Try.pinned (OpenSpec.ofChange fnExactIsBeforeWrong)

/-- 'laws.FnExactDoOverlap': WHATEVER THE INPUT: true; the input reads as it did. -/
def fnExactDoOverlapSpec : ChangeSpec := { name := "fnExactDoOverlap", fn := fun _ => fun
  | [d1, d2] => { results := [.lit (.bool true)], args := [d1, d2] }
  | _ => none }
def fnExactDoOverlapRow : OpenClaim := { program := "ytooojfdjpmfalaa", sum := "3d24d9395315a9dcccdcb019445606e812e9d76728d0b3b51c6c2253ecf3a8c0", func := "loop.example/witnessorders/laws.FnExactDoOverlap", spec := "fnExactDoOverlap", apart := false }
def FnExactDoOverlapSaid : Prop := fnExactDoOverlapRow.holds Try.pinned (OpenSpec.ofChange fnExactDoOverlapSpec)

/-- ITS FALSE NEIGHBOUR: 'it returns false'. Refute it at one input. -/
def fnExactDoOverlapWrong : ChangeSpec := { name := "fnExactDoOverlap", fn := fun _ => fun
  | [d1, d2] => { results := [.lit (.bool false)], args := [d1, d2] }
  | _ => none }
def FnExactDoOverlapWrongFalsely : Prop := fnExactDoOverlapRow.holds Try.pinned (OpenSpec.ofChange fnExactDoOverlapWrong)

/-- 'laws.FnIsBefore': WHATEVER THE INPUT: true; the input reads as it did. -/
def fnIsBeforeSpec : ChangeSpec := { name := "fnIsBefore", fn := fun _ => fun
  | [d] => { results := [.lit (.bool true)], args := [d] }
  | _ => none }
def fnIsBeforeRow : OpenClaim := { program := "ytooojfdjpmfalaa", sum := "3d24d9395315a9dcccdcb019445606e812e9d76728d0b3b51c6c2253ecf3a8c0", func := "loop.example/witnessorders/laws.FnIsBefore", spec := "fnIsBefore", apart := false }
def FnIsBeforeSaid : Prop := fnIsBeforeRow.holds Try.pinned (OpenSpec.ofChange fnIsBeforeSpec)

/-- ITS FALSE NEIGHBOUR: 'it returns false'. Refute it at one input. -/
def fnIsBeforeWrong : ChangeSpec := { name := "fnIsBefore", fn := fun _ => fun
  | [d] => { results := [.lit (.bool false)], args := [d] }
  | _ => none }
def FnIsBeforeWrongFalsely : Prop := fnIsBeforeRow.holds Try.pinned (OpenSpec.ofChange fnIsBeforeWrong)

/-- 'laws.FnDoOverlap': WHATEVER THE INPUT: true; the input reads as it did. -/
def fnDoOverlapSpec : ChangeSpec := { name := "fnDoOverlap", fn := fun _ => fun
  | [d] => { results := [.lit (.bool true)], args := [d] }
  | _ => none }
def fnDoOverlapRow : OpenClaim := { program := "ytooojfdjpmfalaa", sum := "3d24d9395315a9dcccdcb019445606e812e9d76728d0b3b51c6c2253ecf3a8c0", func := "loop.example/witnessorders/laws.FnDoOverlap", spec := "fnDoOverlap", apart := false }
def FnDoOverlapSaid : Prop := fnDoOverlapRow.holds Try.pinned (OpenSpec.ofChange fnDoOverlapSpec)

/-- ITS FALSE NEIGHBOUR: 'it returns false'. Refute it at one input. -/
def fnDoOverlapWrong : ChangeSpec := { name := "fnDoOverlap", fn := fun _ => fun
  | [d] => { results := [.lit (.bool false)], args := [d] }
  | _ => none }
def FnDoOverlapWrongFalsely : Prop := fnDoOverlapRow.holds Try.pinned (OpenSpec.ofChange fnDoOverlapWrong)

/-- 'laws.FnExactValidHistory': WHATEVER THE INPUT: true; the input reads as it did. -/
def fnExactValidHistorySpec : ChangeSpec := { name := "fnExactValidHistory", fn := fun _ => fun
  | [d] => { results := [.lit (.bool true)], args := [d] }
  | _ => none }
def fnExactValidHistoryRow : OpenClaim := { program := "ytooojfdjpmfalaa", sum := "3d24d9395315a9dcccdcb019445606e812e9d76728d0b3b51c6c2253ecf3a8c0", func := "loop.example/witnessorders/laws.FnExactValidHistory", spec := "fnExactValidHistory", apart := false }
def FnExactValidHistorySaid : Prop := fnExactValidHistoryRow.holds Try.pinned (OpenSpec.ofChange fnExactValidHistorySpec)

/-- ITS FALSE NEIGHBOUR: 'it returns false'. Refute it at one input. -/
def fnExactValidHistoryWrong : ChangeSpec := { name := "fnExactValidHistory", fn := fun _ => fun
  | [d] => { results := [.lit (.bool false)], args := [d] }
  | _ => none }
def FnExactValidHistoryWrongFalsely : Prop := fnExactValidHistoryRow.holds Try.pinned (OpenSpec.ofChange fnExactValidHistoryWrong)

/-- 'laws.FnExactIsOneByOne': WHATEVER THE INPUT: true; the input reads as it did. -/
def fnExactIsOneByOneSpec : ChangeSpec := { name := "fnExactIsOneByOne", fn := fun _ => fun
  | [d] => { results := [.lit (.bool true)], args := [d] }
  | _ => none }
def fnExactIsOneByOneRow : OpenClaim := { program := "ytooojfdjpmfalaa", sum := "3d24d9395315a9dcccdcb019445606e812e9d76728d0b3b51c6c2253ecf3a8c0", func := "loop.example/witnessorders/laws.FnExactIsOneByOne", spec := "fnExactIsOneByOne", apart := false }
def FnExactIsOneByOneSaid : Prop := fnExactIsOneByOneRow.holds Try.pinned (OpenSpec.ofChange fnExactIsOneByOneSpec)

/-- ITS FALSE NEIGHBOUR: 'it returns false'. Refute it at one input. -/
def fnExactIsOneByOneWrong : ChangeSpec := { name := "fnExactIsOneByOne", fn := fun _ => fun
  | [d] => { results := [.lit (.bool false)], args := [d] }
  | _ => none }
def FnExactIsOneByOneWrongFalsely : Prop := fnExactIsOneByOneRow.holds Try.pinned (OpenSpec.ofChange fnExactIsOneByOneWrong)

/-- 'laws.FnIsOneByOne': WHATEVER THE INPUT: true; the input reads as it did. -/
def fnIsOneByOneSpec : ChangeSpec := { name := "fnIsOneByOne", fn := fun _ => fun
  | [d] => { results := [.lit (.bool true)], args := [d] }
  | _ => none }
def fnIsOneByOneRow : OpenClaim := { program := "ytooojfdjpmfalaa", sum := "3d24d9395315a9dcccdcb019445606e812e9d76728d0b3b51c6c2253ecf3a8c0", func := "loop.example/witnessorders/laws.FnIsOneByOne", spec := "fnIsOneByOne", apart := false }
def FnIsOneByOneSaid : Prop := fnIsOneByOneRow.holds Try.pinned (OpenSpec.ofChange fnIsOneByOneSpec)

/-- ITS FALSE NEIGHBOUR: 'it returns false'. Refute it at one input. -/
def fnIsOneByOneWrong : ChangeSpec := { name := "fnIsOneByOne", fn := fun _ => fun
  | [d] => { results := [.lit (.bool false)], args := [d] }
  | _ => none }
def FnIsOneByOneWrongFalsely : Prop := fnIsOneByOneRow.holds Try.pinned (OpenSpec.ofChange fnIsOneByOneWrong)

/-- 'laws.FnExactWidthOf': WHATEVER THE INPUT: true; the input reads as it did. -/
def fnExactWidthOfSpec : ChangeSpec := { name := "fnExactWidthOf", fn := fun _ => fun
  | [d] => { results := [.lit (.bool true)], args := [d] }
  | _ => none }
def fnExactWidthOfRow : OpenClaim := { program := "ytooojfdjpmfalaa", sum := "3d24d9395315a9dcccdcb019445606e812e9d76728d0b3b51c6c2253ecf3a8c0", func := "loop.example/witnessorders/laws.FnExactWidthOf", spec := "fnExactWidthOf", apart := false }
def FnExactWidthOfSaid : Prop := fnExactWidthOfRow.holds Try.pinned (OpenSpec.ofChange fnExactWidthOfSpec)

/-- ITS FALSE NEIGHBOUR: 'it returns false'. Refute it at one input. -/
def fnExactWidthOfWrong : ChangeSpec := { name := "fnExactWidthOf", fn := fun _ => fun
  | [d] => { results := [.lit (.bool false)], args := [d] }
  | _ => none }
def FnExactWidthOfWrongFalsely : Prop := fnExactWidthOfRow.holds Try.pinned (OpenSpec.ofChange fnExactWidthOfWrong)

/-- 'laws.FnExactPartOf': WHATEVER THE INPUT: true; the input reads as it did. -/
def fnExactPartOfSpec : ChangeSpec := { name := "fnExactPartOf", fn := fun _ => fun
  | [d1, d2] => { results := [.lit (.bool true)], args := [d1, d2] }
  | _ => none }
def fnExactPartOfRow : OpenClaim := { program := "ytooojfdjpmfalaa", sum := "3d24d9395315a9dcccdcb019445606e812e9d76728d0b3b51c6c2253ecf3a8c0", func := "loop.example/witnessorders/laws.FnExactPartOf", spec := "fnExactPartOf", apart := false }
def FnExactPartOfSaid : Prop := fnExactPartOfRow.holds Try.pinned (OpenSpec.ofChange fnExactPartOfSpec)

/-- ITS FALSE NEIGHBOUR: 'it returns false'. Refute it at one input. -/
def fnExactPartOfWrong : ChangeSpec := { name := "fnExactPartOf", fn := fun _ => fun
  | [d1, d2] => { results := [.lit (.bool false)], args := [d1, d2] }
  | _ => none }
def FnExactPartOfWrongFalsely : Prop := fnExactPartOfRow.holds Try.pinned (OpenSpec.ofChange fnExactPartOfWrong)

/-- 'laws.FnPartOf': WHATEVER THE INPUT: true; the input reads as it did. -/
def fnPartOfSpec : ChangeSpec := { name := "fnPartOf", fn := fun _ => fun
  | [d] => { results := [.lit (.bool true)], args := [d] }
  | _ => none }
def fnPartOfRow : OpenClaim := { program := "ytooojfdjpmfalaa", sum := "3d24d9395315a9dcccdcb019445606e812e9d76728d0b3b51c6c2253ecf3a8c0", func := "loop.example/witnessorders/laws.FnPartOf", spec := "fnPartOf", apart := false }
def FnPartOfSaid : Prop := fnPartOfRow.holds Try.pinned (OpenSpec.ofChange fnPartOfSpec)

/-- ITS FALSE NEIGHBOUR: 'it returns false'. Refute it at one input. -/
def fnPartOfWrong : ChangeSpec := { name := "fnPartOf", fn := fun _ => fun
  | [d] => { results := [.lit (.bool false)], args := [d] }
  | _ => none }
def FnPartOfWrongFalsely : Prop := fnPartOfRow.holds Try.pinned (OpenSpec.ofChange fnPartOfWrong)

/-- 'laws.FnValidHistory': WHATEVER THE INPUT: true; the input reads as it did. -/
def fnValidHistorySpec : ChangeSpec := { name := "fnValidHistory", fn := fun _ => fun
  | [d] => { results := [.lit (.bool true)], args := [d] }
  | _ => none }
def fnValidHistoryRow : OpenClaim := { program := "ytooojfdjpmfalaa", sum := "3d24d9395315a9dcccdcb019445606e812e9d76728d0b3b51c6c2253ecf3a8c0", func := "loop.example/witnessorders/laws.FnValidHistory", spec := "fnValidHistory", apart := false }
def FnValidHistorySaid : Prop := fnValidHistoryRow.holds Try.pinned (OpenSpec.ofChange fnValidHistorySpec)

/-- ITS FALSE NEIGHBOUR: 'it returns false'. Refute it at one input. -/
def fnValidHistoryWrong : ChangeSpec := { name := "fnValidHistory", fn := fun _ => fun
  | [d] => { results := [.lit (.bool false)], args := [d] }
  | _ => none }
def FnValidHistoryWrongFalsely : Prop := fnValidHistoryRow.holds Try.pinned (OpenSpec.ofChange fnValidHistoryWrong)

/- THE SECOND FORM. 'bulk': how many values and letters a reading holds, each counted each time it is reached (what is shared counts as often as it is met; a slice's spare places count too). A statement '..UptoSaid' is the law's where the arguments, and the package variables that the reading takes, are together of bulk at most 1048576: NARROWER than '..Said'. Prove '..Said' where nothing that the law and all that it calls make is longer than what came in: it says more and counts as full. Else prove '..UptoSaid'. A law counts once. -/
mutual
def uptoBulk {H : Type} : DataW H → Nat
  | .lit (.string bytes) => bytes.length + 1
  | .lit _ => 1
  | .nil => 1
  | .ptr d => uptoBulk d + 1
  | .slice elems spare => uptoBulkAll elems + uptoBulkAll spare + 1
  | .agg parts => uptoBulkAll parts + 1
  | .iface _ d => uptoBulk d + 1
  | .map entries => uptoBulkEntries entries + 1
  | .held _ => 1
def uptoBulkAll {H : Type} : List (DataW H) → Nat
  | [] => 0
  | d :: r => uptoBulk d + uptoBulkAll r
def uptoBulkEntries {H : Type} : List (Lit × DataW H) → Nat
  | [] => 0
  | x :: r => uptoBulkEntry x + uptoBulkEntries r
def uptoBulkEntry {H : Type} : Lit × DataW H → Nat
  | (.string bytes, d) => bytes.length + uptoBulk d + 1
  | (_, d) => uptoBulk d + 1
 end
def uptoSmall : (H : Type) → List (DataW H) → Bool := fun _ ds => decide (uptoBulkAll ds ≤ 1048576)
def OpenSpec.upto (s : _root_.Go.ChangeSpec) : _root_.Go.OpenSpec := { _root_.Go.OpenSpec.ofChange s with cond := some uptoSmall }

/-- 'laws.FnExactConstants', WHERE WHAT IT READS IS OF BULK AT MOST 1048576: true; the input reads as it did. -/
def fnExactConstantsUptoRow : OpenClaim := { program := "ytooojfdjpmfalaa", sum := "3d24d9395315a9dcccdcb019445606e812e9d76728d0b3b51c6c2253ecf3a8c0", func := "loop.example/witnessorders/laws.FnExactConstants", spec := "fnExactConstants", apart := false, narrowed := true }
def FnExactConstantsUptoSaid : Prop := fnExactConstantsUptoRow.holds Try.pinned (OpenSpec.upto fnExactConstantsSpec)

/-- 'laws.FnExactIsBefore', WHERE WHAT IT READS IS OF BULK AT MOST 1048576: true; the input reads as it did. -/
def fnExactIsBeforeUptoRow : OpenClaim := { program := "ytooojfdjpmfalaa", sum := "3d24d9395315a9dcccdcb019445606e812e9d76728d0b3b51c6c2253ecf3a8c0", func := "loop.example/witnessorders/laws.FnExactIsBefore", spec := "fnExactIsBefore", apart := false, narrowed := true }
def FnExactIsBeforeUptoSaid : Prop := fnExactIsBeforeUptoRow.holds Try.pinned (OpenSpec.upto fnExactIsBeforeSpec)

/-- 'laws.FnExactDoOverlap', WHERE WHAT IT READS IS OF BULK AT MOST 1048576: true; the input reads as it did. -/
def fnExactDoOverlapUptoRow : OpenClaim := { program := "ytooojfdjpmfalaa", sum := "3d24d9395315a9dcccdcb019445606e812e9d76728d0b3b51c6c2253ecf3a8c0", func := "loop.example/witnessorders/laws.FnExactDoOverlap", spec := "fnExactDoOverlap", apart := false, narrowed := true }
def FnExactDoOverlapUptoSaid : Prop := fnExactDoOverlapUptoRow.holds Try.pinned (OpenSpec.upto fnExactDoOverlapSpec)

/-- 'laws.FnIsBefore', WHERE WHAT IT READS IS OF BULK AT MOST 1048576: true; the input reads as it did. -/
def fnIsBeforeUptoRow : OpenClaim := { program := "ytooojfdjpmfalaa", sum := "3d24d9395315a9dcccdcb019445606e812e9d76728d0b3b51c6c2253ecf3a8c0", func := "loop.example/witnessorders/laws.FnIsBefore", spec := "fnIsBefore", apart := false, narrowed := true }
def FnIsBeforeUptoSaid : Prop := fnIsBeforeUptoRow.holds Try.pinned (OpenSpec.upto fnIsBeforeSpec)

/-- 'laws.FnDoOverlap', WHERE WHAT IT READS IS OF BULK AT MOST 1048576: true; the input reads as it did. -/
def fnDoOverlapUptoRow : OpenClaim := { program := "ytooojfdjpmfalaa", sum := "3d24d9395315a9dcccdcb019445606e812e9d76728d0b3b51c6c2253ecf3a8c0", func := "loop.example/witnessorders/laws.FnDoOverlap", spec := "fnDoOverlap", apart := false, narrowed := true }
def FnDoOverlapUptoSaid : Prop := fnDoOverlapUptoRow.holds Try.pinned (OpenSpec.upto fnDoOverlapSpec)

/-- 'laws.FnExactValidHistory', WHERE WHAT IT READS IS OF BULK AT MOST 1048576: true; the input reads as it did. -/
def fnExactValidHistoryUptoRow : OpenClaim := { program := "ytooojfdjpmfalaa", sum := "3d24d9395315a9dcccdcb019445606e812e9d76728d0b3b51c6c2253ecf3a8c0", func := "loop.example/witnessorders/laws.FnExactValidHistory", spec := "fnExactValidHistory", apart := false, narrowed := true }
def FnExactValidHistoryUptoSaid : Prop := fnExactValidHistoryUptoRow.holds Try.pinned (OpenSpec.upto fnExactValidHistorySpec)

/-- 'laws.FnExactIsOneByOne', WHERE WHAT IT READS IS OF BULK AT MOST 1048576: true; the input reads as it did. -/
def fnExactIsOneByOneUptoRow : OpenClaim := { program := "ytooojfdjpmfalaa", sum := "3d24d9395315a9dcccdcb019445606e812e9d76728d0b3b51c6c2253ecf3a8c0", func := "loop.example/witnessorders/laws.FnExactIsOneByOne", spec := "fnExactIsOneByOne", apart := false, narrowed := true }
def FnExactIsOneByOneUptoSaid : Prop := fnExactIsOneByOneUptoRow.holds Try.pinned (OpenSpec.upto fnExactIsOneByOneSpec)

/-- 'laws.FnIsOneByOne', WHERE WHAT IT READS IS OF BULK AT MOST 1048576: true; the input reads as it did. -/
def fnIsOneByOneUptoRow : OpenClaim := { program := "ytooojfdjpmfalaa", sum := "3d24d9395315a9dcccdcb019445606e812e9d76728d0b3b51c6c2253ecf3a8c0", func := "loop.example/witnessorders/laws.FnIsOneByOne", spec := "fnIsOneByOne", apart := false, narrowed := true }
def FnIsOneByOneUptoSaid : Prop := fnIsOneByOneUptoRow.holds Try.pinned (OpenSpec.upto fnIsOneByOneSpec)

/-- 'laws.FnExactWidthOf', WHERE WHAT IT READS IS OF BULK AT MOST 1048576: true; the input reads as it did. -/
def fnExactWidthOfUptoRow : OpenClaim := { program := "ytooojfdjpmfalaa", sum := "3d24d9395315a9dcccdcb019445606e812e9d76728d0b3b51c6c2253ecf3a8c0", func := "loop.example/witnessorders/laws.FnExactWidthOf", spec := "fnExactWidthOf", apart := false, narrowed := true }
def FnExactWidthOfUptoSaid : Prop := fnExactWidthOfUptoRow.holds Try.pinned (OpenSpec.upto fnExactWidthOfSpec)

/-- 'laws.FnExactPartOf', WHERE WHAT IT READS IS OF BULK AT MOST 1048576: true; the input reads as it did. -/
def fnExactPartOfUptoRow : OpenClaim := { program := "ytooojfdjpmfalaa", sum := "3d24d9395315a9dcccdcb019445606e812e9d76728d0b3b51c6c2253ecf3a8c0", func := "loop.example/witnessorders/laws.FnExactPartOf", spec := "fnExactPartOf", apart := false, narrowed := true }
def FnExactPartOfUptoSaid : Prop := fnExactPartOfUptoRow.holds Try.pinned (OpenSpec.upto fnExactPartOfSpec)

/-- 'laws.FnPartOf', WHERE WHAT IT READS IS OF BULK AT MOST 1048576: true; the input reads as it did. -/
def fnPartOfUptoRow : OpenClaim := { program := "ytooojfdjpmfalaa", sum := "3d24d9395315a9dcccdcb019445606e812e9d76728d0b3b51c6c2253ecf3a8c0", func := "loop.example/witnessorders/laws.FnPartOf", spec := "fnPartOf", apart := false, narrowed := true }
def FnPartOfUptoSaid : Prop := fnPartOfUptoRow.holds Try.pinned (OpenSpec.upto fnPartOfSpec)

/-- 'laws.FnValidHistory', WHERE WHAT IT READS IS OF BULK AT MOST 1048576: true; the input reads as it did. -/
def fnValidHistoryUptoRow : OpenClaim := { program := "ytooojfdjpmfalaa", sum := "3d24d9395315a9dcccdcb019445606e812e9d76728d0b3b51c6c2253ecf3a8c0", func := "loop.example/witnessorders/laws.FnValidHistory", spec := "fnValidHistory", apart := false, narrowed := true }
def FnValidHistoryUptoSaid : Prop := fnValidHistoryUptoRow.holds Try.pinned (OpenSpec.upto fnValidHistorySpec)

end Rows
end Go.Proofs.Ytooojfdjpmfalaa
