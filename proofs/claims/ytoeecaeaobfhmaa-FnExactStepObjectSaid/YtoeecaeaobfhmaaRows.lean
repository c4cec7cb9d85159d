/-
  No cell of these rows narrows 'for every input' (looked for: loops, veiled, ifaces, maps, wideKeys, modest, calm, conditions, laid).
  DERIVED. THE GIVEN ROWS OF THIS SEAT. 10 by the template 'for every input the law returns true; each argument reads behind the call as it read before'; 0 by the template 'total and deterministic' (their statements: YtoeecaeaobfhmaaTotals.lean).
  GIVEN WITH THE SEED: the statements are not yours to turn. If you find one false, say at which input.
  Laid BY PROGRAM, IN A SANDBOX (cutbox-rows.mjs): the forced cells as the released guide's own fill.sh prints them over the translation dcec1423d5b37e0e… (all of the seat's roots in one cut). By AI agents, Wed Nov 11 2026. No macro, syntax, notation, axiom, sorry.
-/
import Derived.Test.YtoeecaeaobfhmaaChecked
import GoSem.Claim
import GoSem.ClaimJoined
import GoSem.ClaimMapViews
import Derived.JoinedTies
import Derived.KernelRfl
namespace Go.Proofs.Ytoeecaeaobfhmaa
/- THE CELL 'sum', in the pinned program and in every row, IS THE sha256 OF THE DUMP (.gsa) THAT YtoeecaeaobfhmaaProg.lean LOADS. Nothing in Lean hashes anything: it is a label: what it is worth is what the hold of that sum in a sandbox is worth. -/
noncomputable def Try.pinned : Pinned := { name := "ytoeecaeaobfhmaa", sum := "dcec1423d5b37e0e0df12e7eef6e91c778bd65f050412133e367bbad9ca2912f", checked := Try.checked }
namespace Rows
def none {H : Type} : Left H := { results := [], args := [] }

/-- 'laws.FnExactLevelsOf': WHATEVER THE INPUT: true; the input reads as it did. -/
def fnExactLevelsOfSpec : ChangeSpec := { name := "fnExactLevelsOf", fn := fun _ => fun
  | [d] => { results := [.lit (.bool true)], args := [d] }
  | _ => none }
def fnExactLevelsOfRow : OpenClaim := { program := "ytoeecaeaobfhmaa", sum := "dcec1423d5b37e0e0df12e7eef6e91c778bd65f050412133e367bbad9ca2912f", func := "loop.example/witnessorders/laws.FnExactLevelsOf", spec := "fnExactLevelsOf", apart := false }
def FnExactLevelsOfSaid : Prop := fnExactLevelsOfRow.holds Try.pinned (OpenSpec.ofChange fnExactLevelsOfSpec)

/-- ITS FALSE NEIGHBOUR: 'it returns false'. Refute it at one input. -/
def fnExactLevelsOfWrong : ChangeSpec := { name := "fnExactLevelsOf", fn := fun _ => fun
  | [d] => { results := [.lit (.bool false)], args := [d] }
  | _ => none }
def FnExactLevelsOfWrongFalsely : Prop := fnExactLevelsOfRow.holds Try.pinned (OpenSpec.ofChange fnExactLevelsOfWrong)

/-- 'laws.FnExactAheadOf': WHATEVER THE INPUT: true; the input reads as it did. -/
def fnExactAheadOfSpec : ChangeSpec := { name := "fnExactAheadOf", fn := fun _ => fun
  | [d] => { results := [.lit (.bool true)], args := [d] }
  | _ => none }
def fnExactAheadOfRow : OpenClaim := { program := "ytoeecaeaobfhmaa", sum := "dcec1423d5b37e0e0df12e7eef6e91c778bd65f050412133e367bbad9ca2912f", func := "loop.example/witnessorders/laws.FnExactAheadOf", spec := "fnExactAheadOf", unfollowed := true, recurses := true, apart := false }
def FnExactAheadOfSaid : Prop := fnExactAheadOfRow.holds Try.pinned (OpenSpec.ofChange fnExactAheadOfSpec)

/-- ITS FALSE NEIGHBOUR: 'it returns false'. Refute it at one input. -/
def fnExactAheadOfWrong : ChangeSpec := { name := "fnExactAheadOf", fn := fun _ => fun
  | [d] => { results := [.lit (.bool false)], args := [d] }
  | _ => none }
def FnExactAheadOfWrongFalsely : Prop := fnExactAheadOfRow.holds Try.pinned (OpenSpec.ofChange fnExactAheadOfWrong)

/-- 'laws.FnExactOwnAhead': WHATEVER THE INPUT: true; the input reads as it did. -/
def fnExactOwnAheadSpec : ChangeSpec := { name := "fnExactOwnAhead", fn := fun _ => fun
  | [d] => { results := [.lit (.bool true)], args := [d] }
  | _ => none }
def fnExactOwnAheadRow : OpenClaim := { program := "ytoeecaeaobfhmaa", sum := "dcec1423d5b37e0e0df12e7eef6e91c778bd65f050412133e367bbad9ca2912f", func := "loop.example/witnessorders/laws.FnExactOwnAhead", spec := "fnExactOwnAhead", unfollowed := true, recurses := true, apart := false }
def FnExactOwnAheadSaid : Prop := fnExactOwnAheadRow.holds Try.pinned (OpenSpec.ofChange fnExactOwnAheadSpec)

/-- ITS FALSE NEIGHBOUR: 'it returns false'. Refute it at one input. -/
def fnExactOwnAheadWrong : ChangeSpec := { name := "fnExactOwnAhead", fn := fun _ => fun
  | [d] => { results := [.lit (.bool false)], args := [d] }
  | _ => none }
def FnExactOwnAheadWrongFalsely : Prop := fnExactOwnAheadRow.holds Try.pinned (OpenSpec.ofChange fnExactOwnAheadWrong)

/-- 'laws.FnExactQuietAhead': WHATEVER THE INPUT: true; the input reads as it did. -/
def fnExactQuietAheadSpec : ChangeSpec := { name := "fnExactQuietAhead", fn := fun _ => fun
  | [d] => { results := [.lit (.bool true)], args := [d] }
  | _ => none }
def fnExactQuietAheadRow : OpenClaim := { program := "ytoeecaeaobfhmaa", sum := "dcec1423d5b37e0e0df12e7eef6e91c778bd65f050412133e367bbad9ca2912f", func := "loop.example/witnessorders/laws.FnExactQuietAhead", spec := "fnExactQuietAhead", unfollowed := true, recurses := true, apart := false }
def FnExactQuietAheadSaid : Prop := fnExactQuietAheadRow.holds Try.pinned (OpenSpec.ofChange fnExactQuietAheadSpec)

/-- ITS FALSE NEIGHBOUR: 'it returns false'. Refute it at one input. -/
def fnExactQuietAheadWrong : ChangeSpec := { name := "fnExactQuietAhead", fn := fun _ => fun
  | [d] => { results := [.lit (.bool false)], args := [d] }
  | _ => none }
def FnExactQuietAheadWrongFalsely : Prop := fnExactQuietAheadRow.holds Try.pinned (OpenSpec.ofChange fnExactQuietAheadWrong)

/-- 'laws.FnExactPointsOf': WHATEVER THE INPUT: true; the input reads as it did. -/
def fnExactPointsOfSpec : ChangeSpec := { name := "fnExactPointsOf", fn := fun _ => fun
  | [d1, d2] => { results := [.lit (.bool true)], args := [d1, d2] }
  | _ => none }
def fnExactPointsOfRow : OpenClaim := { program := "ytoeecaeaobfhmaa", sum := "dcec1423d5b37e0e0df12e7eef6e91c778bd65f050412133e367bbad9ca2912f", func := "loop.example/witnessorders/laws.FnExactPointsOf", spec := "fnExactPointsOf", apart := false }
def FnExactPointsOfSaid : Prop := fnExactPointsOfRow.holds Try.pinned (OpenSpec.ofChange fnExactPointsOfSpec)

/-- ITS FALSE NEIGHBOUR: 'it returns false'. Refute it at one input. -/
def fnExactPointsOfWrong : ChangeSpec := { name := "fnExactPointsOf", fn := fun _ => fun
  | [d1, d2] => { results := [.lit (.bool false)], args := [d1, d2] }
  | _ => none }
def FnExactPointsOfWrongFalsely : Prop := fnExactPointsOfRow.holds Try.pinned (OpenSpec.ofChange fnExactPointsOfWrong)

/-- 'laws.FnExactIsOneWriter': WHATEVER THE INPUT: true; the input reads as it did. -/
def fnExactIsOneWriterSpec : ChangeSpec := { name := "fnExactIsOneWriter", fn := fun _ => fun
  | [d] => { results := [.lit (.bool true)], args := [d] }
  | _ => none }
def fnExactIsOneWriterRow : OpenClaim := { program := "ytoeecaeaobfhmaa", sum := "dcec1423d5b37e0e0df12e7eef6e91c778bd65f050412133e367bbad9ca2912f", func := "loop.example/witnessorders/laws.FnExactIsOneWriter", spec := "fnExactIsOneWriter", apart := false }
def FnExactIsOneWriterSaid : Prop := fnExactIsOneWriterRow.holds Try.pinned (OpenSpec.ofChange fnExactIsOneWriterSpec)

/-- ITS FALSE NEIGHBOUR: 'it returns false'. Refute it at one input. -/
def fnExactIsOneWriterWrong : ChangeSpec := { name := "fnExactIsOneWriter", fn := fun _ => fun
  | [d] => { results := [.lit (.bool false)], args := [d] }
  | _ => none }
def FnExactIsOneWriterWrongFalsely : Prop := fnExactIsOneWriterRow.holds Try.pinned (OpenSpec.ofChange fnExactIsOneWriterWrong)

/-- 'laws.FnExactTurnOf': WHATEVER THE INPUT: true; the input reads as it did. -/
def fnExactTurnOfSpec : ChangeSpec := { name := "fnExactTurnOf", fn := fun _ => fun
  | [d] => { results := [.lit (.bool true)], args := [d] }
  | _ => none }
def fnExactTurnOfRow : OpenClaim := { program := "ytoeecaeaobfhmaa", sum := "dcec1423d5b37e0e0df12e7eef6e91c778bd65f050412133e367bbad9ca2912f", func := "loop.example/witnessorders/laws.FnExactTurnOf", spec := "fnExactTurnOf", apart := false }
def FnExactTurnOfSaid : Prop := fnExactTurnOfRow.holds Try.pinned (OpenSpec.ofChange fnExactTurnOfSpec)

/-- ITS FALSE NEIGHBOUR: 'it returns false'. Refute it at one input. -/
def fnExactTurnOfWrong : ChangeSpec := { name := "fnExactTurnOf", fn := fun _ => fun
  | [d] => { results := [.lit (.bool false)], args := [d] }
  | _ => none }
def FnExactTurnOfWrongFalsely : Prop := fnExactTurnOfRow.holds Try.pinned (OpenSpec.ofChange fnExactTurnOfWrong)

/-- 'laws.FnExactSourcesOf': WHATEVER THE INPUT: true; the input reads as it did. -/
def fnExactSourcesOfSpec : ChangeSpec := { name := "fnExactSourcesOf", fn := fun _ => fun
  | [d] => { results := [.lit (.bool true)], args := [d] }
  | _ => none }
def fnExactSourcesOfRow : OpenClaim := { program := "ytoeecaeaobfhmaa", sum := "dcec1423d5b37e0e0df12e7eef6e91c778bd65f050412133e367bbad9ca2912f", func := "loop.example/witnessorders/laws.FnExactSourcesOf", spec := "fnExactSourcesOf", apart := false }
def FnExactSourcesOfSaid : Prop := fnExactSourcesOfRow.holds Try.pinned (OpenSpec.ofChange fnExactSourcesOfSpec)

/-- ITS FALSE NEIGHBOUR: 'it returns false'. Refute it at one input. -/
def fnExactSourcesOfWrong : ChangeSpec := { name := "fnExactSourcesOf", fn := fun _ => fun
  | [d] => { results := [.lit (.bool false)], args := [d] }
  | _ => none }
def FnExactSourcesOfWrongFalsely : Prop := fnExactSourcesOfRow.holds Try.pinned (OpenSpec.ofChange fnExactSourcesOfWrong)

/-- 'laws.FnExactKeepsRegister': WHATEVER THE INPUT: true; the input reads as it did. -/
def fnExactKeepsRegisterSpec : ChangeSpec := { name := "fnExactKeepsRegister", fn := fun _ => fun
  | [d1, d2] => { results := [.lit (.bool true)], args := [d1, d2] }
  | _ => none }
def fnExactKeepsRegisterRow : OpenClaim := { program := "ytoeecaeaobfhmaa", sum := "dcec1423d5b37e0e0df12e7eef6e91c778bd65f050412133e367bbad9ca2912f", func := "loop.example/witnessorders/laws.FnExactKeepsRegister", spec := "fnExactKeepsRegister", apart := false }
def FnExactKeepsRegisterSaid : Prop := fnExactKeepsRegisterRow.holds Try.pinned (OpenSpec.ofChange fnExactKeepsRegisterSpec)

/-- ITS FALSE NEIGHBOUR: 'it returns false'. Refute it at one input. -/
def fnExactKeepsRegisterWrong : ChangeSpec := { name := "fnExactKeepsRegister", fn := fun _ => fun
  | [d1, d2] => { results := [.lit (.bool false)], args := [d1, d2] }
  | _ => none }
def FnExactKeepsRegisterWrongFalsely : Prop := fnExactKeepsRegisterRow.holds Try.pinned (OpenSpec.ofChange fnExactKeepsRegisterWrong)

/-- 'laws.FnExactStepObject': WHATEVER THE INPUT: true; the input reads as it did. -/
def fnExactStepObjectSpec : ChangeSpec := { name := "fnExactStepObject", fn := fun _ => fun
  | [d1, d2, d3] => { results := [.lit (.bool true)], args := [d1, d2, d3] }
  | _ => none }
def fnExactStepObjectRow : OpenClaim := { program := "ytoeecaeaobfhmaa", sum := "dcec1423d5b37e0e0df12e7eef6e91c778bd65f050412133e367bbad9ca2912f", func := "loop.example/witnessorders/laws.FnExactStepObject", spec := "fnExactStepObject", apart := false }
def FnExactStepObjectSaid : Prop := fnExactStepObjectRow.holds Try.pinned (OpenSpec.ofChange fnExactStepObjectSpec)

/-- ITS FALSE NEIGHBOUR: 'it returns false'. Refute it at one input. -/
def fnExactStepObjectWrong : ChangeSpec := { name := "fnExactStepObject", fn := fun _ => fun
  | [d1, d2, d3] => { results := [.lit (.bool false)], args := [d1, d2, d3] }
  | _ => none }
def FnExactStepObjectWrongFalsely : Prop := fnExactStepObjectRow.holds Try.pinned (OpenSpec.ofChange fnExactStepObjectWrong)

/- THE SECOND FORM. 'bulk': how many values and letters a reading holds, each counted each time it is reached (what is shared counts as often as it is met; a slice's spare places count too). A statement '..UptoSaid' is the law's where the arguments, and the package variables that the reading takes, are together of bulk at most 1048576: NARROWER than '..Said'. Prove '..Said' where nothing that the law and all that it calls make is longer than what came in: it says more and counts as full. Else prove '..UptoSaid'. A law counts once. -/
mutual
def uptoBulk {H : Type} : DataW H → Nat
  | .lit (.string bytes) => bytes.length + 1
  | .lit _ => 1
  | .nil => 1
  | .ptr d => uptoBulk d + 1
  | .slice elems spare => uptoBulkAll elems + uptoBulkAll spare + 1
  | .agg parts => uptoBulkAll parts + 1
  | .iface _ d => uptoBulk d + 1
  | .map entries => uptoBulkEntries entries + 1
  | .held _ => 1
def uptoBulkAll {H : Type} : List (DataW H) → Nat
  | [] => 0
  | d :: r => uptoBulk d + uptoBulkAll r
def uptoBulkEntries {H : Type} : List (Lit × DataW H) → Nat
  | [] => 0
  | x :: r => uptoBulkEntry x + uptoBulkEntries r
def uptoBulkEntry {H : Type} : Lit × DataW H → Nat
  | (.string bytes, d) => bytes.length + uptoBulk d + 1
  | (_, d) => uptoBulk d + 1
 end
def uptoSmall : (H : Type) → List (DataW H) → Bool := fun _ ds => decide (uptoBulkAll ds ≤ 1048576)
def OpenSpec.upto (s : _root_.Go.ChangeSpec) : _root_.Go.OpenSpec := { _root_.Go.OpenSpec.ofChange s with cond := some uptoSmall }

/-- 'laws.FnExactLevelsOf', WHERE WHAT IT READS IS OF BULK AT MOST 1048576: true; the input reads as it did. -/
def fnExactLevelsOfUptoRow : OpenClaim := { program := "ytoeecaeaobfhmaa", sum := "dcec1423d5b37e0e0df12e7eef6e91c778bd65f050412133e367bbad9ca2912f", func := "loop.example/witnessorders/laws.FnExactLevelsOf", spec := "fnExactLevelsOf", apart := false, narrowed := true }
def FnExactLevelsOfUptoSaid : Prop := fnExactLevelsOfUptoRow.holds Try.pinned (OpenSpec.upto fnExactLevelsOfSpec)

/-- 'laws.FnExactAheadOf', WHERE WHAT IT READS IS OF BULK AT MOST 1048576: true; the input reads as it did. -/
def fnExactAheadOfUptoRow : OpenClaim := { program := "ytoeecaeaobfhmaa", sum := "dcec1423d5b37e0e0df12e7eef6e91c778bd65f050412133e367bbad9ca2912f", func := "loop.example/witnessorders/laws.FnExactAheadOf", spec := "fnExactAheadOf", unfollowed := true, recurses := true, apart := false, narrowed := true }
def FnExactAheadOfUptoSaid : Prop := fnExactAheadOfUptoRow.holds Try.pinned (OpenSpec.upto fnExactAheadOfSpec)

/-- 'laws.FnExactOwnAhead', WHERE WHAT IT READS IS OF BULK AT MOST 1048576: true; the input reads as it did. -/
def fnExactOwnAheadUptoRow : OpenClaim := { program := "ytoeecaeaobfhmaa", sum := "dcec1423d5b37e0e0df12e7eef6e91c778bd65f050412133e367bbad9ca2912f", func := "loop.example/witnessorders/laws.FnExactOwnAhead", spec := "fnExactOwnAhead", unfollowed := true, recurses := true, apart := false, narrowed := true }
def FnExactOwnAheadUptoSaid : Prop := fnExactOwnAheadUptoRow.holds Try.pinned (OpenSpec.upto fnExactOwnAheadSpec)

/-- 'laws.FnExactQuietAhead', WHERE WHAT IT READS IS OF BULK AT MOST 1048576: true; the input reads as it did. -/
def fnExactQuietAheadUptoRow : OpenClaim := { program := "ytoeecaeaobfhmaa", sum := "dcec1423d5b37e0e0df12e7eef6e91c778bd65f050412133e367bbad9ca2912f", func := "loop.example/witnessorders/laws.FnExactQuietAhead", spec := "fnExactQuietAhead", unfollowed := true, recurses := true, apart := false, narrowed := true }
def FnExactQuietAheadUptoSaid : Prop := fnExactQuietAheadUptoRow.holds Try.pinned (OpenSpec.upto fnExactQuietAheadSpec)

/-- 'laws.FnExactPointsOf', WHERE WHAT IT READS IS OF BULK AT MOST 1048576: true; the input reads as it did. -/
def fnExactPointsOfUptoRow : OpenClaim := { program := "ytoeecaeaobfhmaa", sum := "dcec1423d5b37e0e0df12e7eef6e91c778bd65f050412133e367bbad9ca2912f", func := "loop.example/witnessorders/laws.FnExactPointsOf", spec := "fnExactPointsOf", apart := false, narrowed := true }
def FnExactPointsOfUptoSaid : Prop := fnExactPointsOfUptoRow.holds Try.pinned (OpenSpec.upto fnExactPointsOfSpec)

/-- 'laws.FnExactIsOneWriter', WHERE WHAT IT READS IS OF BULK AT MOST 1048576: true; the input reads as it did. -/
def fnExactIsOneWriterUptoRow : OpenClaim := { program := "ytoeecaeaobfhmaa", sum := "dcec1423d5b37e0e0df12e7eef6e91c778bd65f050412133e367bbad9ca2912f", func := "loop.example/witnessorders/laws.FnExactIsOneWriter", spec := "fnExactIsOneWriter", apart := false, narrowed := true }
def FnExactIsOneWriterUptoSaid : Prop := fnExactIsOneWriterUptoRow.holds Try.pinned (OpenSpec.upto fnExactIsOneWriterSpec)

/-- 'laws.FnExactTurnOf', WHERE WHAT IT READS IS OF BULK AT MOST 1048576: true; the input reads as it did. -/
def fnExactTurnOfUptoRow : OpenClaim := { program := "ytoeecaeaobfhmaa", sum := "dcec1423d5b37e0e0df12e7eef6e91c778bd65f050412133e367bbad9ca2912f", func := "loop.example/witnessorders/laws.FnExactTurnOf", spec := "fnExactTurnOf", apart := false, narrowed := true }
def FnExactTurnOfUptoSaid : Prop := fnExactTurnOfUptoRow.holds Try.pinned (OpenSpec.upto fnExactTurnOfSpec)

/-- 'laws.FnExactSourcesOf', WHERE WHAT IT READS IS OF BULK AT MOST 1048576: true; the input reads as it did. -/
def fnExactSourcesOfUptoRow : OpenClaim := { program := "ytoeecaeaobfhmaa", sum := "dcec1423d5b37e0e0df12e7eef6e91c778bd65f050412133e367bbad9ca2912f", func := "loop.example/witnessorders/laws.FnExactSourcesOf", spec := "fnExactSourcesOf", apart := false, narrowed := true }
def FnExactSourcesOfUptoSaid : Prop := fnExactSourcesOfUptoRow.holds Try.pinned (OpenSpec.upto fnExactSourcesOfSpec)

/-- 'laws.FnExactKeepsRegister', WHERE WHAT IT READS IS OF BULK AT MOST 1048576: true; the input reads as it did. -/
def fnExactKeepsRegisterUptoRow : OpenClaim := { program := "ytoeecaeaobfhmaa", sum := "dcec1423d5b37e0e0df12e7eef6e91c778bd65f050412133e367bbad9ca2912f", func := "loop.example/witnessorders/laws.FnExactKeepsRegister", spec := "fnExactKeepsRegister", apart := false, narrowed := true }
def FnExactKeepsRegisterUptoSaid : Prop := fnExactKeepsRegisterUptoRow.holds Try.pinned (OpenSpec.upto fnExactKeepsRegisterSpec)

/-- 'laws.FnExactStepObject', WHERE WHAT IT READS IS OF BULK AT MOST 1048576: true; the input reads as it did. -/
def fnExactStepObjectUptoRow : OpenClaim := { program := "ytoeecaeaobfhmaa", sum := "dcec1423d5b37e0e0df12e7eef6e91c778bd65f050412133e367bbad9ca2912f", func := "loop.example/witnessorders/laws.FnExactStepObject", spec := "fnExactStepObject", apart := false, narrowed := true }
def FnExactStepObjectUptoSaid : Prop := fnExactStepObjectUptoRow.holds Try.pinned (OpenSpec.upto fnExactStepObjectSpec)

end Rows
end Go.Proofs.Ytoeecaeaobfhmaa
