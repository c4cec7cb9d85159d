/-
  No cell of these rows narrows 'for every input' (looked for: loops, veiled, ifaces, maps, wideKeys, modest, calm, conditions, laid).
  DERIVED. THE GIVEN ROWS OF THIS SEAT. 12 by the template 'for every input the law returns true; each argument reads behind the call as it read before'; 0 by the template 'total and deterministic' (their statements: YtcmecgnlhgjciaaTotals.lean).
  GIVEN WITH THE SEED: the statements are not yours to turn. If you find one false, say at which input.
  Laid BY PROGRAM, IN A SANDBOX (cutbox-rows.mjs): the forced cells as the released guide's own fill.sh prints them over the translation 7d32da8b7f617921… (all of the seat's roots in one cut). By AI agents, Wed Nov 11 2026. No macro, syntax, notation, axiom, sorry.
-/
import Derived.Test.YtcmecgnlhgjciaaChecked
import GoSem.Claim
import GoSem.ClaimJoined
import GoSem.ClaimMapViews
import Derived.JoinedTies
import Derived.KernelRfl
namespace Go.Proofs.Ytcmecgnlhgjciaa
/- THE CELL 'sum', in the pinned program and in every row, IS THE sha256 OF THE DUMP (.gsa) THAT YtcmecgnlhgjciaaProg.lean LOADS. Nothing in Lean hashes anything: it is a label: what it is worth is what the hold of that sum in a sandbox is worth. -/
noncomputable def Try.pinned : Pinned := { name := "ytcmecgnlhgjciaa", sum := "7d32da8b7f617921fc9ff38b619169bebaea31bc7c38397913012fe62d311e00", checked := Try.checked }
namespace Rows
def none {H : Type} : Left H := { results := [], args := [] }

/-- 'laws.FnExactValidEvents': WHATEVER THE INPUT: true; the input reads as it did. -/
def fnExactValidEventsSpec : ChangeSpec := { name := "fnExactValidEvents", fn := fun _ => fun
  | [d] => { results := [.lit (.bool true)], args := [d] }
  | _ => none }
def fnExactValidEventsRow : OpenClaim := { program := "ytcmecgnlhgjciaa", sum := "7d32da8b7f617921fc9ff38b619169bebaea31bc7c38397913012fe62d311e00", func := "loop.example/witnessorders/laws.FnExactValidEvents", spec := "fnExactValidEvents", unfollowed := true, recurses := true, apart := false }
def FnExactValidEventsSaid : Prop := fnExactValidEventsRow.holds Try.pinned (OpenSpec.ofChange fnExactValidEventsSpec)

/-- ITS FALSE NEIGHBOUR: 'it returns false'. Refute it at one input. -/
def fnExactValidEventsWrong : ChangeSpec := { name := "fnExactValidEvents", fn := fun _ => fun
  | [d] => { results := [.lit (.bool false)], args := [d] }
  | _ => none }
def FnExactValidEventsWrongFalsely : Prop := fnExactValidEventsRow.holds Try.pinned (OpenSpec.ofChange fnExactValidEventsWrong)

/-- 'laws.FnValidEvents': WHATEVER THE INPUT: true; the input reads as it did. -/
def fnValidEventsSpec : ChangeSpec := { name := "fnValidEvents", fn := fun _ => fun
  | [d] => { results := [.lit (.bool true)], args := [d] }
  | _ => none }
def fnValidEventsRow : OpenClaim := { program := "ytcmecgnlhgjciaa", sum := "7d32da8b7f617921fc9ff38b619169bebaea31bc7c38397913012fe62d311e00", func := "loop.example/witnessorders/laws.FnValidEvents", spec := "fnValidEvents", unfollowed := true, recurses := true, apart := false }
def FnValidEventsSaid : Prop := fnValidEventsRow.holds Try.pinned (OpenSpec.ofChange fnValidEventsSpec)

/-- ITS FALSE NEIGHBOUR: 'it returns false'. Refute it at one input. -/
def fnValidEventsWrong : ChangeSpec := { name := "fnValidEvents", fn := fun _ => fun
  | [d] => { results := [.lit (.bool false)], args := [d] }
  | _ => none }
def FnValidEventsWrongFalsely : Prop := fnValidEventsRow.holds Try.pinned (OpenSpec.ofChange fnValidEventsWrong)

/-- 'laws.FnExactPastOf': WHATEVER THE INPUT: true; the input reads as it did. -/
def fnExactPastOfSpec : ChangeSpec := { name := "fnExactPastOf", fn := fun _ => fun
  | [d] => { results := [.lit (.bool true)], args := [d] }
  | _ => none }
def fnExactPastOfRow : OpenClaim := { program := "ytcmecgnlhgjciaa", sum := "7d32da8b7f617921fc9ff38b619169bebaea31bc7c38397913012fe62d311e00", func := "loop.example/witnessorders/laws.FnExactPastOf", spec := "fnExactPastOf", unfollowed := true, recurses := true, apart := false }
def FnExactPastOfSaid : Prop := fnExactPastOfRow.holds Try.pinned (OpenSpec.ofChange fnExactPastOfSpec)

/-- ITS FALSE NEIGHBOUR: 'it returns false'. Refute it at one input. -/
def fnExactPastOfWrong : ChangeSpec := { name := "fnExactPastOf", fn := fun _ => fun
  | [d] => { results := [.lit (.bool false)], args := [d] }
  | _ => none }
def FnExactPastOfWrongFalsely : Prop := fnExactPastOfRow.holds Try.pinned (OpenSpec.ofChange fnExactPastOfWrong)

/-- 'laws.FnPastOf': WHATEVER THE INPUT: true; the input reads as it did. -/
def fnPastOfSpec : ChangeSpec := { name := "fnPastOf", fn := fun _ => fun
  | [d] => { results := [.lit (.bool true)], args := [d] }
  | _ => none }
def fnPastOfRow : OpenClaim := { program := "ytcmecgnlhgjciaa", sum := "7d32da8b7f617921fc9ff38b619169bebaea31bc7c38397913012fe62d311e00", func := "loop.example/witnessorders/laws.FnPastOf", spec := "fnPastOf", unfollowed := true, recurses := true, apart := false }
def FnPastOfSaid : Prop := fnPastOfRow.holds Try.pinned (OpenSpec.ofChange fnPastOfSpec)

/-- ITS FALSE NEIGHBOUR: 'it returns false'. Refute it at one input. -/
def fnPastOfWrong : ChangeSpec := { name := "fnPastOf", fn := fun _ => fun
  | [d] => { results := [.lit (.bool false)], args := [d] }
  | _ => none }
def FnPastOfWrongFalsely : Prop := fnPastOfRow.holds Try.pinned (OpenSpec.ofChange fnPastOfWrong)

/-- 'laws.FnExactScalarsOf': WHATEVER THE INPUT: true; the input reads as it did. -/
def fnExactScalarsOfSpec : ChangeSpec := { name := "fnExactScalarsOf", fn := fun _ => fun
  | [d] => { results := [.lit (.bool true)], args := [d] }
  | _ => none }
def fnExactScalarsOfRow : OpenClaim := { program := "ytcmecgnlhgjciaa", sum := "7d32da8b7f617921fc9ff38b619169bebaea31bc7c38397913012fe62d311e00", func := "loop.example/witnessorders/laws.FnExactScalarsOf", spec := "fnExactScalarsOf", unfollowed := true, recurses := true, apart := false }
def FnExactScalarsOfSaid : Prop := fnExactScalarsOfRow.holds Try.pinned (OpenSpec.ofChange fnExactScalarsOfSpec)

/-- ITS FALSE NEIGHBOUR: 'it returns false'. Refute it at one input. -/
def fnExactScalarsOfWrong : ChangeSpec := { name := "fnExactScalarsOf", fn := fun _ => fun
  | [d] => { results := [.lit (.bool false)], args := [d] }
  | _ => none }
def FnExactScalarsOfWrongFalsely : Prop := fnExactScalarsOfRow.holds Try.pinned (OpenSpec.ofChange fnExactScalarsOfWrong)

/-- 'laws.FnScalarsOf': WHATEVER THE INPUT: true; the input reads as it did. -/
def fnScalarsOfSpec : ChangeSpec := { name := "fnScalarsOf", fn := fun _ => fun
  | [d] => { results := [.lit (.bool true)], args := [d] }
  | _ => none }
def fnScalarsOfRow : OpenClaim := { program := "ytcmecgnlhgjciaa", sum := "7d32da8b7f617921fc9ff38b619169bebaea31bc7c38397913012fe62d311e00", func := "loop.example/witnessorders/laws.FnScalarsOf", spec := "fnScalarsOf", unfollowed := true, recurses := true, apart := false }
def FnScalarsOfSaid : Prop := fnScalarsOfRow.holds Try.pinned (OpenSpec.ofChange fnScalarsOfSpec)

/-- ITS FALSE NEIGHBOUR: 'it returns false'. Refute it at one input. -/
def fnScalarsOfWrong : ChangeSpec := { name := "fnScalarsOf", fn := fun _ => fun
  | [d] => { results := [.lit (.bool false)], args := [d] }
  | _ => none }
def FnScalarsOfWrongFalsely : Prop := fnScalarsOfRow.holds Try.pinned (OpenSpec.ofChange fnScalarsOfWrong)

/-- 'laws.FnExactIsCut': WHATEVER THE INPUT: true; the input reads as it did. -/
def fnExactIsCutSpec : ChangeSpec := { name := "fnExactIsCut", fn := fun _ => fun
  | [d1, d2] => { results := [.lit (.bool true)], args := [d1, d2] }
  | _ => none }
def fnExactIsCutRow : OpenClaim := { program := "ytcmecgnlhgjciaa", sum := "7d32da8b7f617921fc9ff38b619169bebaea31bc7c38397913012fe62d311e00", func := "loop.example/witnessorders/laws.FnExactIsCut", spec := "fnExactIsCut", unfollowed := true, recurses := true, apart := false }
def FnExactIsCutSaid : Prop := fnExactIsCutRow.holds Try.pinned (OpenSpec.ofChange fnExactIsCutSpec)

/-- ITS FALSE NEIGHBOUR: 'it returns false'. Refute it at one input. -/
def fnExactIsCutWrong : ChangeSpec := { name := "fnExactIsCut", fn := fun _ => fun
  | [d1, d2] => { results := [.lit (.bool false)], args := [d1, d2] }
  | _ => none }
def FnExactIsCutWrongFalsely : Prop := fnExactIsCutRow.holds Try.pinned (OpenSpec.ofChange fnExactIsCutWrong)

/-- 'laws.FnIsCut': WHATEVER THE INPUT: true; the input reads as it did. -/
def fnIsCutSpec : ChangeSpec := { name := "fnIsCut", fn := fun _ => fun
  | [d] => { results := [.lit (.bool true)], args := [d] }
  | _ => none }
def fnIsCutRow : OpenClaim := { program := "ytcmecgnlhgjciaa", sum := "7d32da8b7f617921fc9ff38b619169bebaea31bc7c38397913012fe62d311e00", func := "loop.example/witnessorders/laws.FnIsCut", spec := "fnIsCut", unfollowed := true, recurses := true, apart := false }
def FnIsCutSaid : Prop := fnIsCutRow.holds Try.pinned (OpenSpec.ofChange fnIsCutSpec)

/-- ITS FALSE NEIGHBOUR: 'it returns false'. Refute it at one input. -/
def fnIsCutWrong : ChangeSpec := { name := "fnIsCut", fn := fun _ => fun
  | [d] => { results := [.lit (.bool false)], args := [d] }
  | _ => none }
def FnIsCutWrongFalsely : Prop := fnIsCutRow.holds Try.pinned (OpenSpec.ofChange fnIsCutWrong)

/-- 'laws.FnExactVectorsOf': WHATEVER THE INPUT: true; the input reads as it did. -/
def fnExactVectorsOfSpec : ChangeSpec := { name := "fnExactVectorsOf", fn := fun _ => fun
  | [d] => { results := [.lit (.bool true)], args := [d] }
  | _ => none }
def fnExactVectorsOfRow : OpenClaim := { program := "ytcmecgnlhgjciaa", sum := "7d32da8b7f617921fc9ff38b619169bebaea31bc7c38397913012fe62d311e00", func := "loop.example/witnessorders/laws.FnExactVectorsOf", spec := "fnExactVectorsOf", unfollowed := true, recurses := true, apart := false }
def FnExactVectorsOfSaid : Prop := fnExactVectorsOfRow.holds Try.pinned (OpenSpec.ofChange fnExactVectorsOfSpec)

/-- ITS FALSE NEIGHBOUR: 'it returns false'. Refute it at one input. -/
def fnExactVectorsOfWrong : ChangeSpec := { name := "fnExactVectorsOf", fn := fun _ => fun
  | [d] => { results := [.lit (.bool false)], args := [d] }
  | _ => none }
def FnExactVectorsOfWrongFalsely : Prop := fnExactVectorsOfRow.holds Try.pinned (OpenSpec.ofChange fnExactVectorsOfWrong)

/-- 'laws.FnVectorsOf': WHATEVER THE INPUT: true; the input reads as it did. -/
def fnVectorsOfSpec : ChangeSpec := { name := "fnVectorsOf", fn := fun _ => fun
  | [d] => { results := [.lit (.bool true)], args := [d] }
  | _ => none }
def fnVectorsOfRow : OpenClaim := { program := "ytcmecgnlhgjciaa", sum := "7d32da8b7f617921fc9ff38b619169bebaea31bc7c38397913012fe62d311e00", func := "loop.example/witnessorders/laws.FnVectorsOf", spec := "fnVectorsOf", unfollowed := true, recurses := true, apart := false }
def FnVectorsOfSaid : Prop := fnVectorsOfRow.holds Try.pinned (OpenSpec.ofChange fnVectorsOfSpec)

/-- ITS FALSE NEIGHBOUR: 'it returns false'. Refute it at one input. -/
def fnVectorsOfWrong : ChangeSpec := { name := "fnVectorsOf", fn := fun _ => fun
  | [d] => { results := [.lit (.bool false)], args := [d] }
  | _ => none }
def FnVectorsOfWrongFalsely : Prop := fnVectorsOfRow.holds Try.pinned (OpenSpec.ofChange fnVectorsOfWrong)

/-- 'laws.FnExactCutsOf': WHATEVER THE INPUT: true; the input reads as it did. -/
def fnExactCutsOfSpec : ChangeSpec := { name := "fnExactCutsOf", fn := fun _ => fun
  | [d] => { results := [.lit (.bool true)], args := [d] }
  | _ => none }
def fnExactCutsOfRow : OpenClaim := { program := "ytcmecgnlhgjciaa", sum := "7d32da8b7f617921fc9ff38b619169bebaea31bc7c38397913012fe62d311e00", func := "loop.example/witnessorders/laws.FnExactCutsOf", spec := "fnExactCutsOf", unfollowed := true, recurses := true, apart := false }
def FnExactCutsOfSaid : Prop := fnExactCutsOfRow.holds Try.pinned (OpenSpec.ofChange fnExactCutsOfSpec)

/-- ITS FALSE NEIGHBOUR: 'it returns false'. Refute it at one input. -/
def fnExactCutsOfWrong : ChangeSpec := { name := "fnExactCutsOf", fn := fun _ => fun
  | [d] => { results := [.lit (.bool false)], args := [d] }
  | _ => none }
def FnExactCutsOfWrongFalsely : Prop := fnExactCutsOfRow.holds Try.pinned (OpenSpec.ofChange fnExactCutsOfWrong)

/-- 'laws.FnCutsOf': WHATEVER THE INPUT: true; the input reads as it did. -/
def fnCutsOfSpec : ChangeSpec := { name := "fnCutsOf", fn := fun _ => fun
  | [d] => { results := [.lit (.bool true)], args := [d] }
  | _ => none }
def fnCutsOfRow : OpenClaim := { program := "ytcmecgnlhgjciaa", sum := "7d32da8b7f617921fc9ff38b619169bebaea31bc7c38397913012fe62d311e00", func := "loop.example/witnessorders/laws.FnCutsOf", spec := "fnCutsOf", unfollowed := true, recurses := true, apart := false }
def FnCutsOfSaid : Prop := fnCutsOfRow.holds Try.pinned (OpenSpec.ofChange fnCutsOfSpec)

/-- ITS FALSE NEIGHBOUR: 'it returns false'. Refute it at one input. -/
def fnCutsOfWrong : ChangeSpec := { name := "fnCutsOf", fn := fun _ => fun
  | [d] => { results := [.lit (.bool false)], args := [d] }
  | _ => none }
def FnCutsOfWrongFalsely : Prop := fnCutsOfRow.holds Try.pinned (OpenSpec.ofChange fnCutsOfWrong)

/- THE SECOND FORM. 'bulk': how many values and letters a reading holds, each counted each time it is reached (what is shared counts as often as it is met; a slice's spare places count too). A statement '..UptoSaid' is the law's where the arguments, and the package variables that the reading takes, are together of bulk at most 1048576: NARROWER than '..Said'. Prove '..Said' where nothing that the law and all that it calls make is longer than what came in: it says more and counts as full. Else prove '..UptoSaid'. A law counts once. -/
mutual
def uptoBulk {H : Type} : DataW H → Nat
  | .lit (.string bytes) => bytes.length + 1
  | .lit _ => 1
  | .nil => 1
  | .ptr d => uptoBulk d + 1
  | .slice elems spare => uptoBulkAll elems + uptoBulkAll spare + 1
  | .agg parts => uptoBulkAll parts + 1
  | .iface _ d => uptoBulk d + 1
  | .map entries => uptoBulkEntries entries + 1
  | .held _ => 1
def uptoBulkAll {H : Type} : List (DataW H) → Nat
  | [] => 0
  | d :: r => uptoBulk d + uptoBulkAll r
def uptoBulkEntries {H : Type} : List (Lit × DataW H) → Nat
  | [] => 0
  | x :: r => uptoBulkEntry x + uptoBulkEntries r
def uptoBulkEntry {H : Type} : Lit × DataW H → Nat
  | (.string bytes, d) => bytes.length + uptoBulk d + 1
  | (_, d) => uptoBulk d + 1
 end
def uptoSmall : (H : Type) → List (DataW H) → Bool := fun _ ds => decide (uptoBulkAll ds ≤ 1048576)
def OpenSpec.upto (s : _root_.Go.ChangeSpec) : _root_.Go.OpenSpec := { _root_.Go.OpenSpec.ofChange s with cond := some uptoSmall }

/-- 'laws.FnExactValidEvents', WHERE WHAT IT READS IS OF BULK AT MOST 1048576: true; the input reads as it did. -/
def fnExactValidEventsUptoRow : OpenClaim := { program := "ytcmecgnlhgjciaa", sum := "7d32da8b7f617921fc9ff38b619169bebaea31bc7c38397913012fe62d311e00", func := "loop.example/witnessorders/laws.FnExactValidEvents", spec := "fnExactValidEvents", unfollowed := true, recurses := true, apart := false, narrowed := true }
def FnExactValidEventsUptoSaid : Prop := fnExactValidEventsUptoRow.holds Try.pinned (OpenSpec.upto fnExactValidEventsSpec)

/-- 'laws.FnValidEvents', WHERE WHAT IT READS IS OF BULK AT MOST 1048576: true; the input reads as it did. -/
def fnValidEventsUptoRow : OpenClaim := { program := "ytcmecgnlhgjciaa", sum := "7d32da8b7f617921fc9ff38b619169bebaea31bc7c38397913012fe62d311e00", func := "loop.example/witnessorders/laws.FnValidEvents", spec := "fnValidEvents", unfollowed := true, recurses := true, apart := false, narrowed := true }
def FnValidEventsUptoSaid : Prop := fnValidEventsUptoRow.holds Try.pinned (OpenSpec.upto fnValidEventsSpec)

/-- 'laws.FnExactPastOf', WHERE WHAT IT READS IS OF BULK AT MOST 1048576: true; the input reads as it did. -/
def fnExactPastOfUptoRow : OpenClaim := { program := "ytcmecgnlhgjciaa", sum := "7d32da8b7f617921fc9ff38b619169bebaea31bc7c38397913012fe62d311e00", func := "loop.example/witnessorders/laws.FnExactPastOf", spec := "fnExactPastOf", unfollowed := true, recurses := true, apart := false, narrowed := true }
def FnExactPastOfUptoSaid : Prop := fnExactPastOfUptoRow.holds Try.pinned (OpenSpec.upto fnExactPastOfSpec)

/-- 'laws.FnPastOf', WHERE WHAT IT READS IS OF BULK AT MOST 1048576: true; the input reads as it did. -/
def fnPastOfUptoRow : OpenClaim := { program := "ytcmecgnlhgjciaa", sum := "7d32da8b7f617921fc9ff38b619169bebaea31bc7c38397913012fe62d311e00", func := "loop.example/witnessorders/laws.FnPastOf", spec := "fnPastOf", unfollowed := true, recurses := true, apart := false, narrowed := true }
def FnPastOfUptoSaid : Prop := fnPastOfUptoRow.holds Try.pinned (OpenSpec.upto fnPastOfSpec)

/-- 'laws.FnExactScalarsOf', WHERE WHAT IT READS IS OF BULK AT MOST 1048576: true; the input reads as it did. -/
def fnExactScalarsOfUptoRow : OpenClaim := { program := "ytcmecgnlhgjciaa", sum := "7d32da8b7f617921fc9ff38b619169bebaea31bc7c38397913012fe62d311e00", func := "loop.example/witnessorders/laws.FnExactScalarsOf", spec := "fnExactScalarsOf", unfollowed := true, recurses := true, apart := false, narrowed := true }
def FnExactScalarsOfUptoSaid : Prop := fnExactScalarsOfUptoRow.holds Try.pinned (OpenSpec.upto fnExactScalarsOfSpec)

/-- 'laws.FnScalarsOf', WHERE WHAT IT READS IS OF BULK AT MOST 1048576: true; the input reads as it did. -/
def fnScalarsOfUptoRow : OpenClaim := { program := "ytcmecgnlhgjciaa", sum := "7d32da8b7f617921fc9ff38b619169bebaea31bc7c38397913012fe62d311e00", func := "loop.example/witnessorders/laws.FnScalarsOf", spec := "fnScalarsOf", unfollowed := true, recurses := true, apart := false, narrowed := true }
def FnScalarsOfUptoSaid : Prop := fnScalarsOfUptoRow.holds Try.pinned (OpenSpec.upto fnScalarsOfSpec)

/-- 'laws.FnExactIsCut', WHERE WHAT IT READS IS OF BULK AT MOST 1048576: true; the input reads as it did. -/
def fnExactIsCutUptoRow : OpenClaim := { program := "ytcmecgnlhgjciaa", sum := "7d32da8b7f617921fc9ff38b619169bebaea31bc7c38397913012fe62d311e00", func := "loop.example/witnessorders/laws.FnExactIsCut", spec := "fnExactIsCut", unfollowed := true, recurses := true, apart := false, narrowed := true }
def FnExactIsCutUptoSaid : Prop := fnExactIsCutUptoRow.holds Try.pinned (OpenSpec.upto fnExactIsCutSpec)

/-- 'laws.FnIsCut', WHERE WHAT IT READS IS OF BULK AT MOST 1048576: true; the input reads as it did. -/
def fnIsCutUptoRow : OpenClaim := { program := "ytcmecgnlhgjciaa", sum := "7d32da8b7f617921fc9ff38b619169bebaea31bc7c38397913012fe62d311e00", func := "loop.example/witnessorders/laws.FnIsCut", spec := "fnIsCut", unfollowed := true, recurses := true, apart := false, narrowed := true }
def FnIsCutUptoSaid : Prop := fnIsCutUptoRow.holds Try.pinned (OpenSpec.upto fnIsCutSpec)

/-- 'laws.FnExactVectorsOf', WHERE WHAT IT READS IS OF BULK AT MOST 1048576: true; the input reads as it did. -/
def fnExactVectorsOfUptoRow : OpenClaim := { program := "ytcmecgnlhgjciaa", sum := "7d32da8b7f617921fc9ff38b619169bebaea31bc7c38397913012fe62d311e00", func := "loop.example/witnessorders/laws.FnExactVectorsOf", spec := "fnExactVectorsOf", unfollowed := true, recurses := true, apart := false, narrowed := true }
def FnExactVectorsOfUptoSaid : Prop := fnExactVectorsOfUptoRow.holds Try.pinned (OpenSpec.upto fnExactVectorsOfSpec)

/-- 'laws.FnVectorsOf', WHERE WHAT IT READS IS OF BULK AT MOST 1048576: true; the input reads as it did. -/
def fnVectorsOfUptoRow : OpenClaim := { program := "ytcmecgnlhgjciaa", sum := "7d32da8b7f617921fc9ff38b619169bebaea31bc7c38397913012fe62d311e00", func := "loop.example/witnessorders/laws.FnVectorsOf", spec := "fnVectorsOf", unfollowed := true, recurses := true, apart := false, narrowed := true }
def FnVectorsOfUptoSaid : Prop := fnVectorsOfUptoRow.holds Try.pinned (OpenSpec.upto fnVectorsOfSpec)

/-- 'laws.FnExactCutsOf', WHERE WHAT IT READS IS OF BULK AT MOST 1048576: true; the input reads as it did. -/
def fnExactCutsOfUptoRow : OpenClaim := { program := "ytcmecgnlhgjciaa", sum := "7d32da8b7f617921fc9ff38b619169bebaea31bc7c38397913012fe62d311e00", func := "loop.example/witnessorders/laws.FnExactCutsOf", spec := "fnExactCutsOf", unfollowed := true, recurses := true, apart := false, narrowed := true }
def FnExactCutsOfUptoSaid : Prop := fnExactCutsOfUptoRow.holds Try.pinned (OpenSpec.upto fnExactCutsOfSpec)

/-- 'laws.FnCutsOf', WHERE WHAT IT READS IS OF BULK AT MOST 1048576: true; the input reads as it did. -/
def fnCutsOfUptoRow : OpenClaim := { program := "ytcmecgnlhgjciaa", sum := "7d32da8b7f617921fc9ff38b619169bebaea31bc7c38397913012fe62d311e00", func := "loop.example/witnessorders/laws.FnCutsOf", spec := "fnCutsOf", unfollowed := true, recurses := true, apart := false, narrowed := true }
def FnCutsOfUptoSaid : Prop := fnCutsOfUptoRow.holds Try.pinned (OpenSpec.upto fnCutsOfSpec)

end Rows
end Go.Proofs.Ytcmecgnlhgjciaa
