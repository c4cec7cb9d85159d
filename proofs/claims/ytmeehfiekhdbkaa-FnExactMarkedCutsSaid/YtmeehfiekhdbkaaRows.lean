/-
  No cell of these rows narrows 'for every input' (looked for: loops, veiled, ifaces, maps, wideKeys, modest, calm, conditions, laid).
  DERIVED. THE GIVEN ROWS OF THIS SEAT. 4 by the template 'for every input the law returns true; each argument reads behind the call as it read before'; 0 by the template 'total and deterministic' (their statements: YtmeehfiekhdbkaaTotals.lean).
  GIVEN WITH THE SEED: the statements are not yours to turn. If you find one false, say at which input.
  Laid BY PROGRAM, IN A SANDBOX (cutbox-rows.mjs): the forced cells as the released guide's own fill.sh prints them over the translation 4fa1f7f516aee031… (all of the seat's roots in one cut). By AI agents, Wed Nov 11 2026. No macro, syntax, notation, axiom, sorry.
-/
import Derived.Test.YtmeehfiekhdbkaaChecked
import GoSem.Claim
import GoSem.ClaimJoined
import GoSem.ClaimMapViews
import Derived.JoinedTies
import Derived.KernelRfl
namespace Go.Proofs.Ytmeehfiekhdbkaa
/- THE CELL 'sum', in the pinned program and in every row, IS THE sha256 OF THE DUMP (.gsa) THAT YtmeehfiekhdbkaaProg.lean LOADS. Nothing in Lean hashes anything: it is a label: what it is worth is what the hold of that sum in a sandbox is worth. -/
noncomputable def Try.pinned : Pinned := { name := "ytmeehfiekhdbkaa", sum := "4fa1f7f516aee031da76315e5625ca014fc79de54744232d100752f8a7d49c5c", checked := Try.checked }
namespace Rows
def none {H : Type} : Left H := { results := [], args := [] }

/-- 'laws.FnExactMarkedCuts': WHATEVER THE INPUT: true; the input reads as it did. -/
def fnExactMarkedCutsSpec : ChangeSpec := { name := "fnExactMarkedCuts", fn := fun _ => fun
  | [d1, d2] => { results := [.lit (.bool true)], args := [d1, d2] }
  | _ => none }
def fnExactMarkedCutsRow : OpenClaim := { program := "ytmeehfiekhdbkaa", sum := "4fa1f7f516aee031da76315e5625ca014fc79de54744232d100752f8a7d49c5c", func := "loop.example/witnessorders/laws.FnExactMarkedCuts", spec := "fnExactMarkedCuts", unfollowed := true, recurses := true, apart := false }
def FnExactMarkedCutsSaid : Prop := fnExactMarkedCutsRow.holds Try.pinned (OpenSpec.ofChange fnExactMarkedCutsSpec)

/-- ITS FALSE NEIGHBOUR: 'it returns false'. Refute it at one input. -/
def fnExactMarkedCutsWrong : ChangeSpec := { name := "fnExactMarkedCuts", fn := fun _ => fun
  | [d1, d2] => { results := [.lit (.bool false)], args := [d1, d2] }
  | _ => none }
def FnExactMarkedCutsWrongFalsely : Prop := fnExactMarkedCutsRow.holds Try.pinned (OpenSpec.ofChange fnExactMarkedCutsWrong)

/-- 'laws.FnExactWaysOf': WHATEVER THE INPUT: true; the input reads as it did. -/
def fnExactWaysOfSpec : ChangeSpec := { name := "fnExactWaysOf", fn := fun _ => fun
  | [d] => { results := [.lit (.bool true)], args := [d] }
  | _ => none }
def fnExactWaysOfRow : OpenClaim := { program := "ytmeehfiekhdbkaa", sum := "4fa1f7f516aee031da76315e5625ca014fc79de54744232d100752f8a7d49c5c", func := "loop.example/witnessorders/laws.FnExactWaysOf", spec := "fnExactWaysOf", unfollowed := true, recurses := true, apart := false }
def FnExactWaysOfSaid : Prop := fnExactWaysOfRow.holds Try.pinned (OpenSpec.ofChange fnExactWaysOfSpec)

/-- ITS FALSE NEIGHBOUR: 'it returns false'. Refute it at one input. -/
def fnExactWaysOfWrong : ChangeSpec := { name := "fnExactWaysOf", fn := fun _ => fun
  | [d] => { results := [.lit (.bool false)], args := [d] }
  | _ => none }
def FnExactWaysOfWrongFalsely : Prop := fnExactWaysOfRow.holds Try.pinned (OpenSpec.ofChange fnExactWaysOfWrong)

/-- 'laws.FnExactIsSure': WHATEVER THE INPUT: true; the input reads as it did. -/
def fnExactIsSureSpec : ChangeSpec := { name := "fnExactIsSure", fn := fun _ => fun
  | [d1, d2] => { results := [.lit (.bool true)], args := [d1, d2] }
  | _ => none }
def fnExactIsSureRow : OpenClaim := { program := "ytmeehfiekhdbkaa", sum := "4fa1f7f516aee031da76315e5625ca014fc79de54744232d100752f8a7d49c5c", func := "loop.example/witnessorders/laws.FnExactIsSure", spec := "fnExactIsSure", unfollowed := true, recurses := true, apart := false }
def FnExactIsSureSaid : Prop := fnExactIsSureRow.holds Try.pinned (OpenSpec.ofChange fnExactIsSureSpec)

/-- ITS FALSE NEIGHBOUR: 'it returns false'. Refute it at one input. -/
def fnExactIsSureWrong : ChangeSpec := { name := "fnExactIsSure", fn := fun _ => fun
  | [d1, d2] => { results := [.lit (.bool false)], args := [d1, d2] }
  | _ => none }
def FnExactIsSureWrongFalsely : Prop := fnExactIsSureRow.holds Try.pinned (OpenSpec.ofChange fnExactIsSureWrong)

/-- 'laws.FnWaysOf': WHATEVER THE INPUT: true; the input reads as it did. -/
def fnWaysOfSpec : ChangeSpec := { name := "fnWaysOf", fn := fun _ => fun
  | [d] => { results := [.lit (.bool true)], args := [d] }
  | _ => none }
def fnWaysOfRow : OpenClaim := { program := "ytmeehfiekhdbkaa", sum := "4fa1f7f516aee031da76315e5625ca014fc79de54744232d100752f8a7d49c5c", func := "loop.example/witnessorders/laws.FnWaysOf", spec := "fnWaysOf", unfollowed := true, recurses := true, apart := false }
def FnWaysOfSaid : Prop := fnWaysOfRow.holds Try.pinned (OpenSpec.ofChange fnWaysOfSpec)

/-- ITS FALSE NEIGHBOUR: 'it returns false'. Refute it at one input. -/
def fnWaysOfWrong : ChangeSpec := { name := "fnWaysOf", fn := fun _ => fun
  | [d] => { results := [.lit (.bool false)], args := [d] }
  | _ => none }
def FnWaysOfWrongFalsely : Prop := fnWaysOfRow.holds Try.pinned (OpenSpec.ofChange fnWaysOfWrong)

/- THE SECOND FORM. 'bulk': how many values and letters a reading holds, each counted each time it is reached (what is shared counts as often as it is met; a slice's spare places count too). A statement '..UptoSaid' is the law's where the arguments, and the package variables that the reading takes, are together of bulk at most 1048576: NARROWER than '..Said'. Prove '..Said' where nothing that the law and all that it calls make is longer than what came in: it says more and counts as full. Else prove '..UptoSaid'. A law counts once. -/
mutual
def uptoBulk {H : Type} : DataW H → Nat
  | .lit (.string bytes) => bytes.length + 1
  | .lit _ => 1
  | .nil => 1
  | .ptr d => uptoBulk d + 1
  | .slice elems spare => uptoBulkAll elems + uptoBulkAll spare + 1
  | .agg parts => uptoBulkAll parts + 1
  | .iface _ d => uptoBulk d + 1
  | .map entries => uptoBulkEntries entries + 1
  | .held _ => 1
def uptoBulkAll {H : Type} : List (DataW H) → Nat
  | [] => 0
  | d :: r => uptoBulk d + uptoBulkAll r
def uptoBulkEntries {H : Type} : List (Lit × DataW H) → Nat
  | [] => 0
  | x :: r => uptoBulkEntry x + uptoBulkEntries r
def uptoBulkEntry {H : Type} : Lit × DataW H → Nat
  | (.string bytes, d) => bytes.length + uptoBulk d + 1
  | (_, d) => uptoBulk d + 1
 end
def uptoSmall : (H : Type) → List (DataW H) → Bool := fun _ ds => decide (uptoBulkAll ds ≤ 1048576)
def OpenSpec.upto (s : _root_.Go.ChangeSpec) : _root_.Go.OpenSpec := { _root_.Go.OpenSpec.ofChange s with cond := some uptoSmall }

/-- 'laws.FnExactMarkedCuts', WHERE WHAT IT READS IS OF BULK AT MOST 1048576: true; the input reads as it did. -/
def fnExactMarkedCutsUptoRow : OpenClaim := { program := "ytmeehfiekhdbkaa", sum := "4fa1f7f516aee031da76315e5625ca014fc79de54744232d100752f8a7d49c5c", func := "loop.example/witnessorders/laws.FnExactMarkedCuts", spec := "fnExactMarkedCuts", unfollowed := true, recurses := true, apart := false, narrowed := true }
def FnExactMarkedCutsUptoSaid : Prop := fnExactMarkedCutsUptoRow.holds Try.pinned (OpenSpec.upto fnExactMarkedCutsSpec)

/-- 'laws.FnExactWaysOf', WHERE WHAT IT READS IS OF BULK AT MOST 1048576: true; the input reads as it did. -/
def fnExactWaysOfUptoRow : OpenClaim := { program := "ytmeehfiekhdbkaa", sum := "4fa1f7f516aee031da76315e5625ca014fc79de54744232d100752f8a7d49c5c", func := "loop.example/witnessorders/laws.FnExactWaysOf", spec := "fnExactWaysOf", unfollowed := true, recurses := true, apart := false, narrowed := true }
def FnExactWaysOfUptoSaid : Prop := fnExactWaysOfUptoRow.holds Try.pinned (OpenSpec.upto fnExactWaysOfSpec)

/-- 'laws.FnExactIsSure', WHERE WHAT IT READS IS OF BULK AT MOST 1048576: true; the input reads as it did. -/
def fnExactIsSureUptoRow : OpenClaim := { program := "ytmeehfiekhdbkaa", sum := "4fa1f7f516aee031da76315e5625ca014fc79de54744232d100752f8a7d49c5c", func := "loop.example/witnessorders/laws.FnExactIsSure", spec := "fnExactIsSure", unfollowed := true, recurses := true, apart := false, narrowed := true }
def FnExactIsSureUptoSaid : Prop := fnExactIsSureUptoRow.holds Try.pinned (OpenSpec.upto fnExactIsSureSpec)

/-- 'laws.FnWaysOf', WHERE WHAT IT READS IS OF BULK AT MOST 1048576: true; the input reads as it did. -/
def fnWaysOfUptoRow : OpenClaim := { program := "ytmeehfiekhdbkaa", sum := "4fa1f7f516aee031da76315e5625ca014fc79de54744232d100752f8a7d49c5c", func := "loop.example/witnessorders/laws.FnWaysOf", spec := "fnWaysOf", unfollowed := true, recurses := true, apart := false, narrowed := true }
def FnWaysOfUptoSaid : Prop := fnWaysOfUptoRow.holds Try.pinned (OpenSpec.upto fnWaysOfSpec)

end Rows
end Go.Proofs.Ytmeehfiekhdbkaa
