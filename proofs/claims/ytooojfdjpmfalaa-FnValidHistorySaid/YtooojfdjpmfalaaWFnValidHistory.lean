/-
  The law FnValidHistory holds of every draw: it returns true. No condition.
-/
import Derived.Test.YtooojfdjpmfalaaGenG
import Derived.Test.YtooojfdjpmfalaaGenS
import Derived.Test.YtooojfdjpmfalaaGenT
namespace Go.Proofs.Ytooojfdjpmfalaa
open Go.RowKit
set_option maxRecDepth 100000

theorem walk_FnValidHistory (bs : List Int) (A : Option Addr) (cap : Nat) (w : World) (hlc : bs.length ≤ cap) (hcm : cap ≤ maxLen) (hr : RowOf byteVals 1 w A bs) (hg : ∀ b ∈ bs, isByte b) (_hn : A = none → bs.length = 0 ∧ cap = 0) :
    Calls Try.prog 14 #[.slice A bs.length cap] w fun e w' => e = .returned (.bool true) ∧ Below w.heap.size w w' :=
  law_ValidHistory bs.length A cap w (by unfold maxLen at hcm; omega) (drawValid_of (goodHist_of rightCalls_calls stretched) bs A bs.length cap w hr hg rfl hlc hcm)
end Go.Proofs.Ytooojfdjpmfalaa
