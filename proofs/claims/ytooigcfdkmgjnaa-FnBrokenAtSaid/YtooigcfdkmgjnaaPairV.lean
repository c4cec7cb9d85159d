/-
  A number and a bool, as a result. No condition but lengths of at most 2 to the 20.
-/
import Derived.Test.YtooigcfdkmgjnaaData
namespace Go.Proofs.Ytooigcfdkmgjnaa
open Go.RowKit
set_option maxRecDepth 100000

def pairV (v : Int × Bool) : Value := .tuple #[.int .i64 v.1, .bool v.2]
end Go.Proofs.Ytooigcfdkmgjnaa
