/-
  What ValidEvents of the reference answers. No condition but lengths of at most 2 to the 20.
-/
import Derived.Test.YtcmecgnlhgjciaaEv2
namespace Go.Proofs.Ytcmecgnlhgjciaa
open Go.RowKit
set_option maxRecDepth 100000

theorem specValidEvents_calls (cs : List EventD) (A : Option Addr) (cap : Nat) (w : World) (hr : RowEvents w A cs) (hl : cs.length ≤ 1048576) (b : Bool) (hb : evB cs = b) :
    Calls Try.prog 16 #[.slice A cs.length cap] w fun e w' => e = .returned (.bool b) ∧ Below w.heap.size w w' := by
  have HV := Lib.hid hb
  clear hb
  go_enter Try.func16, Try.ntmps16
  go_wp2_with (go_at_call 49; refine (specValid_calls cs A cap _ hr hl b HV.out).mono ?_; rintro e w1 ⟨rfl, hb1⟩)
  go_ret
  exact ⟨rfl, hb1⟩
end Go.Proofs.Ytcmecgnlhgjciaa
