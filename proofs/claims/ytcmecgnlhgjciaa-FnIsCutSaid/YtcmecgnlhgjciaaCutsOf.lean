/-
  What CutsOf answers, of the reference, in memory of its own. No condition but lengths of at most 2 to the 20.
-/
import Derived.Test.YtcmecgnlhgjciaaCuts2
namespace Go.Proofs.Ytcmecgnlhgjciaa
open Go.RowKit
set_option maxRecDepth 100000

theorem specCutsOf_calls (cs : List EventD) (A : Option Addr) (cap : Nat) (w : World) (hr : RowEvents w A cs) (hl : cs.length ≤ 1048576) :
    Calls Try.prog 46 #[.slice A cs.length cap] w fun e w' => ∃ v, e = .returned v ∧ OwnInts w' w.heap.size v (cutsOfL cs) ∧ Below w.heap.size w w' := by
  have HR := Lib.hid hr
  clear hr
  cases hv : evB cs
  · have E1 := Lib.hid (show cutsOfL cs = [] by simp [cutsOfL, hv])
    have HV := Lib.hid hv
    clear hv
    go_enter Try.func46, Try.ntmps46
    go_wp2_with (go_at_call 49; refine (specValid_calls cs A cap _ HR.out hl false HV.out).mono ?_; rintro e w1 ⟨rfl, hb1⟩)
    go_ret
    exact ⟨_, rfl, by unfold OwnInts; rw [E1.out]; exact World.ownsRow_nil _ _ _ _, hb1⟩
  · have E1 := Lib.hid (show cutsOfL cs = cutsTo cs cs.length (2 ^ cs.length) by simp [cutsOfL, hv])
    have HV := Lib.hid hv
    have h6 := evB_len hv
    clear hv
    go_enter Try.func46, Try.ntmps46
    go_wp2_with (go_at_call 49; refine (specValid_calls cs A cap _ HR.out hl true HV.out).mono ?_; rintro e w1 ⟨rfl, hb1⟩)
    refine (speccuts_calls cs A cap _ (HR.out.below hb1) (by omega)).mono ?_
    rintro e w2 ⟨v, rfl, ho, hb2⟩
    go_wp2_with fail
    go_ret
    exact ⟨v, rfl, by unfold OwnInts at ho ⊢; rw [E1.out]; exact own_base ho hb1.size, (by repeat (first | exact Below.refl _ _ | assumption | refine below_alloc ?_ _ | refine below_trans' ?_ (by assumption) | refine Below.drew ?_))⟩
end Go.Proofs.Ytcmecgnlhgjciaa
