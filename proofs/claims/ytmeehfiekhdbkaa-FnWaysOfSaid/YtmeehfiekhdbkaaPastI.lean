/-
  What PastOf answers, of the program, in memory of its own. No condition but lengths of at most 2 to the 20.
-/
import Derived.Test.YtmeehfiekhdbkaaEv2
import Derived.Test.YtmeehfiekhdbkaaPast
namespace Go.Proofs.Ytmeehfiekhdbkaa
open Go.RowKit
set_option maxRecDepth 100000

def pastOfL (cs : List EventD) : List Int := if evB cs then pastL cs else []
theorem pastOfL_len (cs : List EventD) : (pastOfL cs).length ≤ 1048576 := by
  unfold pastOfL
  split
  · next h => have := evB_len h; rw [pastL, pastI_len]; omega
  · simp
theorem implPastOf_calls (cs : List EventD) (A : Option Addr) (cap : Nat) (w : World) (hr : RowEvents w A cs) (hl : cs.length ≤ 1048576) (hcap : cs.length ≤ cap) :
    Calls Try.prog 21 #[.slice A cs.length cap] w fun e w' => ∃ v, e = .returned v ∧ OwnInts w' w.heap.size v (pastOfL cs) ∧ Below w.heap.size w w' := by
  have HR := Lib.hid hr
  clear hr
  cases hv : evB cs
  · have E1 := Lib.hid (show pastOfL cs = [] by simp [pastOfL, hv])
    have HV := Lib.hid hv
    clear hv
    go_enter Try.func21, Try.ntmps21
    go_wp2_with (go_at_call 36; refine (implValidEvents_calls cs A cap _ HR.out hl hcap false HV.out).mono ?_; rintro e w1 ⟨rfl, hb1⟩)
    go_ret
    exact ⟨_, rfl, by unfold OwnInts; rw [E1.out]; exact World.ownsRow_nil _ _ _ _, hb1⟩
  · have E1 := Lib.hid (show pastOfL cs = pastL cs by simp [pastOfL, hv])
    have HV := Lib.hid hv
    have h6 := evB_len hv
    clear hv
    go_enter Try.func21, Try.ntmps21
    go_wp2_with (go_at_call 36; refine (implValidEvents_calls cs A cap _ HR.out hl hcap true HV.out).mono ?_; rintro e w1 ⟨rfl, hb1⟩)
    refine (implpast_calls cs A cap _ (HR.out.below hb1) (by omega) hcap).mono ?_
    rintro e w2 ⟨v, rfl, ho, hb2⟩
    go_wp2_with fail
    go_ret
    exact ⟨v, rfl, by unfold OwnInts at ho ⊢; rw [E1.out]; exact own_base ho hb1.size, (by repeat (first | exact Below.refl _ _ | assumption | refine below_alloc ?_ _ | refine below_trans' ?_ (by assumption) | refine Below.drew ?_))⟩
end Go.Proofs.Ytmeehfiekhdbkaa
