/-
  The walk of the law that WaysOf answers as the reference does: it returns true. No condition.
-/
import Derived.Test.YtmeehfiekhdbkaaWaysOf
namespace Go.Proofs.Ytmeehfiekhdbkaa
open Go.RowKit
set_option maxRecDepth 100000

set_option maxHeartbeats 1000000 in
theorem walk_FnExactWaysOf (cs : List EventD) (A : Option Addr) (cap : Nat) (w : World) (hlc : cs.length ≤ cap) (hcm : cap ≤ maxLen) (hr : RowEvents w A cs) (_hg : ∀ d ∈ cs, d.good) (_hn : A = none → cs.length = 0 ∧ cap = 0) :
    Calls Try.prog 4 #[.slice A cs.length cap] w fun e w' => e = .returned (.bool true) ∧ Below w.heap.size w w' := by
  by_cases hbig : 1048576 < cs.length
  · go_enter Try.func4, Try.ntmps4
    go_wp2_with (go_at_call 7; refine (szEventS_big A cs.length cap _ hbig (by omega)).mono ?_; rintro e w1 ⟨rfl, rfl⟩)
    go_ret
    exact ⟨rfl, Below.refl _ _⟩
  have hl : cs.length ≤ 1048576 := by omega
  have hl' : (cs.length : Int) ≤ 1048576 := by omega
  have HR := Lib.hid hr
  obtain ⟨b, hb⟩ : ∃ b, waysV cs = b := ⟨_, rfl⟩
  have HV := Lib.hid hb
  have HG := Lib.hid _hg
  clear hr hb _hn _hg
  go_enter Try.func4, Try.ntmps4
  go_wp2_with (go_at_call 7; refine (szEventS_small A cs.length cap _ hl).mono ?_; rintro e w1 ⟨rfl, rfl⟩)
  refine (toEventS_calls cs A cap _ HR.out hl).mono ?_
  rintro e w1 ⟨g1, rfl, ho1, hb1⟩
  have hr1 : RowEvents w1 _ cs := RowOf.of_own rfl (fun c _ => c.vals_len) ho1
  go_wp2_with fail
  refine (specWaysOf_calls cs _ _ _ hr1 hl).mono ?_
  rintro e w2 ⟨rfl, hb2⟩
  have hbw2 : Below w.heap.size w w2 := (by repeat (first | exact Below.refl _ _ | assumption | refine below_alloc ?_ _ | refine below_trans' ?_ (by assumption) | refine Below.drew ?_))
  go_wp2_with fail
  refine (toEventS_calls cs A cap _ (HR.out.below hbw2) hl).mono ?_
  rintro e w3 ⟨g3, rfl, ho3, hb3⟩
  have hbw3 : Below w.heap.size w w3 := (by repeat (first | exact Below.refl _ _ | assumption | refine below_alloc ?_ _ | refine below_trans' ?_ (by assumption) | refine Below.drew ?_))
  have hr3 : RowEvents w3 _ cs := RowOf.of_own rfl (fun c _ => c.vals_len) ho3
  go_wp2_with fail
  refine (implWaysOf_calls cs _ _ _ hr3 hl (Nat.le_refl _)).mono ?_
  rintro e w4 ⟨rfl, hb4⟩
  have hbw4 : Below w.heap.size w w4 := (by repeat (first | exact Below.refl _ _ | assumption | refine below_alloc ?_ _ | refine below_trans' ?_ (by assumption) | refine Below.drew ?_))
  have hr4 := hr3.below hb4
  skip
  all_goals
    go_wp2_with fail
    refine (toEventS_calls cs A cap _ (HR.out.below hbw4) hl).mono ?_
    rintro e w5 ⟨g5, rfl, ho5, hb5⟩
    have hbw5 : Below w.heap.size w w5 := (by repeat (first | exact Below.refl _ _ | assumption | refine below_alloc ?_ _ | refine below_trans' ?_ (by assumption) | refine Below.drew ?_))
    have hr5 : RowEvents w5 _ cs := RowOf.of_own rfl (fun c _ => c.vals_len) ho5
    go_wp2_with fail
    refine (eqEventS_same cs _ _ _ _ _ (hr4.below hb5) hr5 hl).mono ?_
    rintro e w6 ⟨rfl, hb6⟩
    go_wp2_with fail
    go_ret
    exact ⟨rfl, (by repeat (first | exact Below.refl _ _ | assumption | refine below_alloc ?_ _ | refine below_trans' ?_ (by assumption) | refine Below.drew ?_))⟩
end Go.Proofs.Ytmeehfiekhdbkaa
