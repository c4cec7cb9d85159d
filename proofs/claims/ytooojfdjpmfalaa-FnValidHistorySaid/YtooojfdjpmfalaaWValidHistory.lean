/-
  The walk of the law that ValidHistory answers as the reference does: it returns true. No condition.
-/
import Derived.Test.YtooojfdjpmfalaaHist
namespace Go.Proofs.Ytooojfdjpmfalaa
open Go.RowKit
set_option maxRecDepth 100000

theorem specValidHistory_calls (cs : List CallD) (A : Option Addr) (cap : Nat) (w : World) (hr : RowCalls w A cs) (hl : cs.length ≤ 1048576) (b : Bool) (hb : histB cs = b) :
    Calls Try.prog 23 #[.slice A cs.length cap] w fun e w' => e = .returned (.bool b) ∧ Below w.heap.size w w' := by
  have HV := Lib.hid hb
  clear hb
  go_enter Try.func23, Try.ntmps23
  go_wp2_with (go_at_call 42; refine (specValid_calls cs A cap _ hr hl b HV.out).mono ?_; rintro e w1 ⟨rfl, hb1⟩)
  go_ret
  exact ⟨rfl, hb1⟩

set_option maxHeartbeats 1000000 in
theorem walk_FnExactValidHistory (cs : List CallD) (A : Option Addr) (cap : Nat) (w : World) (hlc : cs.length ≤ cap) (hcm : cap ≤ maxLen) (hr : RowCalls w A cs) (_hg : ∀ d ∈ cs, d.good) (_hn : A = none → cs.length = 0 ∧ cap = 0) :
    Calls Try.prog 8 #[.slice A cs.length cap] w fun e w' => e = .returned (.bool true) ∧ Below w.heap.size w w' := by
  by_cases hbig : 1048576 < cs.length
  · go_enter Try.func8, Try.ntmps8
    go_wp2_with (go_at_call 22; refine (szCallS_big A cs.length cap _ hbig (by omega)).mono ?_; rintro e w1 ⟨rfl, rfl⟩)
    go_ret
    exact ⟨rfl, Below.refl _ _⟩
  have hl : cs.length ≤ 1048576 := by omega
  have hl' : (cs.length : Int) ≤ 1048576 := by omega
  have HR := Lib.hid hr
  obtain ⟨b, hb⟩ : ∃ b, histB cs = b := ⟨_, rfl⟩
  have HV := Lib.hid hb
  clear hr hb _hn
  go_enter Try.func8, Try.ntmps8
  go_wp2_with (go_at_call 22; refine (szCallS_small A cs.length cap _ hl).mono ?_; rintro e w1 ⟨rfl, rfl⟩)
  refine (toCallS_calls cs A cap _ HR.out hl).mono ?_
  rintro e w1 ⟨g1, rfl, ho1, hb1⟩
  have hr1 : RowCalls w1 _ cs := RowOf.of_own rfl (fun c _ => c.vals_len) ho1
  go_wp2_with fail
  refine (specValidHistory_calls cs _ _ _ hr1 hl b HV.out).mono ?_
  rintro e w2 ⟨rfl, hb2⟩
  have hbw2 : Below w.heap.size w w2 := (by repeat (first | exact Below.refl _ _ | assumption | refine below_alloc ?_ _ | refine below_trans' ?_ (by assumption) | refine Below.drew ?_))
  go_wp2_with fail
  refine (toCallS_calls cs A cap _ (HR.out.below hbw2) hl).mono ?_
  rintro e w3 ⟨g3, rfl, ho3, hb3⟩
  have hbw3 : Below w.heap.size w w3 := (by repeat (first | exact Below.refl _ _ | assumption | refine below_alloc ?_ _ | refine below_trans' ?_ (by assumption) | refine Below.drew ?_))
  have hr3 : RowCalls w3 _ cs := RowOf.of_own rfl (fun c _ => c.vals_len) ho3
  go_wp2_with fail
  refine (implValid_calls cs _ _ _ hr3 hl (Nat.le_refl _) b HV.out).mono ?_
  rintro e w4 ⟨rfl, hb4⟩
  have hbw4 : Below w.heap.size w w4 := (by repeat (first | exact Below.refl _ _ | assumption | refine below_alloc ?_ _ | refine below_trans' ?_ (by assumption) | refine Below.drew ?_))
  have hr4 := hr3.below hb4
  cases b
  all_goals
    go_wp2_with fail
    refine (toCallS_calls cs A cap _ (HR.out.below hbw4) hl).mono ?_
    rintro e w5 ⟨g5, rfl, ho5, hb5⟩
    have hbw5 : Below w.heap.size w w5 := (by repeat (first | exact Below.refl _ _ | assumption | refine below_alloc ?_ _ | refine below_trans' ?_ (by assumption) | refine Below.drew ?_))
    have hr5 : RowCalls w5 _ cs := RowOf.of_own rfl (fun c _ => c.vals_len) ho5
    go_wp2_with fail
    refine (eqCallS_same cs _ _ _ _ _ (hr4.below hb5) hr5 hl).mono ?_
    rintro e w6 ⟨rfl, hb6⟩
    go_wp2_with fail
    go_ret
    exact ⟨rfl, (by repeat (first | exact Below.refl _ _ | assumption | refine below_alloc ?_ _ | refine below_trans' ?_ (by assumption) | refine Below.drew ?_))⟩
end Go.Proofs.Ytooojfdjpmfalaa
