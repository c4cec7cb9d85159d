/-
  The walk of the law that MarkedCuts answers as the reference does, in memory of its own: it returns true. No condition.
-/
import Derived.Test.YtmeehfiekhdbkaaMkD
import Derived.Test.YtmeehfiekhdbkaaMkEvent
import Derived.Test.YtmeehfiekhdbkaaHeInt
namespace Go.Proofs.Ytmeehfiekhdbkaa
open Go.RowKit
set_option maxRecDepth 100000

set_option maxHeartbeats 2000000 in
theorem walk_FnExactMarkedCuts (cs : List EventD) (A : Option Addr) (cap : Nat) (x : Int) (w : World) (hlc : cs.length ≤ cap) (hcm : cap ≤ maxLen) (hr : RowEvents w A cs) (_hg : ∀ d ∈ cs, d.good) (_hn : A = none → cs.length = 0 ∧ cap = 0) (_wx : I64 x) :
    Calls Try.prog 3 #[.slice A cs.length cap, .int .i64 x] w fun e w' => e = .returned (.bool true) ∧ Below w.heap.size w w' := by
  by_cases hbig : 1048576 < cs.length
  · go_enter Try.func3, Try.ntmps3
    go_wp2_with (go_at_call 7; refine (szEventS_big A cs.length cap _ hbig (by omega)).mono ?_; rintro e w1 ⟨rfl, rfl⟩)
    go_ret
    exact ⟨rfl, Below.refl _ _⟩
  have hl : cs.length ≤ 1048576 := by omega
  have hl' : (cs.length : Int) ≤ 1048576 := by omega
  have HR := Lib.hid hr
  have HP := Lib.hid (markedL_len cs x)
  obtain ⟨P, hP⟩ : ∃ P, markedL cs x = P := ⟨_, rfl⟩
  have HE := Lib.hid hP
  rw [hP] at HP
  have HI := Lib.hid (fun (W : World) (B : Option Addr) (c : Nat) (hW : RowEvents W B cs) (hc : cs.length ≤ c) => hP ▸ implMarkedCuts_calls cs B c x W hW hl hc)
  have HS := Lib.hid (fun (W : World) (B : Option Addr) (c : Nat) (hW : RowEvents W B cs) => hP ▸ specMarkedCuts_calls cs B c x W hW hl)
  have HT := Lib.hid (fun (W : World) (hW : RowEvents W A cs) => toEventS_calls cs A cap W hW hl)
  clear hr _hn _hg hP
  go_enter Try.func3, Try.ntmps3
  go_wp2_with (go_at_call 7; refine (szEventS_small A cs.length cap _ hl).mono ?_; rintro e w1 ⟨rfl, rfl⟩)
  refine (HT.out _ HR.out).mono ?_
  rintro e w1 ⟨g1, rfl, ho1, hb1⟩
  have hr1 : RowEvents w1 _ cs := RowOf.of_own rfl (fun c _ => c.vals_len) ho1
  go_wp2_with fail
  -- the reference's answer
  refine (HS.out _ _ _ hr1).mono ?_
  rintro e w2 ⟨v0, rfl, own0, hb2⟩
  have hbw2 : Below w.heap.size w w2 := (by repeat (first | exact Below.refl _ _ | assumption | refine below_alloc ?_ _ | refine below_trans' ?_ (by assumption) | refine Below.drew ?_))
  have lt0 := own0.lt
  go_wp2_with fail
  refine (HT.out _ (HR.out.below hbw2)).mono ?_
  rintro e w3 ⟨g3, rfl, own3, hb3⟩
  have hbw3 : Below w.heap.size w w3 := (by repeat (first | exact Below.refl _ _ | assumption | refine below_alloc ?_ _ | refine below_trans' ?_ (by assumption) | refine Below.drew ?_))
  have lt3 := own3.lt g3 rfl
  have hr3 : RowEvents w3 _ cs := RowOf.of_own rfl (fun c _ => c.vals_len) own3
  have o0_3 := own_below own0 hb3
  go_wp2_with fail
  -- the program's answer
  refine (HI.out _ _ _ hr3 (Nat.le_refl _)).mono ?_
  rintro e w4 ⟨v4, rfl, own4, hb4⟩
  have hbw4 : Below w.heap.size w w4 := (by repeat (first | exact Below.refl _ _ | assumption | refine below_alloc ?_ _ | refine below_trans' ?_ (by assumption) | refine Below.drew ?_))
  have lt4 := own4.lt
  have hs3 := hb3.size
  have hs4 := hb4.size
  have hs2 := hb2.size
  have o0_4 := own_below o0_3 hb4
  have o3_4 := own_below own3 hb4
  obtain ⟨A0, c0, rfl, hnc0, hcm0, _⟩ := own_form own0
  obtain ⟨A4, c4, rfl, hnc4, hcm4, _⟩ := own_form own4
  clear ho1 own0 own3 o0_3 hr1
  go_wp2_with fail
  refine (eqIntS_same P A4 A0 _ _ _ (RowOf.of_own rfl (fun _ _ => rfl) own4) (RowOf.of_own rfl (fun _ _ => rfl) o0_4) HP.out).mono ?_
  rintro e w5 ⟨rfl, hb5⟩
  have hbw5 : Below w.heap.size w w5 := (by repeat (first | exact Below.refl _ _ | assumption | refine below_alloc ?_ _ | refine below_trans' ?_ (by assumption) | refine Below.drew ?_))
  have hs5 := hb5.size
  have o0_5 := own_below o0_4 hb5
  have o3_5 := own_below o3_4 hb5
  have o4_5 := own_below own4 hb5
  clear o0_4 o3_4 own4
  go_wp2_with fail
  refine (HT.out _ (HR.out.below hbw5)).mono ?_
  rintro e w6 ⟨g6, rfl, own6, hb6⟩
  have hbw6 : Below w.heap.size w w6 := (by repeat (first | exact Below.refl _ _ | assumption | refine below_alloc ?_ _ | refine below_trans' ?_ (by assumption) | refine Below.drew ?_))
  have hs6 := hb6.size
  have o0_6 := own_below o0_5 hb6
  have o3_6 := own_below o3_5 hb6
  have o4_6 := own_below o4_5 hb6
  clear o0_5 o3_5 o4_5
  go_wp2_with fail
  refine (eqEventS_same cs _ _ _ _ _ (RowOf.of_own rfl (fun c _ => c.vals_len) o3_6) (RowOf.of_own rfl (fun c _ => c.vals_len) own6) hl).mono ?_
  rintro e w7 ⟨rfl, hb7⟩
  have hbw7 : Below w.heap.size w w7 := (by repeat (first | exact Below.refl _ _ | assumption | refine below_alloc ?_ _ | refine below_trans' ?_ (by assumption) | refine Below.drew ?_))
  have hs7 := hb7.size
  have o0_7 := own_below o0_6 hb7
  have o3_7 := own_below o3_6 hb7
  have o4_7 := own_below o4_6 hb7
  clear o0_6 o3_6 o4_6 own6
  go_wp2_with fail
  -- the argument's copy is overwritten
  refine (markEventS_calls _ _ _ _ _ 1 _ o3_7 (by omega) (by omega)).mono ?_
  rintro e w8 ⟨rfl, _, hg8⟩
  have hs8 := hg8.size
  have hbw8 : Below w.heap.size w w8 := hbw7.grown hg8 hbw7.size (by intro k hk; have := hbw2.size; simp only [Value.ownBlock, Option.some.injEq] at hk; omega)
  have o0_8 := own_low o0_7 (N := w2.heap.size) (fun k hk => (lt0 k hk).2) hg8 (by intro k hk; simp only [Value.ownBlock, Option.some.injEq] at hk; omega)
  have o4_8 := own_high o4_7 hg8 (by intro k hk; simp only [Value.ownBlock, Option.some.injEq] at hk; omega)
  clear o0_7 o3_7 o4_7 hg8
  have hk1 : ¬ ((1 : Int) + 3 * (cs.length : Int) < 0) := by omega
  have hk2 : decide ((1 : Int) + 3 * (cs.length : Int) < 0) = false := by simp; omega
  go_wp2_with fail
  refine (eqIntS_same P A4 A0 _ _ _ (RowOf.of_own rfl (fun _ _ => rfl) o4_8) (RowOf.of_own rfl (fun _ _ => rfl) o0_8) HP.out).mono ?_
  rintro e w9 ⟨rfl, hb9⟩
  have hbw9 : Below w.heap.size w w9 := (by repeat (first | exact Below.refl _ _ | assumption | refine below_alloc ?_ _ | refine below_trans' ?_ (by assumption) | refine Below.drew ?_))
  have hs9 := hb9.size
  have o0_9 := own_below o0_8 hb9
  have o4_9 := own_below o4_8 hb9
  clear o0_8 o4_8
  have hPl := HP.out
  have hm1 : ¬ ((1 : Int) + (P.length : Int) < 0) := by omega
  have hm2 : decide ((1 : Int) + (P.length : Int) < 0) = false := by simp; omega
  go_wp2_with fail
  -- so is the answer, and it holds what was written
  refine (markIntS_calls _ _ _ _ _ 1 _ o4_9 (by omega) (by omega)).mono ?_
  rintro e w10 ⟨rfl, own10, hg10⟩
  have hs10 := hg10.size
  have hbw10 : Below w.heap.size w w10 := hbw9.grown hg10 hbw9.size (by intro k hk; have := hbw3.size; have := (lt4 k hk).1; omega)
  have o0_10 := own_low o0_9 (N := w2.heap.size) (fun k hk => (lt0 k hk).2) hg10 (by intro k hk; have := (lt4 k hk).1; omega)
  clear o0_9 o4_9 hg10
  go_wp2_with fail
  refine (heldIntS_calls A4 P.length c4 1 _ (RowOf.of_own (marksInt_len 1 P.length).symm (fun c _ => markInt_len c) own10) (by omega) (by omega)).mono ?_
  rintro e w10' ⟨rfl, rfl⟩
  go_wp2_with fail
  -- a second answer
  refine (HT.out _ (HR.out.below hbw10)).mono ?_
  rintro e w11 ⟨g11, rfl, own11, hb11⟩
  have hbw11 : Below w.heap.size w w11 := (by repeat (first | exact Below.refl _ _ | assumption | refine below_alloc ?_ _ | refine below_trans' ?_ (by assumption) | refine Below.drew ?_))
  have o0_11 := own_below o0_10 hb11
  have o4_11 := own_below own10 hb11
  clear o0_10 own10
  go_wp2_with fail
  refine (HI.out _ _ _ (RowOf.of_own rfl (fun c _ => c.vals_len) own11) (Nat.le_refl _)).mono ?_
  rintro e w12 ⟨v12, rfl, own12, hb12⟩
  have hbw12 : Below w.heap.size w w12 := (by repeat (first | exact Below.refl _ _ | assumption | refine below_alloc ?_ _ | refine below_trans' ?_ (by assumption) | refine Below.drew ?_))
  have o0_12 := own_below o0_11 hb12
  have o4_12 := own_below o4_11 hb12
  obtain ⟨A12, c12, rfl, _, _, _⟩ := own_form own12
  clear o0_11 o4_11 own11
  go_wp2_with fail
  refine (eqIntS_same P A12 A0 _ _ _ (RowOf.of_own rfl (fun _ _ => rfl) own12) (RowOf.of_own rfl (fun _ _ => rfl) o0_12) HP.out).mono ?_
  rintro e w13 ⟨rfl, hb13⟩
  have hbw13 : Below w.heap.size w w13 := (by repeat (first | exact Below.refl _ _ | assumption | refine below_alloc ?_ _ | refine below_trans' ?_ (by assumption) | refine Below.drew ?_))
  have o4_13 := own_below o4_12 hb13
  clear o0_12 o4_12 own12
  go_wp2_with fail
  refine (heldIntS_calls A4 P.length c4 1 _ (RowOf.of_own (marksInt_len 1 P.length).symm (fun c _ => markInt_len c) o4_13) (by omega) (by omega)).mono ?_
  rintro e w14 ⟨rfl, rfl⟩
  go_wp2_with fail
  go_ret
  exact ⟨rfl, hbw13⟩
end Go.Proofs.Ytmeehfiekhdbkaa
