/-
  The walk of the law that VectorsOf answers as the reference does, in memory of its own: it returns true. No condition.
-/
import Derived.Test.YtcmecgnlhgjciaaVecs2
import Derived.Test.YtcmecgnlhgjciaaVecL
import Derived.Test.YtcmecgnlhgjciaaEventS
import Derived.Test.YtcmecgnlhgjciaaMkEvent
namespace Go.Proofs.Ytcmecgnlhgjciaa
open Go.RowKit
set_option maxRecDepth 100000

set_option maxHeartbeats 4000000 in
theorem walk_FnExactVectorsOf (cs : List EventD) (A : Option Addr) (cap : Nat) (w : World) (hlc : cs.length ≤ cap) (hcm : cap ≤ maxLen) (hr : RowEvents w A cs) (_hg : ∀ d ∈ cs, d.good) (_hn : A = none → cs.length = 0 ∧ cap = 0) :
    Calls Try.prog 11 #[.slice A cs.length cap] w fun e w' => e = .returned (.bool true) ∧ Below w.heap.size w w' := by
  by_cases hbig : 1048576 < cs.length
  · go_enter Try.func11, Try.ntmps11
    go_wp2_with (go_at_call 15; refine (szEventS_big A cs.length cap _ hbig (by omega)).mono ?_; rintro e w1 ⟨rfl, rfl⟩)
    go_ret
    exact ⟨rfl, Below.refl _ _⟩
  have hl : cs.length ≤ 1048576 := by omega
  have hl' : (cs.length : Int) ≤ 1048576 := by omega
  have HR := Lib.hid hr
  have HI := Lib.hid (fun (W : World) (B : Option Addr) (c : Nat) (hW : RowEvents W B cs) (hc : cs.length ≤ c) => implVectorsOf_calls cs B c W hW hl hc)
  have HS := Lib.hid (fun (W : World) (B : Option Addr) (c : Nat) (hW : RowEvents W B cs) => specVectorsOf_calls cs B c W hW hl)
  have HT := Lib.hid (fun (W : World) (hW : RowEvents W A cs) => toEventS_calls cs A cap W hW hl)
  have HP := Lib.hid (vectorsL_len cs)
  simp only [VecPost] at HI HS
  obtain ⟨P, hP⟩ : ∃ P, vectorsL cs = P := ⟨_, rfl⟩
  rw [hP] at HP
  simp only [hP] at HI HS
  clear hr _hn _hg hP
  obtain ⟨m, hm⟩ : ∃ m, P.length = m := ⟨_, rfl⟩
  rw [hm] at HP
  simp only [hm] at HI HS
  have hm7 := HP.out
  have hm7' : (m : Int) ≤ 7 := by omega
  clear hm
  go_enter Try.func11, Try.ntmps11
  go_wp2_with (go_at_call 15; refine (szEventS_small A cs.length cap _ hl).mono ?_; rintro e w1 ⟨rfl, rfl⟩)
  refine (HT.out _ HR.out).mono ?_
  rintro e w1 ⟨g1, rfl, ho1, hb1⟩
  have hr1 : RowEvents w1 _ cs := RowOf.of_own rfl (fun c _ => c.vals_len) ho1
  go_wp2_with fail
  -- the reference's answer
  refine (HS.out _ _ _ hr1).mono ?_
  rintro e w2 ⟨A0, c0, bs0, rfl, V0, hb2⟩
  have hbw2 : Below w.heap.size w w2 := (by repeat (first | exact Below.refl _ _ | assumption | refine below_alloc ?_ _ | refine below_trans' ?_ (by assumption) | refine Below.drew ?_))
  have lt0o := V0.out_ge
  have lt0i := V0.inn_ge
  go_wp2_with fail
  refine (HT.out _ (HR.out.below hbw2)).mono ?_
  rintro e w3 ⟨g3, rfl, own3, hb3⟩
  have hbw3 : Below w.heap.size w w3 := (by repeat (first | exact Below.refl _ _ | assumption | refine below_alloc ?_ _ | refine below_trans' ?_ (by assumption) | refine Below.drew ?_))
  have lt3 := own3.lt g3 rfl
  have hr3 : RowEvents w3 _ cs := RowOf.of_own rfl (fun c _ => c.vals_len) own3
  have V0_3 := V0.below hb3
  go_wp2_with fail
  -- the program's answer
  refine (HI.out _ _ _ hr3 (Nat.le_refl _)).mono ?_
  rintro e w4 ⟨A4, c4, bs4, rfl, V4, hb4⟩
  have hbw4 : Below w.heap.size w w4 := (by repeat (first | exact Below.refl _ _ | assumption | refine below_alloc ?_ _ | refine below_trans' ?_ (by assumption) | refine Below.drew ?_))
  have lt4o := V4.out_ge
  have lt4i := V4.inn_ge
  have hs3 := hb3.size
  have hs4 := hb4.size
  have hs2 := hb2.size
  have V0_4 := V0_3.below hb4
  have o3_4 := own_below own3 hb4
  clear ho1 V0 own3 V0_3 hr1
  go_wp2_with fail
  refine (eqIntSS_same P _ _ A4 A0 m c4 c0 bs4 bs0 _ V4 V0_4 (by omega)).mono ?_
  rintro e w5 ⟨rfl, hb5⟩
  have hbw5 : Below w.heap.size w w5 := (by repeat (first | exact Below.refl _ _ | assumption | refine below_alloc ?_ _ | refine below_trans' ?_ (by assumption) | refine Below.drew ?_))
  have hs5 := hb5.size
  have V0_5 := V0_4.below hb5
  have o3_5 := own_below o3_4 hb5
  have V4_5 := V4.below hb5
  clear V0_4 o3_4 V4
  go_wp2_with fail
  refine (HT.out _ (HR.out.below hbw5)).mono ?_
  rintro e w6 ⟨g6, rfl, own6, hb6⟩
  have hbw6 : Below w.heap.size w w6 := (by repeat (first | exact Below.refl _ _ | assumption | refine below_alloc ?_ _ | refine below_trans' ?_ (by assumption) | refine Below.drew ?_))
  have hs6 := hb6.size
  have V0_6 := V0_5.below hb6
  have o3_6 := own_below o3_5 hb6
  have V4_6 := V4_5.below hb6
  clear V0_5 o3_5 V4_5
  go_wp2_with fail
  refine (eqEventS_same cs _ _ _ _ _ (RowOf.of_own rfl (fun c _ => c.vals_len) o3_6) (RowOf.of_own rfl (fun c _ => c.vals_len) own6) hl).mono ?_
  rintro e w7 ⟨rfl, hb7⟩
  have hbw7 : Below w.heap.size w w7 := (by repeat (first | exact Below.refl _ _ | assumption | refine below_alloc ?_ _ | refine below_trans' ?_ (by assumption) | refine Below.drew ?_))
  have hs7 := hb7.size
  have V0_7 := V0_6.below hb7
  have o3_7 := own_below o3_6 hb7
  have V4_7 := V4_6.below hb7
  clear V0_6 o3_6 V4_6 own6
  go_wp2_with fail
  -- the argument's copy is overwritten
  refine (markEventS_calls _ _ _ _ _ 1 _ o3_7 (by omega) (by omega)).mono ?_
  rintro e w8 ⟨rfl, _, hg8⟩
  have hs8 := hg8.size
  have hbw8 : Below w.heap.size w w8 := hbw7.grown hg8 hbw7.size (by intro k hk; have := hbw2.size; simp only [Value.ownBlock, Option.some.injEq] at hk; omega)
  have hf8 : Far (· = g3) w7 w8 := Far.of_grown hg8
  have V0_8 := V0_7.low (N := w2.heap.size) hf8 (fun k hk => (lt0o k hk).2) (fun b hb => (lt0i b hb).2) (by intro k hk; omega)
  have V4_8 := V4_7.high hf8 (by intro k hk; omega)
  clear V0_7 o3_7 V4_7 hg8
  have hk1 : ¬ ((1 : Int) + 3 * (cs.length : Int) < 0) := by omega
  have hk2 : decide ((1 : Int) + 3 * (cs.length : Int) < 0) = false := by simp; omega
  go_wp2_with fail
  refine (eqIntSS_same P _ _ A4 A0 m c4 c0 bs4 bs0 _ V4_8 V0_8 (by omega)).mono ?_
  rintro e w9 ⟨rfl, hb9⟩
  have hbw9 : Below w.heap.size w w9 := (by repeat (first | exact Below.refl _ _ | assumption | refine below_alloc ?_ _ | refine below_trans' ?_ (by assumption) | refine Below.drew ?_))
  have hs9 := hb9.size
  have V0_9 := V0_8.below hb9
  have V4_9 := V4_8.below hb9
  clear V0_8 V4_8
  have hm1 : ¬ ((1 : Int) + 3 * (m : Int) < 0) := by omega
  have hm2 : decide ((1 : Int) + 3 * (m : Int) < 0) = false := by simp; omega
  go_wp2_with fail
  -- so is the answer, and it holds what was written
  refine (markIntSS_calls P _ A4 m c4 bs4 1 _ V4_9 (by omega) (by omega)).mono ?_
  rintro e w10 ⟨rfl, V4_10, hf10⟩
  have hs10 := hf10.size
  have hbw10 : Below w.heap.size w w10 := hbw9.trans (hf10.toBelow hbw9.size (fun k hk => by have := (lt4i k hk).1; have := hbw3.size; omega))
  have V0_10 := V0_9.low (N := w2.heap.size) hf10 (fun k hk => (lt0o k hk).2) (fun b hb => (lt0i b hb).2) (fun k hk => by have := (lt4i k hk).1; omega)
  clear V0_9 V4_9 hf10
  go_wp2_with fail
  refine (heldIntSS_calls _ A4 m c4 bs4 1 _ V4_10 (by omega) (by omega)).mono ?_
  rintro e w10' ⟨rfl, rfl⟩
  go_wp2_with fail
  -- a second answer
  refine (HT.out _ (HR.out.below hbw10)).mono ?_
  rintro e w11 ⟨g11, rfl, own11, hb11⟩
  have hbw11 : Below w.heap.size w w11 := (by repeat (first | exact Below.refl _ _ | assumption | refine below_alloc ?_ _ | refine below_trans' ?_ (by assumption) | refine Below.drew ?_))
  have V0_11 := V0_10.below hb11
  have V4_11 := V4_10.below hb11
  clear V0_10 V4_10
  go_wp2_with fail
  refine (HI.out _ _ _ (RowOf.of_own rfl (fun c _ => c.vals_len) own11) (Nat.le_refl _)).mono ?_
  rintro e w12 ⟨A12, c12, bs12, rfl, V12, hb12⟩
  have hbw12 : Below w.heap.size w w12 := (by repeat (first | exact Below.refl _ _ | assumption | refine below_alloc ?_ _ | refine below_trans' ?_ (by assumption) | refine Below.drew ?_))
  have V0_12 := V0_11.below hb12
  have V4_12 := V4_11.below hb12
  clear V0_11 V4_11 own11
  go_wp2_with fail
  refine (eqIntSS_same P _ _ A12 A0 m c12 c0 bs12 bs0 _ V12 V0_12 (by omega)).mono ?_
  rintro e w13 ⟨rfl, hb13⟩
  have hbw13 : Below w.heap.size w w13 := (by repeat (first | exact Below.refl _ _ | assumption | refine below_alloc ?_ _ | refine below_trans' ?_ (by assumption) | refine Below.drew ?_))
  have V4_13 := V4_12.below hb13
  clear V0_12 V4_12 V12
  go_wp2_with fail
  refine (heldIntSS_calls _ A4 m c4 bs4 1 _ V4_13 (by omega) (by omega)).mono ?_
  rintro e w14 ⟨rfl, rfl⟩
  go_wp2_with fail
  go_ret
  exact ⟨rfl, hbw13⟩
end Go.Proofs.Ytcmecgnlhgjciaa
