/-
  The ways that the reference counts back, and whether it finds one that a question lets by: as the Lean functions tell. Asked: at most seven events, a set of them that is a cut.
-/
import Derived.Test.YtmeehfiekhdbkaaWayQ
import Derived.Test.YtmeehfiekhdbkaaCut
import Derived.Test.YtmeehfiekhdbkaaMarks
namespace Go.Proofs.Ytmeehfiekhdbkaa
open Go.RowKit
set_option maxRecDepth 100000

theorem back_none {op : Nat → Bool} {n m S : Nat} (h : op S = false) : back op n m S = 0 := by cases m <;> simp [back, h]
theorem back_stop {op : Nat → Bool} {n S : Nat} (h : op S = true) : back op n 0 S = 1 := by simp [back, h]
/-- What is counted over the first k events. -/
def bk (op : Nat → Bool) (n m S k : Nat) : Nat := sm k (fun i => if S.testBit i = false then back op n m (S + 2 ^ i) else 0)
theorem bk_zero (op : Nat → Bool) (n m S : Nat) : bk op n m S 0 = 0 := rfl
theorem bk_yes {op : Nat → Bool} {n m S k : Nat} (h : bitN S k = 0) : bk op n m S (k + 1) = bk op n m S k + back op n m (S + 2 ^ k) := by
  rw [bk, sm_succ, if_pos ((bitN_test0 S k).1 h)]; rfl
theorem bk_no {op : Nat → Bool} {n m S k : Nat} (h : bitN S k = 1) : bk op n m S (k + 1) = bk op n m S k := by
  rw [bk, sm_succ, if_neg (by rw [(bitN_test S k).1 h]; simp)]; rfl
theorem back_go {op : Nat → Bool} {n m S : Nat} (h : op S = true) : back op n (m + 1) S = bk op n m S n := by rw [back, if_pos h, bk]
theorem bk_small (op : Nat → Bool) {n m S k : Nat} (hn : n ≤ 7) (ho : op S = true) (h : sz n S + (m + 1) = n) (hk : k ≤ n) : bk op n m S k ≤ 5040 := by
  have h1 : bk op n m S k ≤ bk op n m S n := sm_more hk
  rw [← back_go ho] at h1
  exact Nat.le_trans h1 (back_small op hn h)
theorem specisCut_nat (cs : List EventD) (A : Option Addr) (cap T : Nat) (w : World) (hr : RowEvents w A cs) (hl : cs.length ≤ 20) (hT : T < 2 ^ cs.length) (b : Bool) (hb : cutB cs cs.length T = b) :
    Calls Try.prog 44 #[.slice A cs.length cap, .int .i64 T] w fun e w' => e = .returned (.bool b) ∧ Below w.heap.size w w' := by
  refine specisCut_calls cs A cap T w hr hl b ?_
  rw [← hb, Int.toNat_natCast]
  have : inB (T : Int) 0 (2 ^ cs.length - 1) = true := by
    rw [inB, decide_eq_true_eq, ← two_cast]
    omega
  rw [this, Bool.true_and]
theorem sz_rest {n S m : Nat} (hS : S < 2 ^ n) (h : sz n S + m = n) : (S = 2 ^ n - 1 ↔ m = 0) := by
  rw [← sz_full hS]; omega
theorem opW_true {cs : List EventD} {S : Nat} (h : cutB cs cs.length S = true) : opW cs (fun _ => true) S = true := by rw [opW, h]; rfl

set_option maxHeartbeats 2000000 in
theorem specways_calls (cs : List EventD) (A : Option Addr) (cap : Nat) (hl : cs.length ≤ 7) : ∀ (m S : Nat) (w : World), RowEvents w A cs → S < 2 ^ cs.length → sz cs.length S + m = cs.length → cutB cs cs.length S = true →
    Calls Try.prog 35 #[.slice A cs.length cap, .int .i64 S] w fun e w' => e = .returned (.int .i64 (back (opW cs fun _ => true) cs.length m S : Nat)) ∧ Below w.heap.size w w' := by
  intro m
  induction m with
  | zero =>
    intro S w hr hS hm hc
    have hop := opW_true hc
    have hf := (sz_rest hS hm).2 rfl
    have hM : 2 ^ cs.length ≤ 2 ^ 7 := Nat.pow_le_pow_right (by omega) (by omega)
    have hM1 : 1 ≤ 2 ^ cs.length := Nat.two_pow_pos _
    have hpw : pw cs.length = ((2 ^ cs.length : Nat) : Int) := by rw [pw_eq _ (by omega), two_cast]
    have HPW := Lib.hid (fun (W : World) => hpw ▸ power_calls cs.length W (by omega))
    rw [back_stop hop]
    clear hpw hop hc hm hr
    generalize hn : cs.length = n at *
    clear hn
    generalize 2 ^ n = M at *
    have hlen : (n : Int) ≤ 7 := by omega
    have hMi : (M : Int) ≤ 128 := by omega
    have hMj : (1 : Int) ≤ (M : Int) := by omega
    have heq : ((S : Int) == (M : Int) - 1) = true := by simp; omega
    clear hf
    go_enter Try.func35, Try.ntmps35
    go_wp2_with (go_at_call 25; refine (HPW.out _).mono ?_; rintro e w' ⟨rfl, rfl⟩)
    go_ret
    exact ⟨rfl, (by repeat (first | exact Below.refl _ _ | assumption | refine below_alloc ?_ _ | refine below_trans' ?_ (by assumption) | refine Below.drew ?_))⟩
  | succ m ih =>
    intro S w hr hS hm hc
    have hop := opW_true hc
    have hf : ¬ S = 2 ^ cs.length - 1 := fun h => by have := (sz_rest hS hm).1 h; omega
    have hM : 2 ^ cs.length ≤ 2 ^ 7 := Nat.pow_le_pow_right (by omega) (by omega)
    have hM1 : 1 ≤ 2 ^ cs.length := Nat.two_pow_pos _
    have hpw : pw cs.length = ((2 ^ cs.length : Nat) : Int) := by rw [pw_eq _ (by omega), two_cast]
    have HPW := Lib.hid (fun (W : World) => hpw ▸ power_calls cs.length W (by omega))
    have HR := Lib.hid hr
    have HBS := Lib.hid (fun (k : Nat) (hk : k ≤ cs.length) => bk_small (opW cs fun _ => true) hl hop hm hk)
    have HI := Lib.hid (fun (k : Nat) (hk : k < cs.length) (hb : bitN S k = 0) (hcut : cutB cs cs.length (S + 2 ^ k) = true) (W : World) (hW : RowEvents W A cs) => ih (S + 2 ^ k) W hW (add_bit_lt hS hk ((bitN_test0 S k).1 hb)) (by rw [sz_add hk ((bitN_test0 S k).1 hb)]; omega) hcut)
    have HIN := Lib.hid (fun (k : Nat) (hk : k < cs.length) (hb : bitN S k = 0) => add_bit_lt hS hk ((bitN_test0 S k).1 hb))
    have HIC := Lib.hid (fun (T : Nat) (hT : T < 2 ^ cs.length) (b : Bool) (hb : cutB cs cs.length T = b) (W : World) (hW : RowEvents W A cs) => specisCut_nat cs A cap T W hW (by omega) hT b hb)
    have HNO := Lib.hid (fun (T : Nat) (h : cutB cs cs.length T = false) => back_none (op := opW cs fun _ => true) (n := cs.length) (m := m) (S := T) (by rw [opW, h]; rfl))
    rw [back_go hop]
    clear hpw hop hc hm hr ih
    generalize (opW cs fun _ => true) = op at *
    generalize hn : cs.length = n at *
    have Hn := Lib.hid hn
    clear hn
    generalize hMe : 2 ^ n = M at *
    clear hMe
    have hlen : (n : Int) ≤ 7 := by omega
    have hMi : (M : Int) ≤ 128 := by omega
    have hMj : (1 : Int) ≤ (M : Int) := by omega
    have hSi : (S : Int) < (M : Int) := by omega
    have heq : ((S : Int) == (M : Int) - 1) = false := by simp; omega
    clear hf
    go_enter Try.func35, Try.ntmps35
    go_wp2_with (go_at_call 25; refine (HPW.out _).mono ?_; rintro e w' ⟨rfl, rfl⟩)
    go_loopw [5, 6] (fun o i wr => ∃ k : Nat, k ≤ n ∧ i = .int .i64 k ∧ o = .int .i64 (bk op n m S k : Nat) ∧ Below w.heap.size w wr) (fun _ i _ => n - (intOf i).toNat)
    case atStart => exact ⟨0, by omega, rfl, rfl, Below.refl _ _⟩
    case round =>
      obtain ⟨k, hk, rfl, rfl, hb⟩ := hrel
      obtain ⟨wo, rfl⟩ : ∃ wo : World, wo = wr := ⟨_, rfl⟩
      by_cases hkl : k < n
      · have hsm := HBS.out k (by omega)
        have hsm1 := HBS.out (k + 1) (by omega)
        have HRW := Lib.hid (HR.out.below hb)
        have Hb := Lib.hid hb
        have HB := Lib.hid (fun (W : World) => bit_calls S k (by omega) (by omega) W)
        have hpk : pw k = ((2 ^ k : Nat) : Int) := by rw [pw_eq _ (by omega), two_cast]
        have HPK := Lib.hid (fun (W : World) => hpk ▸ power_calls k W (by omega))
        have hbl := bitN_le S k
        have hk0 : (0 : Int) ≤ (k : Int) := by omega
        have hkn : (k : Int) < (n : Int) := by omega
        have hbb : bitN S k = 0 ∨ bitN S k = 1 := by omega
        clear hb hpk heq
        rcases hbb with hbb | hbb
        · have hst := bk_yes (op := op) (n := n) (m := m) hbb
          have hin := HIN.out k hkl hbb
          have hi := HI.out k hkl hbb
          have hic := HIC.out _ hin
          have hno := HNO.out (S + 2 ^ k)
          rw [hbb] at HB
          have e2 : ((S + 2 ^ k : Nat) : Int) = (S : Int) + ((2 ^ k : Nat) : Int) := by omega
          rw [e2] at hi hic
          obtain ⟨y, hy⟩ : ∃ y, back op n m (S + 2 ^ k) = y := ⟨_, rfl⟩
          rw [hy] at hst hi hno
          obtain ⟨x, hx⟩ : ∃ x, bk op n m S k = x := ⟨_, rfl⟩
          rw [hx] at hst hsm ⊢
          have hys : y ≤ 5040 := by omega
          cases hcb : cutB cs n (S + 2 ^ k)
          · have y0 := hno hcb
            have HIC2 := Lib.hid (hic false hcb)
            subst y0
            simp only [Nat.add_zero] at hst
            have Hst := Lib.hid hst
            clear hi hic hno hst hcb e2 hy hx hys hsm1 hbb hbl
            generalize 2 ^ k = t at *
            have ht : (S : Int) + (t : Int) < (M : Int) := by omega
            have ht0 : (0 : Int) ≤ (t : Int) := by omega
            go_wp2_with (first
              | (go_at_call 45; refine (HB.out _).mono ?_; rintro e w' ⟨rfl, rfl⟩)
              | (go_at_call 25; refine (HPK.out _).mono ?_; rintro e w' ⟨rfl, rfl⟩)
              | (go_at_call 44; refine (HIC2.out _ HRW.out).mono ?_; rintro e w3 ⟨rfl, hb3⟩))
            go_roundw
            case rel => exact ⟨k + 1, by omega, by go_num, by rw [Hst.out], below_trans' Hb.out hb3⟩
            case measure => simp [intOf]; omega
          · have HIC2 := Lib.hid (hic true hcb)
            have HI2 := Lib.hid (hi hcb)
            have Hst := Lib.hid hst
            clear hi hic hno hst hcb e2 hy hx hsm1 hbb hbl
            generalize 2 ^ k = t at *
            have ht : (S : Int) + (t : Int) < (M : Int) := by omega
            have ht0 : (0 : Int) ≤ (t : Int) := by omega
            have hxi : (x : Int) ≤ 5040 := by omega
            have hyi : (y : Int) ≤ 5040 := by omega
            go_wp2_with (first
              | (go_at_call 45; refine (HB.out _).mono ?_; rintro e w' ⟨rfl, rfl⟩)
              | (go_at_call 25; refine (HPK.out _).mono ?_; rintro e w' ⟨rfl, rfl⟩)
              | (go_at_call 44; refine (HIC2.out _ HRW.out).mono ?_; rintro e w3 ⟨rfl, hb3⟩)
              | (go_at_call 35; refine (HI2.out _ (HRW.out.below hb3)).mono ?_; rintro e w4 ⟨rfl, hb4⟩))
            go_roundw
            case rel => exact ⟨k + 1, by omega, by go_num, by rw [Hst.out]; go_num, below_trans' (below_trans' Hb.out hb3) hb4⟩
            case measure => simp [intOf]; omega
        · have hst := bk_no (op := op) (n := n) (m := m) hbb
          rw [hbb] at HB
          have Hst := Lib.hid hst
          clear hst hbb hbl hsm hsm1
          generalize bk op n m S k = x at *
          go_wp2_with (go_at_call 45; refine (HB.out _).mono ?_; rintro e w' ⟨rfl, rfl⟩)
          go_roundw
          case rel => exact ⟨k + 1, by omega, by go_num, by rw [Hst.out], Hb.out⟩
          case measure => simp [intOf]; omega
      · have e1 : k = n := by omega
        subst e1
        have hge : ¬ ((k : Int) < (k : Int)) := by omega
        have Hb := Lib.hid hb
        clear hb
        go_wp2
        go_ret
        exact ⟨rfl, Hb.out⟩
end Go.Proofs.Ytmeehfiekhdbkaa
