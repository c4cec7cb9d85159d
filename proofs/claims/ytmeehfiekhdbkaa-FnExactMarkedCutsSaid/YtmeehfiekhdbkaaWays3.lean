/-
  Whether the reference finds a way that avoids the marked cuts: as the Lean function tells. Asked: at most seven events, a set of them that is a cut, marks less than 2 to the 20.
-/
import Derived.Test.YtmeehfiekhdbkaaWays2
namespace Go.Proofs.Ytmeehfiekhdbkaa
open Go.RowKit
set_option maxRecDepth 100000

theorem isWay_none {op : Nat → Bool} {n m S : Nat} (h : op S = false) : isWay op n m S = false := by cases m <;> simp [isWay, h]
theorem isWay_found {op : Nat → Bool} {n m S k : Nat} (ho : op S = true) (hk : k < n) (hb : bitN S k = 0) (h : isWay op n m (S + 2 ^ k) = true) : isWay op n (m + 1) S = true := by
  rw [isWay, ho, Bool.true_and, List.any_eq_true]
  exact ⟨k, List.mem_range.2 hk, by rw [(bitN_test0 S k).1 hb, h]; rfl⟩
theorem isWay_not {op : Nat → Bool} {n m S : Nat} (h : ∀ k, k < n → bitN S k = 0 → isWay op n m (S + 2 ^ k) = false) : isWay op n (m + 1) S = false := by
  rw [isWay, Bool.and_eq_false_iff]
  right
  rw [List.any_eq_false]
  intro k hk
  cases hb : S.testBit k
  · rw [h k (List.mem_range.1 hk) ((bitN_test0 S k).2 hb)]; simp
  · simp

set_option maxHeartbeats 4000000 in
theorem specavoid_calls (cs : List EventD) (marks : Nat) (A : Option Addr) (cap : Nat) (hl : cs.length ≤ 7) (hmk : marks < 2 ^ 20) : ∀ (m S : Nat) (w : World), RowEvents w A cs → S < 2 ^ cs.length → sz cs.length S + m = cs.length → cutB cs cs.length S = true →
    ∀ b, isWay (opW cs fun s => !markB cs marks s) cs.length m S = b →
    Calls Try.prog 39 #[.slice A cs.length cap, .int .i64 marks, .int .i64 S] w fun e w' => e = .returned (.bool b) ∧ Below w.heap.size w w' := by
  intro m
  induction m with
  | zero =>
    intro S w hr hS hm hc b hb
    have hf := (sz_rest hS hm).2 rfl
    have hM : 2 ^ cs.length ≤ 2 ^ 7 := Nat.pow_le_pow_right (by omega) (by omega)
    have hM1 : 1 ≤ 2 ^ cs.length := Nat.two_pow_pos _
    have hpw : pw cs.length = ((2 ^ cs.length : Nat) : Int) := by rw [pw_eq _ (by omega), two_cast]
    have HPW := Lib.hid (fun (W : World) => hpw ▸ power_calls cs.length W (by omega))
    have HMK := Lib.hid (fun (q : Bool) (hq : markB cs marks S = q) => marked_calls cs S marks A cap w hr (by omega) (Nat.lt_of_lt_of_le hS (Nat.pow_le_pow_right (by omega) (by omega))) hmk q hq)
    rw [isWay, opW, hc, Bool.true_and] at hb
    clear hpw hc hm hr
    cases hq : markB cs marks S
    · have HQ := Lib.hid (HMK.out false hq)
      have e : b = true := by rw [← hb, hq]; rfl
      subst e
      clear HMK hb hq
      generalize hn : cs.length = n at *
      clear hn
      generalize 2 ^ n = M at *
      have hlen : (n : Int) ≤ 7 := by omega
      have hMi : (M : Int) ≤ 128 := by omega
      have hMj : (1 : Int) ≤ (M : Int) := by omega
      have heq : ((S : Int) == (M : Int) - 1) = true := by simp; omega
      clear hf
      go_enter Try.func39, Try.ntmps39
      go_wp2_with (first
        | (go_at_call 27; with_reducible refine (HQ.out).mono ?_; rintro e w' ⟨rfl, rfl⟩)
        | (go_at_call 25; with_reducible refine (HPW.out _).mono ?_; rintro e w' ⟨rfl, rfl⟩))
      go_ret
      exact ⟨rfl, (by repeat (first | exact Below.refl _ _ | assumption | refine below_alloc ?_ _ | refine below_trans' ?_ (by assumption) | refine Below.drew ?_))⟩
    · have HQ := Lib.hid (HMK.out true hq)
      have e : b = false := by rw [← hb, hq]; rfl
      subst e
      clear HMK hb hq hf
      generalize cs.length = n at *
      go_enter Try.func39, Try.ntmps39
      go_wp2_with (go_at_call 27; with_reducible refine (HQ.out).mono ?_; rintro e w' ⟨rfl, rfl⟩)
      go_ret
      exact ⟨rfl, (by repeat (first | exact Below.refl _ _ | assumption | refine below_alloc ?_ _ | refine below_trans' ?_ (by assumption) | refine Below.drew ?_))⟩
  | succ m ih =>
    intro S w hr hS hm hc b hb
    have HMK := Lib.hid (fun (q : Bool) (hq : markB cs marks S = q) => marked_calls cs S marks A cap w hr (by omega) (Nat.lt_of_lt_of_le hS (Nat.pow_le_pow_right (by omega) (by omega))) hmk q hq)
    cases hq : markB cs marks S
    case true =>
      have HQ := Lib.hid (HMK.out true hq)
      have e : b = false := by rw [← hb]; exact isWay_none (by rw [opW, hq]; simp)
      subst e
      clear HMK hb hq hc hm hr ih
      generalize cs.length = n at *
      go_enter Try.func39, Try.ntmps39
      go_wp2_with (go_at_call 27; with_reducible refine (HQ.out).mono ?_; rintro e w' ⟨rfl, rfl⟩)
      go_ret
      exact ⟨rfl, (by repeat (first | exact Below.refl _ _ | assumption | refine below_alloc ?_ _ | refine below_trans' ?_ (by assumption) | refine Below.drew ?_))⟩
    case false =>
    have HQ := Lib.hid (HMK.out false hq)
    have hop : opW cs (fun s => !markB cs marks s) S = true := by rw [opW, hq, hc]; rfl
    have hf : ¬ S = 2 ^ cs.length - 1 := fun h => by have := (sz_rest hS hm).1 h; omega
    have hM : 2 ^ cs.length ≤ 2 ^ 7 := Nat.pow_le_pow_right (by omega) (by omega)
    have hM1 : 1 ≤ 2 ^ cs.length := Nat.two_pow_pos _
    have hpw : pw cs.length = ((2 ^ cs.length : Nat) : Int) := by rw [pw_eq _ (by omega), two_cast]
    have HPW := Lib.hid (fun (W : World) => hpw ▸ power_calls cs.length W (by omega))
    have HR := Lib.hid hr
    have HI := Lib.hid (fun (k : Nat) (hk : k < cs.length) (hb : bitN S k = 0) (hcut : cutB cs cs.length (S + 2 ^ k) = true) (W : World) (hW : RowEvents W A cs) (b : Bool) => ih (S + 2 ^ k) W hW (add_bit_lt hS hk ((bitN_test0 S k).1 hb)) (by rw [sz_add hk ((bitN_test0 S k).1 hb)]; omega) hcut b)
    have HIN := Lib.hid (fun (k : Nat) (hk : k < cs.length) (hb : bitN S k = 0) => add_bit_lt hS hk ((bitN_test0 S k).1 hb))
    have HIC := Lib.hid (fun (T : Nat) (hT : T < 2 ^ cs.length) (b : Bool) (hb : cutB cs cs.length T = b) (W : World) (hW : RowEvents W A cs) => specisCut_nat cs A cap T W hW (by omega) hT b hb)
    have HNO := Lib.hid (fun (T : Nat) (h : cutB cs cs.length T = false) => isWay_none (op := opW cs fun s => !markB cs marks s) (n := cs.length) (m := m) (S := T) (by rw [opW, h]; rfl))
    have HYES := Lib.hid (fun (k : Nat) (hk : k < cs.length) (h0 : bitN S k = 0) (h : isWay (opW cs fun s => !markB cs marks s) cs.length m (S + 2 ^ k) = true) => show b = true by rw [← hb]; exact isWay_found hop hk h0 h)
    have HNOT := Lib.hid (fun (h : ∀ k, k < cs.length → bitN S k = 0 → isWay (opW cs fun s => !markB cs marks s) cs.length m (S + 2 ^ k) = false) => show b = false by rw [← hb]; exact isWay_not h)
    clear hpw hop hc hm hr ih hq hb HMK
    generalize (opW cs fun s => !markB cs marks s) = op at *
    generalize hn : cs.length = n at *
    have Hn := Lib.hid hn
    clear hn
    generalize hMe : 2 ^ n = M at *
    clear hMe
    have hlen : (n : Int) ≤ 7 := by omega
    have hMi : (M : Int) ≤ 128 := by omega
    have hMj : (1 : Int) ≤ (M : Int) := by omega
    have hSi : (S : Int) < (M : Int) := by omega
    have heq : ((S : Int) == (M : Int) - 1) = false := by simp; omega
    clear hf
    go_enter Try.func39, Try.ntmps39
    go_wp2_with (first
      | (go_at_call 27; with_reducible refine (HQ.out).mono ?_; rintro e w' ⟨rfl, rfl⟩)
      | (go_at_call 25; with_reducible refine (HPW.out _).mono ?_; rintro e w' ⟨rfl, rfl⟩))
    go_loopw [7] (fun i wr => ∃ k : Nat, k ≤ n ∧ i = .int .i64 k ∧ Below w.heap.size w wr ∧ Hid (∀ j, j < k → bitN S j = 0 → isWay op n m (S + 2 ^ j) = false)) (fun i _ => n - (intOf i).toNat)
    case atStart => exact ⟨0, by omega, rfl, Below.refl _ _, fun j hj => by omega⟩
    case round =>
      obtain ⟨k, hk, rfl, hb, HG⟩ := hrel
      obtain ⟨wo, rfl⟩ : ∃ wo : World, wo = wr := ⟨_, rfl⟩
      by_cases hkl : k < n
      · have HRW := Lib.hid (HR.out.below hb)
        have Hb := Lib.hid hb
        have HB := Lib.hid (fun (W : World) => bit_calls S k (by omega) (by omega) W)
        have hpk : pw k = ((2 ^ k : Nat) : Int) := by rw [pw_eq _ (by omega), two_cast]
        have HPK := Lib.hid (fun (W : World) => hpk ▸ power_calls k W (by omega))
        have hbl := bitN_le S k
        have hk0 : (0 : Int) ≤ (k : Int) := by omega
        have hkn : (k : Int) < (n : Int) := by omega
        have hbb : bitN S k = 0 ∨ bitN S k = 1 := by omega
        have HGO := Lib.hid (fun (h : bitN S k = 0 → isWay op n m (S + 2 ^ k) = false) => show Hid (∀ j, j < k + 1 → bitN S j = 0 → isWay op n m (S + 2 ^ j) = false) from fun j hj h0 => by
          by_cases e : j = k
          · subst e; exact h h0
          · exact HG.out j (by omega) h0)
        clear hb hpk heq
        rcases hbb with hbb | hbb
        · have hin := HIN.out k hkl hbb
          have hi := HI.out k hkl hbb
          have hic := HIC.out _ hin
          have hno := HNO.out (S + 2 ^ k)
          have hyes := HYES.out k hkl hbb
          rw [hbb] at HB
          have e2 : ((S + 2 ^ k : Nat) : Int) = (S : Int) + ((2 ^ k : Nat) : Int) := by omega
          rw [e2] at hi hic
          cases hcb : cutB cs n (S + 2 ^ k)
          · have Hq := Lib.hid (HGO.out fun _ => hno hcb)
            have HIC2 := Lib.hid (hic false hcb)
            clear hi hic hno hcb e2 hbb hbl hyes HGO
            generalize 2 ^ k = t at *
            have ht : (S : Int) + (t : Int) < (M : Int) := by omega
            have ht0 : (0 : Int) ≤ (t : Int) := by omega
            go_wp2_with (first
              | (go_at_call 45; with_reducible refine (HB.out _).mono ?_; rintro e w' ⟨rfl, rfl⟩)
              | (go_at_call 25; with_reducible refine (HPK.out _).mono ?_; rintro e w' ⟨rfl, rfl⟩)
              | (go_at_call 44; with_reducible refine (HIC2.out _ HRW.out).mono ?_; rintro e w3 ⟨rfl, hb3⟩))
            go_roundw
            case rel => exact ⟨k + 1, by omega, by go_num, below_trans' Hb.out hb3, Hq.out⟩
            case measure => simp [intOf]; omega
          · have HIC2 := Lib.hid (hic true hcb)
            cases hy : isWay op n m (S + 2 ^ k)
            · have HI2 := Lib.hid (fun (W : World) (hW : RowEvents W A cs) => hi hcb W hW false hy)
              have Hq := Lib.hid (HGO.out fun _ => hy)
              clear hi hic hno hcb e2 hy hbb hbl hyes HGO
              generalize 2 ^ k = t at *
              have ht : (S : Int) + (t : Int) < (M : Int) := by omega
              have ht0 : (0 : Int) ≤ (t : Int) := by omega
              go_wp2_with (first
                | (go_at_call 45; with_reducible refine (HB.out _).mono ?_; rintro e w' ⟨rfl, rfl⟩)
                | (go_at_call 25; with_reducible refine (HPK.out _).mono ?_; rintro e w' ⟨rfl, rfl⟩)
                | (go_at_call 44; with_reducible refine (HIC2.out _ HRW.out).mono ?_; rintro e w3 ⟨rfl, hb3⟩)
                | (go_at_call 39; with_reducible refine (HI2.out _ (HRW.out.below hb3)).mono ?_; rintro e w4 ⟨rfl, hb4⟩))
              go_roundw
              case rel => exact ⟨k + 1, by omega, by go_num, below_trans' (below_trans' Hb.out hb3) hb4, Hq.out⟩
              case measure => simp [intOf]; omega
            · have HI2 := Lib.hid (fun (W : World) (hW : RowEvents W A cs) => hi hcb W hW true hy)
              have e := hyes hy
              subst e
              clear hi hic hno hcb e2 hy hbb hbl hyes HGO
              generalize 2 ^ k = t at *
              have ht : (S : Int) + (t : Int) < (M : Int) := by omega
              have ht0 : (0 : Int) ≤ (t : Int) := by omega
              go_wp2_with (first
                | (go_at_call 45; with_reducible refine (HB.out _).mono ?_; rintro e w' ⟨rfl, rfl⟩)
                | (go_at_call 25; with_reducible refine (HPK.out _).mono ?_; rintro e w' ⟨rfl, rfl⟩)
                | (go_at_call 44; with_reducible refine (HIC2.out _ HRW.out).mono ?_; rintro e w3 ⟨rfl, hb3⟩)
                | (go_at_call 39; with_reducible refine (HI2.out _ (HRW.out.below hb3)).mono ?_; rintro e w4 ⟨rfl, hb4⟩))
              go_ret
              exact ⟨rfl, below_trans' (below_trans' Hb.out hb3) hb4⟩
        · rw [hbb] at HB
          have Hq := Lib.hid (HGO.out fun h => by omega)
          clear hbb hbl HGO
          go_wp2_with (go_at_call 45; with_reducible refine (HB.out _).mono ?_; rintro e w' ⟨rfl, rfl⟩)
          go_roundw
          case rel => exact ⟨k + 1, by omega, by go_num, Hb.out, Hq.out⟩
          case measure => simp [intOf]; omega
      · have e1 : k = n := by omega
        subst e1
        have e2 := HNOT.out HG.out
        subst e2
        have hge : ¬ ((k : Int) < (k : Int)) := by omega
        have Hb := Lib.hid hb
        clear hb
        go_wp2
        go_ret
        exact ⟨rfl, Hb.out⟩
end Go.Proofs.Ytmeehfiekhdbkaa
