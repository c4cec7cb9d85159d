/-
  Whether numbers are all indices once, as the program and the reference ask it: the same Lean function. No condition but lengths of at most 2 to the 20.
-/
import Derived.Test.YtoeecaeaobfhmaaPoiP
import Derived.Test.YtoeecaeaobfhmaaIntS
import Derived.BigGuardPart
import Derived.IntWalk
namespace Go.Proofs.Ytoeecaeaobfhmaa
open Go.RowKit
set_option maxRecDepth 100000

theorem two_ways' (a b : Bool) : a = false ∨ (a = true ∧ b = false) ∨ (a = true ∧ b = true) := by
  cases a <;> cases b <;> simp
set_option maxHeartbeats 1000000 in
theorem hasInt_calls (L : List Int) (n : Nat) (A : Option Addr) (cap : Nat) (x : Int) (w : World) (hr : RowInts w A L) (hn : L.length = n) (hl : n ≤ 1048576) (b : Bool) (hb : L.any (· == x) = b) :
    Calls Try.prog 77 #[.slice A n cap, .int .i64 x] w fun e w' => e = .returned (.bool b) ∧ w = w' := by
  subst hb
  have HR := Lib.hid hr
  have HN := Lib.hid hn
  clear hr hn
  have hlen : (n : Int) ≤ 1048576 := by omega
  go_enter Try.func77, Try.ntmps77
  go_wp2
  go_loop [5] (fun i => ∃ k : Nat, k ≤ n ∧ i = .int .i64 k ∧ Hid ((L.take k).any (· == x) = false)) (fun i => n - (intOf i).toNat)
  case atStart => exact ⟨0, by omega, rfl, by show _ = _; simp⟩
  case round =>
    obtain ⟨k, hk, rfl, HK⟩ := hrel
    by_cases hlt : k < n
    · obtain ⟨b, off, rfl, hat⟩ := HR.out (by rw [HN.out]; omega)
      obtain ⟨y, hy⟩ : ∃ y, L[k]? = some y := ⟨L[k]'(by rw [HN.out]; exact hlt), List.getElem?_eq_getElem _⟩
      have r0 := RowInts.at_ hat hy
      have hst : (L.take (k + 1)).any (· == x) = ((L.take k).any (· == x) || y == x) := by rw [List.take_add_one, hy, List.any_append]; simp
      have hal : (y == x) = true → L.any (· == x) = true := fun e => List.any_eq_true.2 ⟨y, List.mem_of_getElem? hy, e⟩
      have Hst := Lib.hid hst
      have Hal := Lib.hid hal
      clear hat hy hst hal
      have hk0 : (0 : Int) ≤ (k : Int) := by omega
      have hkn : (k : Int) < (n : Int) := by omega
      cases hq : (y == x)
      · have Hq := Lib.hid hq
        go_wp2
        go_round
        case rel => exact ⟨k + 1, by omega, by go_num, by show _ = _; rw [Hst.out, HK.out, Hq.out]; rfl⟩
        case measure => simp [intOf]; omega
      · have Hq := Lib.hid hq
        go_wp2
        go_ret
        exact ⟨by rw [Hal.out Hq.out]; rfl, rfl⟩
    · have hge : ¬ ((k : Int) < (n : Int)) := by omega
      have e1 : L.any (· == x) = false := by
        have := HK.out
        rwa [List.take_of_length_le (by rw [HN.out]; omega)] at this
      have E1 := Lib.hid e1
      clear e1
      go_wp2
      go_ret
      exact ⟨by rw [E1.out]; rfl, rfl⟩
set_option maxHeartbeats 1000000 in
theorem index_int (L : List Int) (n : Nat) (A : Option Addr) (cap : Nat) (x : Int) (w : World) (hr : RowInts w A L) (hn : L.length = n) (hl : n ≤ 1048576) :
    Calls Try.prog 87 #[.slice A n cap, .int .i64 x] w fun e w' => (∃ v : Int, e = .returned (.int .i64 v) ∧ decide (0 ≤ v) = L.any (· == x)) ∧ w = w' := by
  have HR := Lib.hid hr
  have HN := Lib.hid hn
  clear hr hn
  have hlen : (n : Int) ≤ 1048576 := by omega
  go_enter Try.func87, Try.ntmps87
  go_wp2
  go_loop [8] (fun i => ∃ k : Nat, k ≤ n ∧ i = .int .i64 k ∧ Hid ((L.take k).any (· == x) = false)) (fun i => n - (intOf i).toNat)
  case atStart => exact ⟨0, by omega, rfl, by show _ = _; simp⟩
  case round =>
    obtain ⟨k, hk, rfl, HK⟩ := hrel
    by_cases hlt : k < n
    · obtain ⟨b, off, rfl, hat⟩ := HR.out (by rw [HN.out]; omega)
      obtain ⟨y, hy⟩ : ∃ y, L[k]? = some y := ⟨L[k]'(by rw [HN.out]; exact hlt), List.getElem?_eq_getElem _⟩
      have r0 := RowInts.at_ hat hy
      have hst : (L.take (k + 1)).any (· == x) = ((L.take k).any (· == x) || y == x) := by rw [List.take_add_one, hy, List.any_append]; simp
      have hal : (y == x) = true → L.any (· == x) = true := fun e => List.any_eq_true.2 ⟨y, List.mem_of_getElem? hy, e⟩
      rw [show (y == x) = (x == y) from BEq.comm] at hst hal
      have Hst := Lib.hid hst
      have Hal := Lib.hid hal
      clear hat hy hst hal
      have hk0 : (0 : Int) ≤ (k : Int) := by omega
      have hkn : (k : Int) < (n : Int) := by omega
      cases hq : (x == y)
      · have Hq := Lib.hid hq
        go_wp2
        go_round
        case rel => exact ⟨k + 1, by omega, by go_num, by show _ = _; rw [Hst.out, HK.out, Hq.out]; rfl⟩
        case measure => simp [intOf]; omega
      · have Hq := Lib.hid hq
        go_wp2
        go_ret
        exact ⟨⟨(k : Int), rfl, by rw [Hal.out Hq.out]; simp⟩, rfl⟩
    · have hge : ¬ ((k : Int) < (n : Int)) := by omega
      have e1 : L.any (· == x) = false := by
        have := HK.out
        rwa [List.take_of_length_le (by rw [HN.out]; omega)] at this
      have E1 := Lib.hid e1
      clear e1
      go_wp2
      go_ret
      exact ⟨⟨-1, rfl, by rw [E1.out]; rfl⟩, rfl⟩
theorem contains_int (L : List Int) (n : Nat) (A : Option Addr) (cap : Nat) (x : Int) (w : World) (hr : RowInts w A L) (hn : L.length = n) (hl : n ≤ 1048576) (b : Bool) (hb : L.any (· == x) = b) :
    Calls Try.prog 79 #[.slice A n cap, .int .i64 x] w fun e w' => e = .returned (.bool b) ∧ w = w' := by
  have HI := Lib.hid (index_int L n A cap x w hr hn hl)
  have HV := Lib.hid hb
  clear hr hn hb
  go_enter Try.func79, Try.ntmps79
  go_wp2_with fail
  refine HI.out.mono ?_
  rintro e w1 ⟨⟨v, rfl, hv⟩, rfl⟩
  rw [HV.out] at hv
  go_wp2_with fail
  go_ret
  exact ⟨rfl, rfl⟩

set_option maxHeartbeats 2000000 in
theorem isOrder_calls (L : List Int) (m : Nat) (A : Option Addr) (n cap : Nat) (w : World) (hr : RowInts w A L) (hn : L.length = n) (hl : n ≤ 1048576) (hcap : n ≤ cap) (hm : m ≤ 1048576) (b : Bool) (hb : orderB m L = b) :
    Calls Try.prog 57 #[.slice A n cap, .int .i64 m] w fun e w' => e = .returned (.bool b) ∧ w = w' := by
  have HR := Lib.hid hr
  have HN := Lib.hid hn
  have HV := Lib.hid hb
  clear hr hn hb
  have hlen : (n : Int) ≤ 1048576 := by omega
  have hm' : (m : Int) ≤ 1048576 := by omega
  have hm0 : (0 : Int) ≤ (m : Int) := by omega
  go_enter Try.func57, Try.ntmps57
  go_wp2
  go_loop [9] (fun i => ∃ k : Nat, k ≤ n ∧ i = .int .i64 k ∧ Hid ((List.range k).all (ordRow m L) = true)) (fun i => n - (intOf i).toNat)
  case atStart => exact ⟨0, by omega, rfl, rfl⟩
  case round =>
    obtain ⟨k, hk, rfl, HG⟩ := hrel
    by_cases hlt : k < n
    · obtain ⟨x, hx⟩ : ∃ y, L[k]? = some y := ⟨L[k]'(by rw [HN.out]; exact hlt), List.getElem?_eq_getElem _⟩
      have hgd : L.getD k 0 = x := by rw [List.getD, hx]; rfl
      have hrow : ordRow m L k = (inB x 0 ((m : Int) - 1) && !((L.take k).any (· == x))) := by rw [ordRow, hgd]
      have htl : (L.take k).length = k := by rw [List.length_take, HN.out]; omega
      obtain ⟨b1, hb1⟩ : ∃ b, inB x 0 ((m : Int) - 1) = b := ⟨_, rfl⟩
      obtain ⟨b2, hb2⟩ : ∃ b, (L.take k).any (· == x) = b := ⟨_, rfl⟩
      have HI := Lib.hid (fun (W : World) => hb1 ▸ within_calls x 0 ((m : Int) - 1) W)
      have HC := Lib.hid (contains_int (L.take k) k A cap x w (HR.out.take k) htl (by omega) b2 hb2)
      rw [hb1, hb2] at hrow
      obtain ⟨b0, off, rfl, hat⟩ := HR.out (by rw [HN.out]; omega)
      have r0 := RowInts.at_ hat hx
      have HRow := Lib.hid hrow
      have HBad := Lib.hid (fun (e : ordRow m L k = false) => show b = false by rw [← HV.out]; exact orderB_row (by rw [HN.out]; exact hlt) e)
      have HOk := Lib.hid (fun (e : ordRow m L k = true) => show Hid ((List.range (k + 1)).all (ordRow m L) = true) by show _ = true; rw [all_range_succ, HG.out, e]; rfl)
      clear hat hx hgd hrow hb1 hb2 htl
      have hk0 : (0 : Int) ≤ (k : Int) := by omega
      have hkn : (k : Int) < (n : Int) := by omega
      have hkc : (k : Int) ≤ (cap : Int) := by omega
      cases b1
      · have e2 := HBad.out (by rw [HRow.out]; rfl)
        have E2 := Lib.hid e2
        clear e2
        go_wp2_with fail
        refine (HI.out _).mono ?_
        rintro e w1 ⟨rfl, rfl⟩
        go_wp2_with fail
        go_ret
        exact ⟨by rw [E2.out]; rfl, rfl⟩
      · cases b2
        · have Hq := HOk.out (by rw [HRow.out]; rfl)
          go_wp2_with fail
          refine (HI.out _).mono ?_
          rintro e w1 ⟨rfl, rfl⟩
          go_wp2_with fail
          refine HC.out.mono ?_
          rintro e w1 ⟨rfl, rfl⟩
          go_wp2_with fail
          go_round
          case rel => exact ⟨k + 1, by omega, by go_num, Hq⟩
          case measure => simp [intOf]; omega
        · have e2 := HBad.out (by rw [HRow.out]; rfl)
          have E2 := Lib.hid e2
          clear e2
          go_wp2_with fail
          refine (HI.out _).mono ?_
          rintro e w1 ⟨rfl, rfl⟩
          go_wp2_with fail
          refine HC.out.mono ?_
          rintro e w1 ⟨rfl, rfl⟩
          go_wp2_with fail
          go_ret
          exact ⟨by rw [E2.out]; rfl, rfl⟩
    · have hge : ¬ ((k : Int) < (n : Int)) := by omega
      have e1 : b = ((n : Int) == (m : Int)) := by
        have h1 := HG.out
        rw [show k = n by omega] at h1
        rw [← HV.out, orderB, HN.out, h1, Bool.true_and, Bool.eq_iff_iff, decide_eq_true_eq, beq_iff_eq]
        omega
      subst e1
      go_wp2
      go_ret
      exact ⟨rfl, rfl⟩
set_option maxHeartbeats 2000000 in
theorem validOrder_calls (L : List Int) (m : Nat) (A : Option Addr) (n cap : Nat) (w : World) (hr : RowInts w A L) (hn : L.length = n) (hl : n ≤ 1048576) (hcap : n ≤ cap) (hm : m ≤ 1048576) (b : Bool) (hb : orderB m L = b) :
    Calls Try.prog 56 #[.int .i64 m, .slice A n cap] w fun e w' => e = .returned (.bool b) ∧ Below w.heap.size w w' := by
  have HR := Lib.hid hr
  have HN := Lib.hid hn
  have HV := Lib.hid hb
  clear hr hn hb
  have hlen : (n : Int) ≤ 1048576 := by omega
  have hm' : (m : Int) ≤ 1048576 := by omega
  have hm0 : (0 : Int) ≤ (m : Int) := by omega
  have hwm : IntKind.i64.wrap ((m : Int) - 1) = (m : Int) - 1 := IntWalk.i64_in _ (by omega)
  go_enter Try.func56, Try.ntmps56
  go_wp2
  go_loopw [5] (fun i wr => ∃ k : Nat, k ≤ n ∧ i = .int .i64 k ∧ Below w.heap.size w wr ∧ Hid ((List.range k).all (ordRow m L) = true)) (fun i _ => n - (intOf i).toNat)
  case atStart => exact ⟨0, by omega, rfl, Below.refl _ _, rfl⟩
  case round =>
    obtain ⟨k, hk, rfl, hb, HG⟩ := hrel
    by_cases hlt : k < n
    · obtain ⟨x, hx⟩ : ∃ y, L[k]? = some y := ⟨L[k]'(by rw [HN.out]; exact hlt), List.getElem?_eq_getElem _⟩
      have hgd : L.getD k 0 = x := by rw [List.getD, hx]; rfl
      have hrow : ordRow m L k = (inB x 0 ((m : Int) - 1) && !((L.take k).any (· == x))) := by rw [ordRow, hgd]
      have htl : (L.take k).length = k := by rw [List.length_take, HN.out]; omega
      obtain ⟨b1, hb1⟩ : ∃ b, inB x 0 ((m : Int) - 1) = b := ⟨_, rfl⟩
      obtain ⟨b2, hb2⟩ : ∃ b, (L.take k).any (· == x) = b := ⟨_, rfl⟩
      have HI := Lib.hid (fun (W : World) => hb1 ▸ inRange_calls x 0 ((m : Int) - 1) W)
      have HC := Lib.hid (fun (W : World) (hW : RowInts W A L) => hasInt_calls (L.take k) k A cap x W (hW.take k) htl (by omega) b2 hb2)
      have HRW := Lib.hid (HR.out.below hb)
      rw [hb1, hb2] at hrow
      obtain ⟨b0, off, rfl, hat⟩ := HR.out (by rw [HN.out]; omega)
      have r0 := cell_below hb (RowInts.at_ hat hx)
      have hbz : b0 < wr.heap.size := World.block_lt_of_cell? _ _ r0
      have HRow := Lib.hid hrow
      have HBad := Lib.hid (fun (e : ordRow m L k = false) => show b = false by rw [← HV.out]; exact orderB_row (by rw [HN.out]; exact hlt) e)
      have HOk := Lib.hid (fun (e : ordRow m L k = true) => show Hid ((List.range (k + 1)).all (ordRow m L) = true) by show _ = true; rw [all_range_succ, HG.out, e]; rfl)
      have Hb := Lib.hid hb
      clear hat hx hgd hrow hb1 hb2 htl hb
      have hk0 : (0 : Int) ≤ (k : Int) := by omega
      have hkn : (k : Int) < (n : Int) := by omega
      have hkc : (k : Int) ≤ (cap : Int) := by omega
      rcases two_ways' b1 b2 with q1 | ⟨q1, q2⟩ | ⟨q1, q2⟩
      all_goals
        subst q1
        try subst q2
        go_wp2_with fail
        refine wp_region_grow (by kernel_rfl) (by kernel_rfl) ?_
        repeat (go_big_quiet_step ((first | (go_at_call 76; exact Calls.ext_same (HI.out _)) | (go_at_call 77; exact Calls.ext_same (HC.out _ (HRW.out.below (Wx.h _)))))))
        refine wpQuiet_end ?_
        intro w3 hb3
        go_wp2_with fail
        first
          | (go_ret
             have e2 := HBad.out (by rw [HRow.out]; rfl)
             exact ⟨by rw [e2]; rfl, below_trans' Hb.out hb3⟩)
          | (have Hq := HOk.out (by rw [HRow.out]; rfl)
             go_roundw
             case rel => exact ⟨k + 1, by omega, by go_num, below_trans' Hb.out hb3, Hq⟩
             case measure => simp [intOf]; omega)
    · have hge : ¬ ((k : Int) < (n : Int)) := by omega
      have e1 : b = ((n : Int) == (m : Int)) := by
        have h1 := HG.out
        rw [show k = n by omega] at h1
        rw [← HV.out, orderB, HN.out, h1, Bool.true_and, Bool.eq_iff_iff, decide_eq_true_eq, beq_iff_eq]
        omega
      subst e1
      have Hb := Lib.hid hb
      clear hb
      go_wp2
      go_ret
      exact ⟨rfl, Hb.out⟩
end Go.Proofs.Ytoeecaeaobfhmaa
