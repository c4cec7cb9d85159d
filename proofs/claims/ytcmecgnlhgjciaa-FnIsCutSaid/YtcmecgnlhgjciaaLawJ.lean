/-
  The law package's own helpers: a number in a list; an ascending list. Asked: lengths of at most 2 to the 20.
-/
import Derived.Test.YtcmecgnlhgjciaaLawI
namespace Go.Proofs.Ytcmecgnlhgjciaa
open Go.RowKit
set_option maxRecDepth 100000

set_option maxHeartbeats 1000000 in
theorem isIn_calls (L : List Int) (n : Nat) (A : Option Addr) (cap : Nat) (x : Int) (w : World) (hr : RowInts w A L) (hn : L.length = n) (hl : n ≤ 1048576) (b : Bool) (hb : L.any (· == x) = b) :
    Calls Try.prog 37 #[.slice A n cap, .int .i64 x] w fun e w' => e = .returned (.bool b) ∧ w = w' := by
  subst hb
  have HR := Lib.hid hr
  have HN := Lib.hid hn
  clear hr hn
  have hlen : (n : Int) ≤ 1048576 := by omega
  go_enter Try.func37, Try.ntmps37
  go_wp2
  go_loop [5] (fun i => ∃ k : Nat, k ≤ n ∧ i = .int .i64 k ∧ Hid ((L.take k).any (· == x) = false)) (fun i => n - (intOf i).toNat)
  case atStart => exact ⟨0, by omega, rfl, by show _ = _; simp⟩
  case round =>
    obtain ⟨k, hk, rfl, HK⟩ := hrel
    by_cases hlt : k < n
    · obtain ⟨b, off, rfl, hat⟩ := HR.out (by rw [HN.out]; omega)
      obtain ⟨y, hy⟩ : ∃ y, L[k]? = some y := ⟨L[k]'(by rw [HN.out]; exact hlt), List.getElem?_eq_getElem _⟩
      have r0 := RowInts.at_ hat hy
      have hst : (L.take (k + 1)).any (· == x) = ((L.take k).any (· == x) || y == x) := by rw [List.take_add_one, hy, List.any_append]; simp
      have hal : (y == x) = true → L.any (· == x) = true := fun e => List.any_eq_true.2 ⟨y, List.mem_of_getElem? hy, e⟩
      have Hst := Lib.hid hst
      have Hal := Lib.hid hal
      clear hat hy hst hal
      have hk0 : (0 : Int) ≤ (k : Int) := by omega
      have hkn : (k : Int) < (n : Int) := by omega
      cases hq : (y == x)
      · have Hq := Lib.hid hq
        go_wp2
        go_round
        case rel => exact ⟨k + 1, by omega, by go_num, by show _ = _; rw [Hst.out, HK.out, Hq.out]; rfl⟩
        case measure => simp [intOf]; omega
      · have Hq := Lib.hid hq
        go_wp2
        go_ret
        exact ⟨by rw [Hal.out Hq.out]; rfl, rfl⟩
    · have hge : ¬ ((k : Int) < (n : Int)) := by omega
      have e1 : L.any (· == x) = false := by
        have := HK.out
        rwa [List.take_of_length_le (by rw [HN.out]; omega)] at this
      have E1 := Lib.hid e1
      clear e1
      go_wp2
      go_ret
      exact ⟨by rw [E1.out]; rfl, rfl⟩

set_option maxHeartbeats 1000000 in
theorem ascends_calls (L : List Int) (n : Nat) (A : Option Addr) (cap : Nat) (w : World) (hr : RowInts w A L) (hn : L.length = n) (hl : n ≤ 1048576) (hp : ∀ (i : Nat) (x y : Int), L[i]? = some x → L[i + 1]? = some y → x < y) :
    Calls Try.prog 48 #[.slice A n cap] w fun e w' => e = .returned (.bool true) ∧ Below w.heap.size w w' := by
  have HR := Lib.hid hr
  have HN := Lib.hid hn
  have HP := Lib.hid hp
  clear hr hn hp
  have hlen : (n : Int) ≤ 1048576 := by omega
  go_enter Try.func48, Try.ntmps48
  go_wp2
  go_loopw [3] (fun i wr => ∃ k : Nat, i = .int .i64 ((k + 1 : Nat) : Int) ∧ k ≤ n ∧ Below w.heap.size w wr) (fun i _ => n + 1 - (intOf i).toNat)
  case atStart => exact ⟨0, rfl, by omega, Below.refl _ _⟩
  case round =>
    obtain ⟨k, rfl, hk, hb⟩ := hrel
    by_cases hlt : k + 1 < n
    · obtain ⟨b, off, rfl, hat⟩ := HR.out (by rw [HN.out]; omega)
      obtain ⟨x, hx⟩ : ∃ y, L[k]? = some y := ⟨L[k]'(by rw [HN.out]; omega), List.getElem?_eq_getElem _⟩
      obtain ⟨y, hy⟩ : ∃ y, L[k + 1]? = some y := ⟨L[k + 1]'(by rw [HN.out]; omega), List.getElem?_eq_getElem _⟩
      have r0 := cell_below hb (RowInts.at_ hat hx)
      have r1 := cell_below hb (RowInts.at_ hat hy)
      have hbl : b < wr.heap.size := World.block_lt_of_cell? _ _ r0
      have hxy : ¬ y ≤ x := by have := HP.out k x y hx hy; omega
      have hxd : decide (y ≤ x) = false := by simpa using hxy
      have Hb := Lib.hid hb
      clear hat hx hy hb HR
      have hk0 : (0 : Int) ≤ (k : Int) := by omega
      have hkn : ((k + 1 : Nat) : Int) < (n : Int) := by omega
      have e1 : ((k + 1 : Nat) : Int) - 1 = (k : Int) := by omega
      go_wp2_with fail
      refine wp_region_grow (by kernel_rfl) (by kernel_rfl) ?_
      repeat (go_big_quiet_step (fail))
      refine wpQuiet_end ?_
      intro w1 hb1
      go_wp2_with fail
      go_roundw
      case rel => exact ⟨k + 1, by go_num, by omega, below_trans' Hb.out hb1⟩
      case measure => simp [intOf]; omega
    · have hge : ¬ (((k + 1 : Nat) : Int) < (n : Int)) := by omega
      have Hb := Lib.hid hb
      clear hb
      go_wp2
      go_ret
      exact ⟨rfl, Hb.out⟩
end Go.Proofs.Ytcmecgnlhgjciaa
