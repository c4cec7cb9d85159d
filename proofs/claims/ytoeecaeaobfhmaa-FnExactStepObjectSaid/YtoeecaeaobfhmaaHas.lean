/-
  Whether a number is in a list, asked by the reference. No condition but lengths of at most 2 to the 20.
-/
import Derived.Test.YtoeecaeaobfhmaaData
import Derived.Test.YtoeecaeaobfhmaaRows
namespace Go.Proofs.Ytoeecaeaobfhmaa
open Go.RowKit
set_option maxRecDepth 100000

/-! ### is a number in a list -/
set_option maxHeartbeats 1000000 in
theorem hasInt_of (L : List Int) (n : Nat) (A : Option Addr) (cap : Nat) (x : Int) (w : World) (hr : RowInts w A L) (hn : L.length = n) (hl : n ≤ 1048576) :
    Calls Try.prog 77 #[.slice A n cap, .int .i64 x] w fun e w' => e = .returned (.bool (L.any (· == x))) ∧ w = w' := by
  have HR := Lib.hid hr
  have HN := Lib.hid hn
  clear hr hn
  have hlen : (n : Int) ≤ 1048576 := by omega
  go_enter Try.func77, Try.ntmps77
  go_wp2
  go_loop [5] (fun i => ∃ k : Nat, k ≤ n ∧ i = .int .i64 k ∧ Hid ((L.take k).any (· == x) = false)) (fun i => n - (intOf i).toNat)
  case atStart => exact ⟨0, by omega, rfl, by show _ = _; simp⟩
  case round =>
    obtain ⟨k, hk, rfl, HK⟩ := hrel
    by_cases hlt : k < n
    · obtain ⟨b, off, rfl, hat⟩ := HR.out (by rw [HN.out]; omega)
      obtain ⟨y, hy⟩ : ∃ y, L[k]? = some y := ⟨L[k]'(by rw [HN.out]; exact hlt), List.getElem?_eq_getElem _⟩
      have r0 := RowInts.at_ hat hy
      have hst : (L.take (k + 1)).any (· == x) = ((L.take k).any (· == x) || y == x) := by rw [List.take_add_one, hy, List.any_append]; simp
      have hal : (y == x) = true → L.any (· == x) = true := fun e => List.any_eq_true.2 ⟨y, List.mem_of_getElem? hy, e⟩
      have Hst := Lib.hid hst
      have Hal := Lib.hid hal
      clear hat hy hst hal
      have hk0 : (0 : Int) ≤ (k : Int) := by omega
      have hkn : (k : Int) < (n : Int) := by omega
      cases hq : (y == x)
      · have Hq := Lib.hid hq
        go_wp2
        go_round
        case rel => exact ⟨k + 1, by omega, by go_num, by show _ = _; rw [Hst.out, HK.out, Hq.out]; rfl⟩
        case measure => simp [intOf]; omega
      · have Hq := Lib.hid hq
        go_wp2
        go_ret
        exact ⟨by rw [Hal.out Hq.out]; rfl, rfl⟩
    · have hge : ¬ ((k : Int) < (n : Int)) := by omega
      have e1 : L.any (· == x) = false := by
        have := HK.out
        rwa [List.take_of_length_le (by rw [HN.out]; omega)] at this
      have E1 := Lib.hid e1
      clear e1
      go_wp2
      go_ret
      exact ⟨by rw [E1.out]; rfl, rfl⟩
end Go.Proofs.Ytoeecaeaobfhmaa
