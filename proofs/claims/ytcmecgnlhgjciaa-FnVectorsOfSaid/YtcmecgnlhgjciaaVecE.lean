/-
  Equality of slices of slices of three numbers, as the laws ask it. No condition but sizes.
-/
import Derived.Test.YtcmecgnlhgjciaaVecS
import Derived.Test.YtcmecgnlhgjciaaLawI
namespace Go.Proofs.Ytcmecgnlhgjciaa
open Go.RowKit
set_option maxRecDepth 100000

set_option maxHeartbeats 1000000 in
theorem equalLists_same (L : List (List Int)) (base base' : Nat) (A B : Option Addr) (n c c' : Nat) (bs bs' : List Nat) (w : World) (hA : Vecs w base A n c bs L) (hB : Vecs w base' B n c' bs' L) (hn : n ≤ 1048576) :
    Calls Try.prog 45 #[.slice A n c, .slice B n c'] w fun e w' => e = .returned (.bool true) ∧ Below w.heap.size w w' := by
  have HA := Lib.hid hA
  have HB := Lib.hid hB
  clear hA hB
  have hlen : (n : Int) ≤ 1048576 := by omega
  go_enter Try.func45, Try.ntmps45
  go_wp2
  go_loopw [5] (fun i wr => ∃ k : Nat, k ≤ n ∧ i = .int .i64 k ∧ Below w.heap.size w wr) (fun i _ => n - (intOf i).toNat)
  case atStart => exact ⟨0, by omega, rfl, Below.refl _ _⟩
  case round =>
    obtain ⟨k, hk, rfl, hb⟩ := hrel
    by_cases hlt : k < n
    · have hA := HA.out.below hb
      have hB := HB.out.below hb
      obtain ⟨b1, r, h1, h2, h3⟩ := hA.get hlt
      obtain ⟨b2, r', h1', h2', _⟩ := hB.get hlt
      have e : r' = r := by rw [h2] at h2'; injection h2' with h; exact h.symm
      subst e
      obtain ⟨ga, rfl, ca, la⟩ := hA.cell h1
      obtain ⟨gb, rfl, cb, lb⟩ := hB.cell h1'
      have HRa := Lib.hid (hA.row h1 h2)
      have HRb := Lib.hid (hB.row h1' h2')
      have Hb := Lib.hid hb
      rw [rowV] at ca cb
      have HE := Lib.hid (fun (W : World) (h1 : RowInts W (some ⟨b1, 0, none⟩) r') (h2 : RowInts W (some ⟨b2, 0, none⟩) r') => equalInts_same r' (some ⟨b1, 0, none⟩) (some ⟨b2, 0, none⟩) 3 3 W h1 h2 (by omega))
      rw [h3] at HE
      clear hA hB h1 h2 h1' h2' hb h3
      have hk0 : (0 : Int) ≤ (k : Int) := by omega
      have hkn : (k : Int) < (n : Int) := by omega
      go_wp2_with fail
      refine wp_region_grow (by kernel_rfl) (by kernel_rfl) ?_
      repeat (go_big_quiet_step ((go_at_call 28; exact Calls.ext_of (Nat.le_refl _) (HE.out _ (HRa.out.below (Wx.h _)) (HRb.out.below (Wx.h _))))))
      refine wpQuiet_end ?_
      intro w3 hb3
      go_wp2_with fail
      go_roundw
      case rel => exact ⟨k + 1, by omega, by go_num, below_trans' Hb.out hb3⟩
      case measure => simp [intOf]; omega
    · have hge : ¬ ((k : Int) < (n : Int)) := by omega
      have Hb := Lib.hid hb
      clear hb
      go_wp2
      go_ret
      exact ⟨rfl, Hb.out⟩
end Go.Proofs.Ytcmecgnlhgjciaa
