/-
  Whether a string is one of some, as slices.Contains tells. No condition but lengths of at most 2 to the 20.
-/
import Derived.Test.YtooigcfdkmgjnaaData
import Derived.Test.YtooigcfdkmgjnaaRows
import Derived.OwnWalk
namespace Go.Proofs.Ytooigcfdkmgjnaa
open Go.RowKit
set_option maxRecDepth 100000

/-! ### is a string one of some -/
def inS (p : ByteArray) (ss : List ByteArray) : Bool := ss.any fun s => p.toList == s.toList
set_option maxHeartbeats 1000000 in
theorem index_str (ss : List ByteArray) (p : ByteArray) (b n cap : Nat) (w : World) (hc : ∀ k s, ss[k]? = some s → w.cell? ⟨b, k, none⟩ = some (.string s)) (hn : ss.length = n) (hl : n ≤ 100) :
    Calls Try.prog 62 #[.slice (some ⟨b, 0, none⟩) n cap, .string p] w fun e w' => (∃ v : Int, e = .returned (.int .i64 v) ∧ decide (0 ≤ v) = inS p ss) ∧ w = w' := by
  have HC := Lib.hid hc
  have Hn := Lib.hid hn
  clear hc hn
  have hlen : (n : Int) ≤ 100 := by omega
  go_enter Try.func62, Try.ntmps62
  go_wp2
  go_loop [8] (fun i => ∃ k : Nat, k ≤ n ∧ i = .int .i64 k ∧ Hid (inS p (ss.take k) = false)) (fun i => n - (intOf i).toNat)
  case atStart => exact ⟨0, by omega, rfl, by show _ = _; simp [inS]⟩
  case round =>
    obtain ⟨k, hk, rfl, HK⟩ := hrel
    by_cases hlt : k < n
    · obtain ⟨s, hs⟩ : ∃ y, ss[k]? = some y := ⟨ss[k]'(by have := Hn.out; omega), List.getElem?_eq_getElem _⟩
      have r0 := HC.out k s hs
      have hst : inS p (ss.take (k + 1)) = (p.toList == s.toList) := by
        have h0 := HK.out
        unfold inS at h0 ⊢
        rw [List.take_add_one, hs, List.any_append, h0]; simp
      have hal : (p.toList == s.toList) = true → inS p ss = true := fun e => List.any_eq_true.2 ⟨s, List.mem_of_getElem? hs, e⟩
      have Hst := Lib.hid hst
      have Hal := Lib.hid hal
      clear hs hst hal
      have hk0 : (0 : Int) ≤ (k : Int) := by omega
      have hkn : (k : Int) < (n : Int) := by omega
      cases hq : (p.toList == s.toList)
      · have Hq : Hid (inS p (ss.take (k + 1)) = false) := by show _ = _; rw [Hst.out]; exact hq
        go_wp2
        go_round
        case rel => exact ⟨k + 1, by omega, by go_num, Hq⟩
        case measure => simp [intOf]; omega
      · have Hq := Lib.hid (Hal.out hq)
        go_wp2
        go_ret
        exact ⟨⟨(k : Int), rfl, by rw [Hq.out]; simp⟩, rfl⟩
    · have hge : ¬ ((k : Int) < (n : Int)) := by omega
      have e1 : inS p ss = false := by
        have := HK.out
        rwa [List.take_of_length_le (by have := Hn.out; omega)] at this
      have E1 := Lib.hid e1
      clear e1
      go_wp2
      go_ret
      exact ⟨⟨-1, rfl, by rw [E1.out]; rfl⟩, rfl⟩
theorem contains_str (ss : List ByteArray) (p : ByteArray) (b n cap : Nat) (w : World) (hc : ∀ k s, ss[k]? = some s → w.cell? ⟨b, k, none⟩ = some (.string s)) (hn : ss.length = n) (hl : n ≤ 100) (v : Bool) (hv : inS p ss = v) :
    Calls Try.prog 53 #[.slice (some ⟨b, 0, none⟩) n cap, .string p] w fun e w' => e = .returned (.bool v) ∧ w = w' := by
  have HI := Lib.hid (index_str ss p b n cap w hc hn hl)
  have HV := Lib.hid hv
  clear hc hn hv
  go_enter Try.func53, Try.ntmps53
  go_wp2_with fail
  refine HI.out.mono ?_
  rintro e w1 ⟨⟨x, rfl, hx⟩, rfl⟩
  rw [HV.out] at hx
  go_wp2_with fail
  go_ret
  exact ⟨rfl, rfl⟩
def pr4 : List ByteArray := [{ data := #[111, 119, 110] }, { data := #[115, 116, 101, 97, 100, 121] }, { data := #[114, 111, 119] }, { data := #[102, 111, 108, 108, 111, 119] }]
theorem pr4_cells (w : World) : ∀ k s, pr4[k]? = some s → (w.alloc (.cells #[.string { data := #[111, 119, 110] }, .string { data := #[115, 116, 101, 97, 100, 121] }, .string { data := #[114, 111, 119] }, .string { data := #[102, 111, 108, 108, 111, 119] }] 9)).cell? ⟨w.heap.size, k, none⟩ = some (.string s) := by
  intro k s hs
  rw [World.cell?_alloc_new]
  match k, hs with
  | 0, hs => simp [pr4] at hs; subst hs; rfl
  | 1, hs => simp [pr4] at hs; subst hs; rfl
  | 2, hs => simp [pr4] at hs; subst hs; rfl
  | 3, hs => simp [pr4] at hs; subst hs; rfl
  | k + 4, hs => simp [pr4] at hs
theorem in_own {p : ByteArray} (h : p.toList = [111, 119, 110]) : inS p pr4 = true := by simp [inS, pr4, h]
theorem in_steady {p : ByteArray} (h : p.toList = [115, 116, 101, 97, 100, 121]) : inS p pr4 = true := by simp [inS, pr4, h]
theorem in_row {p : ByteArray} (h : p.toList = [114, 111, 119]) : inS p pr4 = true := by simp [inS, pr4, h]
theorem in_follow {p : ByteArray} (h : p.toList = [102, 111, 108, 108, 111, 119]) : inS p pr4 = true := by simp [inS, pr4, h]
theorem in_none {p : ByteArray} (h1 : ¬ p.toList = [111, 119, 110]) (h2 : ¬ p.toList = [115, 116, 101, 97, 100, 121]) (h3 : ¬ p.toList = [114, 111, 119]) (h4 : ¬ p.toList = [102, 111, 108, 108, 111, 119]) : inS p pr4 = false := by simp [inS, pr4, h1, h2, h3, h4]
end Go.Proofs.Ytooigcfdkmgjnaa
