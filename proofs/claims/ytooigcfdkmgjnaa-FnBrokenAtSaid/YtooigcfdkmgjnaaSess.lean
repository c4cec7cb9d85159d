/-
  What the program's closed computes on the causes that a pointer's struct holds. Asked: at most 20 rows, each less than 2 to the 20.
-/
import Derived.Test.YtooigcfdkmgjnaaCauP
import Derived.Test.YtooigcfdkmgjnaaIntS
import Derived.BigGuardPart
namespace Go.Proofs.Ytooigcfdkmgjnaa
open Go.RowKit
set_option maxRecDepth 100000

set_option maxHeartbeats 1000000 in
theorem closed_calls (g : Nat) (L : List Nat) (l set : Nat) (Ar : Option Addr) (cr : Nat) (w : World) (hcell : w.cell? ⟨g, 8, none⟩ = some (.slice Ar l cr)) (hr : RowInts w Ar (L.map Int.ofNat)) (hll : L.length = l) (hl : l ≤ 20) (hs : set < 2 ^ 20) (hL : ∀ j, L.getD j 0 < 2 ^ 20) :
    Calls Try.prog 49 #[.pointer (some ⟨g, 0, none⟩), .int .i64 set] w fun e w' => e = .returned (.int .i64 (cauK set L set l)) ∧ w = w' := by
  have hgz : g < w.heap.size := World.block_lt_of_cell? _ _ hcell
  have HR := Lib.hid hr
  have HLL := Lib.hid hll
  have HL := Lib.hid hL
  have HK := Lib.hid (cauK_lt set L set 20 hs hL)
  clear hr hll hL
  have hlen : (l : Int) ≤ 20 := by omega
  have hs60 : set < 2 ^ 60 := by omega
  have hst : cauK set L set 0 = set := rfl
  go_enter Try.func49, Try.ntmps49
  go_wp2
  go_loop [5, 14] (fun m j => ∃ k : Nat, k ≤ l ∧ j = .int .i64 k ∧ m = .int .i64 (cauK set L set k)) (fun _ j => l - (intOf j).toNat)
  case atStart => exact ⟨0, by omega, rfl, by rw [hst]⟩
  case round =>
    obtain ⟨j, hj, rfl, rfl⟩ := hrel
    by_cases hlt : j < l
    · obtain ⟨gb, goff, rfl, hgat⟩ := HR.out (by rw [List.length_map, HLL.out]; omega)
      have hget : (L.map Int.ofNat)[j]? = some ((L.getD j 0 : Nat) : Int) := by
        rw [List.getElem?_map, List.getD, List.getElem?_eq_getElem (by rw [HLL.out]; exact hlt)]; rfl
      have r0 := RowInts.at_ hgat hget
      have hks : cauK set L set (j + 1) = if bitN set j = 1 then cauK set L set j ||| L.getD j 0 else cauK set L set j := rfl
      have hk1 := HK.out j
      have hk2 := HL.out j
      have hor := i64_or_nat (cauK set L set j) (L.getD j 0) (by omega) (by omega)
      have hbit := bit_and hs60 j
      have hbl := bitN_le set j
      generalize cauK set L set j = s at *
      generalize L.getD j 0 = t at *
      generalize bitN set j = bb at *
      have Hks := Lib.hid hks
      clear hgat hget hks hk1 hk2 hst
      have hj0 : (0 : Int) ≤ (j : Int) := by omega
      have hj64 : (j : Int) ≤ 64 := by omega
      have hjl : (j : Int) < (l : Int) := by omega
      have hbb : bb = 0 ∨ bb = 1 := by omega
      rcases hbb with rfl | rfl
      all_goals
        go_wp2
        first
          | exact ⟨⟨j + 1, by omega, by go_num, by rw [Hks.out]; simp⟩, by simp [intOf]; omega⟩
          | (go_round
             case rel => exact ⟨j + 1, by omega, by go_num, by rw [Hks.out]; simp⟩
             case measure => simp [intOf]; omega)
    · have hge : ¬ ((j : Int) < (l : Int)) := by omega
      have e1 : j = l := by omega
      subst e1
      go_wp2
      go_ret
      exact ⟨rfl, rfl⟩
end Go.Proofs.Ytooigcfdkmgjnaa
