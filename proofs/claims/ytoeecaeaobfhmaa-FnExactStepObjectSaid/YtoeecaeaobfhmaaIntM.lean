/-
  The law package's copy of a slice of numbers. No condition but a length of at most 2 to the 20.
-/
import Derived.Test.YtoeecaeaobfhmaaIntS
import Derived.Test.YtoeecaeaobfhmaaMkInt
namespace Go.Proofs.Ytoeecaeaobfhmaa
open Go.RowKit
set_option maxRecDepth 100000

theorem ints_take_len {h : List Int} {k n : Nat} (hn : h.length = n) (hk : k ≤ n) : ((h.take k).flatMap intVals).length = k * 1 := by
  rw [flat_len (vals := intVals) (sz := 1) _ (fun _ _ => rfl), List.length_take, hn, Nat.min_eq_left hk]
theorem ints_take_succ {h : List Int} {k : Nat} {c : Int} (hc : h[k]? = some c) : (h.take (k + 1)).flatMap intVals = (h.take k).flatMap intVals ++ [.int .i64 c] := by
  rw [List.take_add_one, hc, List.flatMap_append]; simp [intVals]
theorem info_int : (Try.prog.info? 3).map (fun i => (i.zero, i.size, i.bytes)) = some (some (.int .i64 0), 1, 8) := by kernel_rfl

set_option maxHeartbeats 1000000 in
theorem toIntS_calls (cs : List Int) (A : Option Addr) (cap : Nat) (w : World) (hr : RowInts w A cs) (hl : cs.length ≤ 1048576) :
    Calls Try.prog 29 #[.slice A cs.length cap] w fun e w' => ∃ g, e = .returned (.slice (some ⟨g, 0, none⟩) cs.length cs.length) ∧ OwnInts w' w.heap.size (.slice (some ⟨g, 0, none⟩) cs.length cs.length) cs ∧ Below w.heap.size w w' := by
  obtain ⟨i0, hi0, hz0, hz1, hz2⟩ := info_parts info_int
  have HR := Lib.hid hr
  clear hr
  generalize hn : cs.length = n at *
  have Hn := Lib.hid hn
  clear hn
  have hlen : (n : Int) ≤ 1048576 := by omega
  go_enter Try.func29, Try.ntmps29
  go_wp2_with (at_make; refine wpList_make_full _ rfl _ _ 24 rfl w.heap.size 3 i0 _ 1 Try.underlying24 hi0 hz0 hz1 _ _ _ _ n rfl rfl rfl rfl (by rw [hz2]; omega) (by unfold maxLen; omega) (Nat.le_refl _) ?_; intro w1 hown hgrow)
  have hg1 : w.heap.size < w1.heap.size := (hown.lt _ rfl).2
  have hf1 : Fill w1 w.heap.size 3 (n * 1) [] := Fill.start hown
  have hb1 : Below w.heap.size w w1 := (Below.refl _ _).grown hgrow (Nat.le_refl _) (by simp)
  clear hown hgrow
  go_loopw [4] (fun i wr => ∃ k : Nat, k ≤ n ∧ i = .int .i64 k ∧ Below w.heap.size w wr ∧ Fill wr w.heap.size 3 (n * 1) ((cs.take k).flatMap intVals)) (fun i _ => n - (intOf i).toNat)
  case atStart => exact ⟨0, by omega, rfl, hb1, by simpa using hf1⟩
  case round =>
    clear hf1 hb1 hg1
    obtain ⟨k, hk, rfl, hb, hf⟩ := hrel
    by_cases hlt : k < n
    · obtain ⟨b, off, rfl, hat⟩ := HR.out (by have := Hn.out; omega)
      obtain ⟨c, hc⟩ : ∃ c, cs[k]? = some c := ⟨cs[k]'(by have := Hn.out; omega), List.getElem?_eq_getElem _⟩
      have x0 := cell_below hb (RowInts.at_ hat hc)
      clear HR hat
      have Hc := Lib.hid hc
      clear hc
      have Hb := Lib.hid hb
      clear hb
      have hk0 : (0 : Int) ≤ (k : Int) := by omega
      have hkn : (k : Int) < (n : Int) := by omega
      have hsz := hf.lt
      go_wp2_with (first
        | (refine wpList_store_fill rfl _ _ _ rfl rfl w.heap.size k _ _ _ [.int .i64 c] rfl rfl mkInt_size_int (mkInt_one _) hf (by rw [ints_take_len Hn.out (by omega)]; omega) (by simp only [List.length_cons, List.length_nil]; omega) ?_; intro w3 hf3 hg3))
      go_roundw
      case rel =>
        refine ⟨k + 1, by omega, by go_num, ?_, by rw [ints_take_succ Hc.out]; exact hf3⟩
        exact Hb.out.grown hg3 (by have := Hb.out.size; omega) (by simp)
      case measure => simp [intOf]; omega
    · have hkn : k = n := by omega
      subst hkn
      have hlt' : ¬ ((k : Int) < (k : Int)) := by omega
      go_wp2
      go_ret
      refine ⟨w.heap.size, rfl, ?_, hb⟩
      have h1 := hf.own (by rw [ints_take_len Hn.out (Nat.le_refl _)]) (Nat.le_refl _) (by unfold maxLen; omega)
      unfold OwnInts
      rw [List.take_of_length_le (by have := Hn.out; omega)] at h1
      rw [Hn.out]
      exact h1
end Go.Proofs.Ytoeecaeaobfhmaa
