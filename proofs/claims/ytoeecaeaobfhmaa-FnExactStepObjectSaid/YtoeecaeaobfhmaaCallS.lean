/-
  What the law package's helpers on slices of calls compute: their size, a copy, equality of a slice with one that reads the same. No condition but lengths of at most 2 to the 20.
-/
import Derived.Test.YtoeecaeaobfhmaaSmall
import Derived.Test.YtoeecaeaobfhmaaOwn
namespace Go.Proofs.Ytoeecaeaobfhmaa
open Go.RowKit
set_option maxRecDepth 100000

theorem szCallS_small (A : Option Addr) (n c : Nat) (w : World) (hn : n ≤ 1048576) : Calls Try.prog 13 #[.slice A n c, .int .i64 1048576] w fun e w' => e = .returned (.int .i64 (1048576 - n)) ∧ w = w' := by
  have h0 : (n : Int) ≤ 1048576 := by omega
  go_enter Try.func13, Try.ntmps13
  go_wp2
  go_ret
  exact ⟨rfl, rfl⟩
theorem szCallS_big (A : Option Addr) (n c : Nat) (w : World) (hn : 1048576 < n) (hm : n ≤ maxLen) : Calls Try.prog 13 #[.slice A n c, .int .i64 1048576] w fun e w' => e = .returned (.int .i64 (-1)) ∧ w = w' := by
  unfold maxLen at hm
  have h0 : (1048576 : Int) < (n : Int) := by omega
  have h1 : (n : Int) ≤ 9223372036854775807 := by omega
  go_enter Try.func13, Try.ntmps13
  go_wp2
  go_ret
  exact ⟨rfl, rfl⟩

theorem eqCall_same (c : CallD) (w : World) : Calls Try.prog 46 #[c.val, c.val] w fun e w' => e = .returned (.bool true) ∧ Below w.heap.size w w' := by
  go_enter Try.func46, Try.ntmps46
  go_wp2
  go_ret
  exact ⟨rfl, (by repeat (first | exact Below.refl _ _ | assumption | refine below_alloc ?_ _ | refine below_trans' ?_ (by assumption) | refine Below.drew ?_))⟩

theorem vals_one (c : CallD) : ∀ u ∈ c.vals, u.oneCell' = true := by
  intro u hu
  simp only [CallD.vals, List.mem_cons, List.not_mem_nil, or_false] at hu
  rcases hu with rfl | rfl | rfl | rfl | rfl | rfl | rfl <;> rfl
theorem info_impl_Call : (Try.prog.info? 45).map (fun i => (i.zero, i.size, i.bytes)) = some (some (.agg #[.int .i64 0, .int .i64 0, .int .i64 0, .int .i64 0, .int .i64 0, .int .i64 0, .int .i64 0]), 7, 56) := by kernel_rfl
theorem size_impl_Call : (Try.prog.info? 45).map (·.size) = some 7 := by kernel_rfl
theorem flat_take_len {h : List CallD} {k n : Nat} (hn : h.length = n) (hk : k ≤ n) : ((h.take k).flatMap CallD.vals).length = k * 7 := by
  rw [flat_len _ (fun c _ => CallD.vals_len c), List.length_take, hn, Nat.min_eq_left hk]
theorem flat_take_succ {h : List CallD} {k : Nat} {c : CallD} (hc : h[k]? = some c) : (h.take (k + 1)).flatMap CallD.vals = (h.take k).flatMap CallD.vals ++ c.vals := by
  rw [List.take_add_one, hc, List.flatMap_append]; simp
theorem take_snoc' {α : Type} {h : List α} {i : Nat} {c : α} (hi : h[i]? = some c) : h.take (i + 1) = h.take i ++ [c] := by
  rw [List.take_add_one, hi]; rfl

/-- A slice that the call made, its elements h. -/
def OwnCalls (w : World) (base : Nat) (v : Value) (h : List CallD) : Prop := w.ownsRow base 45 7 v h.length (h.flatMap CallD.vals)

set_option maxHeartbeats 1000000 in
theorem toCallS_calls (cs : List CallD) (A : Option Addr) (cap : Nat) (w : World) (hr : RowCalls w A cs) (hl : cs.length ≤ 1048576) :
    Calls Try.prog 15 #[.slice A cs.length cap] w fun e w' => ∃ g, e = .returned (.slice (some ⟨g, 0, none⟩) cs.length cs.length) ∧ OwnCalls w' w.heap.size (.slice (some ⟨g, 0, none⟩) cs.length cs.length) cs ∧ Below w.heap.size w w' := by
  obtain ⟨i0, hi0, hz0, hz1, hz2⟩ := info_parts info_impl_Call
  have HR := Lib.hid hr
  clear hr
  generalize hn : cs.length = n at *
  have Hn := Lib.hid hn
  clear hn
  have hlen : (n : Int) ≤ 1048576 := by omega
  go_enter Try.func15, Try.ntmps15
  go_wp2_with (at_make; refine wpList_make_full _ rfl _ _ 26 rfl w.heap.size 45 i0 _ 7 Try.underlying26 hi0 hz0 hz1 _ _ _ _ n rfl rfl rfl rfl (by rw [hz2]; omega) (by unfold maxLen; omega) (Nat.le_refl _) ?_; intro w1 hown hgrow)
  have hg1 : w.heap.size < w1.heap.size := (hown.lt _ rfl).2
  have hf1 : Fill w1 w.heap.size 45 (n * 7) [] := Fill.start hown
  have hb1 : Below w.heap.size w w1 := (Below.refl _ _).grown hgrow (Nat.le_refl _) (by simp)
  clear hown hgrow
  go_loopw [4] (fun i wr => ∃ k : Nat, k ≤ n ∧ i = .int .i64 k ∧ Below w.heap.size w wr ∧ Fill wr w.heap.size 45 (n * 7) ((cs.take k).flatMap CallD.vals)) (fun i _ => n - (intOf i).toNat)
  case atStart => exact ⟨0, by omega, rfl, hb1, by simpa using hf1⟩
  case round =>
    clear hf1 hb1 hg1
    obtain ⟨k, hk, rfl, hb, hf⟩ := hrel
    by_cases hlt : k < n
    · obtain ⟨b, off, rfl, hat⟩ := HR.out (by have := Hn.out; omega)
      obtain ⟨c, hc⟩ : ∃ c, cs[k]? = some c := ⟨cs[k]'(by have := Hn.out; omega), List.getElem?_eq_getElem _⟩
      have h7 := (RowCalls.at7 hat hc).below hb
      obtain ⟨x0, x1, x2, x3, x4, x5, x6⟩ := h7
      clear HR hat
      have Hc := Lib.hid hc
      clear hc
      have Hb := Lib.hid hb
      clear hb
      have hk0 : (0 : Int) ≤ (k : Int) := by omega
      have hkn : (k : Int) < (n : Int) := by omega
      have hsz := hf.lt
      go_wp2_with (first
        | (go_at_call 40; refine (toCall_calls c _).mono ?_; rintro e w2 ⟨rfl, hb2⟩; have hf2 := hf.below hb2 hsz)
        | (refine wpList_store_fill rfl _ _ _ rfl rfl w.heap.size (k * 7) _ _ _ c.vals rfl rfl size_impl_Call (vals_one c) hf2 (by rw [flat_take_len Hn.out (by omega)]) (by rw [CallD.vals_len]; omega) ?_; intro w3 hf3 hg3))
      go_roundw
      case rel =>
        refine ⟨k + 1, by omega, by go_num, ?_, by rw [flat_take_succ Hc.out]; exact hf3⟩
        exact ((Hb.out.trans (hb2.mono Hb.out.size)).grown hg3 (by have := Hb.out.size; have := hb2.size; omega) (by simp))
      case measure => simp [intOf]; omega
    · have hkn : k = n := by omega
      subst hkn
      have hlt' : ¬ ((k : Int) < (k : Int)) := by omega
      go_wp2
      go_ret
      refine ⟨w.heap.size, rfl, ?_, hb⟩
      have h1 := hf.own (by rw [flat_take_len Hn.out (Nat.le_refl _)]) (Nat.le_refl _) (by unfold maxLen; omega)
      unfold OwnCalls
      rw [Hn.out]
      rwa [List.take_of_length_le (by rw [Hn.out]; omega)] at h1

set_option maxHeartbeats 1000000 in
theorem eqCallS_same (cs : List CallD) (A B : Option Addr) (ca cb : Nat) (w : World) (ha : RowCalls w A cs) (hbb : RowCalls w B cs) (hl : cs.length ≤ 1048576) :
    Calls Try.prog 18 #[.slice A cs.length ca, .slice B cs.length cb] w fun e w' => e = .returned (.bool true) ∧ Below w.heap.size w w' := by
  have HA := Lib.hid ha
  have HB := Lib.hid hbb
  clear ha hbb
  generalize hn : cs.length = n at *
  have Hn := Lib.hid hn
  clear hn
  have hlen : (n : Int) ≤ 1048576 := by omega
  go_enter Try.func18, Try.ntmps18
  go_wp2
  go_loopw [5] (fun i wr => ∃ k : Nat, k ≤ n ∧ i = .int .i64 k ∧ Below w.heap.size w wr) (fun i _ => n - (intOf i).toNat)
  case atStart => exact ⟨0, by omega, rfl, Below.refl _ _⟩
  case round =>
    obtain ⟨k, hk, rfl, hb⟩ := hrel
    by_cases hlt : k < n
    · obtain ⟨b, off, rfl, hat⟩ := HA.out (by have := Hn.out; omega)
      obtain ⟨b2, off2, rfl, hat2⟩ := HB.out (by have := Hn.out; omega)
      obtain ⟨c, hc⟩ : ∃ c, cs[k]? = some c := ⟨cs[k]'(by have := Hn.out; omega), List.getElem?_eq_getElem _⟩
      obtain ⟨x0, x1, x2, x3, x4, x5, x6⟩ := (RowCalls.at7 hat hc).below hb
      obtain ⟨y0, y1, y2, y3, y4, y5, y6⟩ := (RowCalls.at7 hat2 hc).below hb
      have l1 := World.block_lt_of_cell? _ _ x0
      have l2 := World.block_lt_of_cell? _ _ y0
      dsimp only at l1 l2
      clear HA HB hat hat2 hc
      have Hb := Lib.hid hb
      clear hb
      have hk0 : (0 : Int) ≤ (k : Int) := by omega
      have hkn : (k : Int) < (n : Int) := by omega
      go_wp2_with fail
      refine wp_region_grow (by kernel_rfl) (by kernel_rfl) ?_
      repeat (go_big_quiet_step ((go_at_call 46; exact Calls.ext_of (Nat.le_refl _) (eqCall_same _ _))))
      refine wpQuiet_end ?_
      intro w1 hb1
      go_wp2_with fail
      go_roundw
      case rel => exact ⟨k + 1, by omega, by go_num, Hb.out.trans (hb1.mono Hb.out.size)⟩
      case measure => simp [intOf]; omega
    · have hkn : k = n := by omega
      subst hkn
      have hlt' : ¬ ((k : Int) < (k : Int)) := by omega
      go_wp2
      go_ret
      exact ⟨rfl, hb⟩
end Go.Proofs.Ytoeecaeaobfhmaa
