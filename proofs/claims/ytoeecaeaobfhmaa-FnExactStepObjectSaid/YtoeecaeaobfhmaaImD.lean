/-
  What deleting one number from a row of the call's own leaves, as slices.Delete does it. No condition but a length of at most a thousand.
-/
import Derived.Test.YtoeecaeaobfhmaaImA
import Derived.Deep.MidRow
namespace Go.Proofs.Ytoeecaeaobfhmaa
open Go.RowKit Go.Deep
set_option maxRecDepth 100000

theorem ints_map : ∀ L : List Int, L.flatMap intVals = L.map (Value.int .i64)
  | [] => rfl
  | x :: xs => by rw [List.flatMap_cons, ints_map xs]; rfl
theorem gset_grown' (w : World) (b i : Nat) (v : Value) : w.grownBy (w.setCell ⟨b, i, none⟩ v) (some b) := by
  refine ⟨rfl, rfl, rfl, by simp [World.setCell], fun j hj hne => ?_⟩
  have hgj : b ≠ j := fun e => hne (by rw [e])
  simp [World.setCell, Array.getElem?_modify, hgj]
theorem own_freeD {w : World} {B g n cap sz : Nat} {e : TypeId} {xs : List Value} (h : w.ownsRow B e sz (.slice (some ⟨g, 0, none⟩) n cap) n xs) (i : Nat) : w.frozen? ⟨g, i, none⟩ = false := by
  rcases h.2 with ⟨h0, _⟩ | ⟨g', cap', cur, hv, hb, hg, _⟩
  · cases h0
  · injection hv with h1 h2 h3
    injection h1 with h1
    injection h1 with h1
    subst h1
    exact frozen_of_row w g i cur e hg
theorem own_cellD {w : World} {B g n cap sz : Nat} {e : TypeId} {xs : List Value} (h : w.ownsRow B e sz (.slice (some ⟨g, 0, none⟩) n cap) n xs) {i : Nat} {u : Value} (hi : xs[i]? = some u) : w.cell? ⟨g, i, none⟩ = some u := by
  have := h.cells (g := g) rfl i u hi
  rwa [Addr.add_lit, Nat.zero_add] at this
/-- What many stores leave of a block. -/
theorem setCells_block {g : Nat} {E : TypeId} : ∀ (vs : List Value) (o : Nat) (w : World) (cur : Array Value), w.heap[g]? = some (.cells cur E (0, 0)) → o + vs.length ≤ cur.size →
    ∃ cur' : Array Value, (w.setCells g o vs).heap[g]? = some (.cells cur' E (0, 0)) ∧ cur'.size = cur.size ∧ (∀ k, k < o → cur'[k]? = cur[k]?) ∧ ∀ j v, vs[j]? = some v → cur'[o + j]? = some v
  | [], o, w, cur, h, _ => ⟨cur, h, rfl, fun _ _ => rfl, fun j v hj => by simp at hj⟩
  | v :: r, o, w, cur, h, hl => by
    have h1 := heap_setCell_same w g o cur E v h
    simp only [List.length_cons] at hl
    obtain ⟨cur', a1, a2, a3, a4⟩ := setCells_block r (o + 1) (w.setCell ⟨g, o, none⟩ v) _ h1 (by simp; omega)
    refine ⟨cur', a1, by rw [a2]; simp, fun k hk => ?_, fun j u hj => ?_⟩
    · rw [a3 k (by omega), Array.getElem?_setIfInBounds]
      split
      · omega
      · rfl
    · cases j with
      | zero =>
        simp only [List.getElem?_cons_zero, Option.some.injEq] at hj
        subst hj
        rw [Nat.add_zero, a3 o (by omega), Array.getElem?_setIfInBounds]
        simp
        omega
      | succ j =>
        simp only [List.getElem?_cons_succ] at hj
        have := a4 j u hj
        rw [show o + (j + 1) = o + 1 + j by omega]
        exact this
theorem setCells_grown {g : Nat} : ∀ (vs : List Value) (o : Nat) (w : World), w.grownBy (w.setCells g o vs) (some g)
  | [], _, w => World.grownBy.refl w _
  | v :: r, o, w => (gset_grown' w g o v).trans (setCells_grown r (o + 1) _)
/-- The row behind the deletion. -/
theorem del_own {w : World} {base g i r cap : Nat} {L : List Int} (ho : w.ownsRow base 3 1 (.slice (some ⟨g, 0, none⟩) (i + 1 + r) cap) (i + 1 + r) (L.flatMap intVals)) (zs : List Value) (hz : zs.length = 1) :
    ((w.setCells g i ((L.drop (i + 1)).flatMap intVals)).setCells g (i + r) zs).ownsRow base 3 1 (.slice (some ⟨g, 0, none⟩) (i + r) cap) (i + r) ((L.take i ++ L.drop (i + 1)).flatMap intVals) := by
  have hlen := ho.1
  rw [ints_flat_len] at hlen
  rcases ho.2 with ⟨hv, _⟩ | ⟨g', cap', cur, hv, hb, hg, hc, hm, hs, ht⟩
  · cases hv
  injection hv with h1 _ h3
  injection h1 with h1
  injection h1 with h1
  subst h1 h3
  have hdl : ((L.drop (i + 1)).flatMap intVals).length = r := by rw [ints_flat_len, List.length_drop]; omega
  obtain ⟨c1, a1, a2, a3, a4⟩ := setCells_block ((L.drop (i + 1)).flatMap intVals) i w cur hg (by rw [hdl]; omega)
  obtain ⟨c2, b1, b2, b3, b4⟩ := setCells_block zs (i + r) _ c1 a1 (by rw [hz]; omega)
  have hlt : (L.take i ++ L.drop (i + 1)).length = i + r := by simp; omega
  refine ⟨by rw [ints_flat_len, hlt], .inr ⟨g, cap, c2, rfl, hb, b1, by omega, hm, by omega, ?_⟩⟩
  rw [ints_map] at ht
  rw [ints_map]
  refine List.ext_getElem? fun k => ?_
  rw [List.getElem?_take]
  split
  · next hk =>
    rw [Array.getElem?_toList, b3 k (by omega)]
    by_cases hki : k < i
    · rw [a3 k hki, List.map_append, List.getElem?_append_left (by simp; omega), List.getElem?_map, List.getElem?_take, if_pos hki]
      have h4 := congrArg (fun l : List Value => l[k]?) ht
      simp only [List.getElem?_take, List.getElem?_map] at h4
      rw [if_pos (by omega), Array.getElem?_toList] at h4
      exact h4
    · have hkd : k - i < (L.drop (i + 1)).length := by simp; omega
      have h5 := a4 (k - i) _ (by rw [ints_map, List.getElem?_map, List.getElem?_eq_getElem hkd]; rfl)
      rw [show i + (k - i) = k by omega] at h5
      rw [h5, List.map_append, List.getElem?_append_right (by simp; omega), List.length_map, List.length_take, Nat.min_eq_left (by omega), List.getElem?_map, List.getElem?_eq_getElem hkd]
      rfl
  · next hk =>
    rw [List.getElem?_eq_none]
    rw [List.length_map, hlt]
    omega

set_option maxHeartbeats 2000000 in
theorem delete_mid (L : List Int) (g i r cap base : Nat) (w : World) (ho : w.ownsRow base 3 1 (.slice (some ⟨g, 0, none⟩) (i + 1 + r) cap) (i + 1 + r) (L.flatMap intVals)) (hl : i + r ≤ 1000) (hc1 : ¬ cap = i + 1) :
    Calls Try.prog 88 #[.slice (some ⟨g, 0, none⟩) (i + 1 + r) cap, .int .i64 i, .int .i64 ((i : Int) + 1)] w fun e w' => ∃ v, e = .returned v ∧ w'.ownsRow base 3 1 v (i + r) ((L.take i ++ L.drop (i + 1)).flatMap intVals) ∧ w.grownBy w' (some g) := by
  have HO := Lib.hid ho
  obtain ⟨_, _, e1, hnc, hcm, _⟩ := own_form ho
  injection e1 with e1 e2 e3
  subst e3
  have hlen := ho.1
  rw [ints_flat_len] at hlen
  unfold maxLen at hcm
  have HC := Lib.hid (fun j u h => own_cellD (i := j) (u := u) ho h)
  have HF := Lib.hid (fun j => own_freeD ho j)
  have HLen := Lib.hid hlen
  clear ho e1 e2 hlen
  have hi0 : (0 : Int) ≤ (i : Int) := by omega
  have hi1 : (i : Int) ≤ (i : Int) + 1 := by omega
  have hr0 : (0 : Int) ≤ (r : Int) := by omega
  have hi2 : (0 : Int) ≤ (i : Int) + 1 := by omega
  have hr1 : (i : Int) + 1 ≤ (i : Int) + 1 + (r : Int) := by omega
  have hr2 : (i : Int) + (r : Int) ≤ 1000 := by omega
  have hnci : (i : Int) + 1 + (r : Int) ≤ (cap : Int) := by omega
  have hcmi : (cap : Int) ≤ 9223372036854775807 := by omega
  have hic : (i : Int) ≤ (cap : Int) := by omega
  have hne : ((i : Int) == (i : Int) + 1) = false := by rw [beq_eq_false_iff_ne]; omega
  obtain ⟨i0, hi0, hz0, hz1, hz2⟩ := info_parts stepx_info
  have HN := Lib.hid (show ((L.drop (i + 1)).flatMap intVals).length = r * 1 by rw [ints_flat_len, List.length_drop]; have := HLen.out; omega)
  have HNC := Lib.hid (show ∀ j u, ((L.drop (i + 1)).flatMap intVals)[j]? = some u → w.cell? ((⟨g, i + 1, none⟩ : Addr).add j) = some u from fun j u hj => by
    rw [Addr.add_lit]
    refine HC.out (i + 1 + j) u ?_
    rw [ints_map, List.map_drop, List.getElem?_drop] at hj
    rw [ints_map]
    exact hj)
  have HRoom := Lib.hid (show i + r ≤ cap by omega)
  have HSP := Lib.hid (show ∀ j, j < ((L.drop (i + 1)).flatMap intVals).length → (w.cell? ⟨g, 0 + i * 1 + j, none⟩).isSome = true ∧ w.frozen? ⟨g, 0 + i * 1 + j, none⟩ = false from fun j hj => by
    rw [HN.out] at hj
    have h1 : i + j < (L.flatMap intVals).length := by rw [ints_flat_len]; have := HLen.out; omega
    have h2 := HC.out (i + j) _ (List.getElem?_eq_getElem h1)
    rw [show 0 + i * 1 + j = i + j by omega, h2]
    exact ⟨rfl, HF.out _⟩)
  have HCL := Lib.hid (show ∀ ty, (Builtin.clear_ #[24] ty #[.slice (some ⟨g, i + r, none⟩) (i + 1 + r - (i + r)) (cap - (i + r))]).run Try.prog (w.drew.setCells g i ((L.drop (i + 1)).flatMap intVals)) = .ok (.tuple #[]) ((w.drew.setCells g i ((L.drop (i + 1)).flatMap intVals)).setCells g (i + r) [.int .i64 0]) from fun ty => by
    have e1 : i + 1 + r - (i + r) = 1 := by omega
    rw [e1]
    refine Lib.run_clear_slice (P := Try.prog) _ _ _ ty _ Try.underlying24 (fun w => by kernel_rfl) rfl rfl g (i + r) 1 _ (by omega) (fun t ht => ?_) (fun t ht => ?_)
    · refine World.isSome_setCells g _ _ _ _ ?_
      have h1 : i + r + t < (L.flatMap intVals).length := by rw [ints_flat_len]; have := HLen.out; omega
      have h2 := HC.out (i + r + t) _ (List.getElem?_eq_getElem h1)
      exact (congrArg Option.isSome h2).trans rfl
    · rw [World.frozen?_setCells]
      exact HF.out _)
  go_enter Try.func88, Try.ntmps88
  go_wp2_with fail
  go_region_law (refine step_append_room rfl (.tmp 22) (.tmp 25) 24 rfl 3 i0 1 Try.underlying24 hi0 hz1 g 0 i cap rfl ⟨g, i + 1, none⟩ r (cap - (i + 1)) ((L.drop (i + 1)).flatMap intVals) rfl HN.out HNC.out (ints_ones (L.drop (i + 1))) HRoom.out HSP.out ?_)
  have hcl := HCL.out
  go_wp2_with fail
  go_ret
  refine ⟨_, rfl, del_own (w := w.drew) HO.out [.int .i64 0] rfl, ?_⟩
  exact (show w.grownBy w.drew (some g) from ⟨rfl, rfl, rfl, Nat.le_refl _, fun _ _ _ => rfl⟩).trans ((setCells_grown _ _ _).trans (setCells_grown _ _ _))

set_option maxHeartbeats 2000000 in
theorem delete_last (L : List Int) (g i base : Nat) (w : World) (ho : w.ownsRow base 3 1 (.slice (some ⟨g, 0, none⟩) (i + 1) (i + 1)) (i + 1) (L.flatMap intVals)) (hl : i ≤ 1000) :
    Calls Try.prog 88 #[.slice (some ⟨g, 0, none⟩) (i + 1) (i + 1), .int .i64 i, .int .i64 ((i : Int) + 1)] w fun e w' => ∃ v, e = .returned v ∧ w'.ownsRow base 3 1 v i ((L.take i ++ L.drop (i + 1)).flatMap intVals) ∧ w.grownBy w' (some g) := by
  have HO := Lib.hid ho
  have hlen := ho.1
  rw [ints_flat_len] at hlen
  have HC := Lib.hid (fun j u h => own_cellD (i := j) (u := u) ho h)
  have HF := Lib.hid (fun j => own_freeD ho j)
  have HLen := Lib.hid hlen
  clear ho hlen
  have hi0 : (0 : Int) ≤ (i : Int) := by omega
  have hi1 : (i : Int) ≤ (i : Int) + 1 := by omega
  have hi2 : (0 : Int) ≤ (i : Int) + 1 := by omega
  have hr2 : (i : Int) ≤ 1000 := by omega
  have hne : ((i : Int) == (i : Int) + 1) = false := by rw [beq_eq_false_iff_ne]; omega
  obtain ⟨i0, hi0, hz0, hz1, hz2⟩ := info_parts stepx_info
  have HCL := Lib.hid (show ∀ ty, (Builtin.clear_ #[24] ty #[.slice (some ⟨g, i, none⟩) 1 1]).run Try.prog w.drew = .ok (.tuple #[]) (w.drew.setCells g i [.int .i64 0]) from fun ty => by
    refine Lib.run_clear_slice (P := Try.prog) _ _ _ ty _ Try.underlying24 (fun w => by kernel_rfl) rfl rfl g i 1 _ (by omega) (fun t ht => ?_) (fun t ht => ?_)
    · have h1 : i + t < (L.flatMap intVals).length := by rw [ints_flat_len]; have := HLen.out; omega
      have h2 := HC.out (i + t) _ (List.getElem?_eq_getElem h1)
      exact (congrArg Option.isSome h2).trans rfl
    · exact HF.out _)
  go_enter Try.func88, Try.ntmps88
  go_wp2_with fail
  go_region_law (refine step_append_room rfl (.tmp 22) (.tmp 25) 24 rfl 3 i0 1 Try.underlying24 hi0 hz1 g 0 i (i + 1) rfl ⟨g, 0, none⟩ 0 0 [] rfl rfl (fun j u h => by simp at h) (fun u h => by simp at h) (by omega) (fun j h => by simp at h) ?_)
  have hcl := HCL.out
  have hcl2 := fun o => (show w.drew.setCells g o [] = w.drew from rfl)
  go_wp2_with fail
  go_ret
  have HD : (L.drop (i + 1)) = [] := List.drop_of_length_le (by have := HLen.out; omega)
  have h := del_own (w := w.drew) (r := 0) (i := i) (L := L) HO.out [.int .i64 0] rfl
  rw [HD] at h ⊢
  exact ⟨_, rfl, h, (show w.grownBy w.drew (some g) from ⟨rfl, rfl, rfl, Nat.le_refl _, fun _ _ _ => rfl⟩).trans (setCells_grown _ _ _)⟩

/-- Number k is deleted. -/
theorem delete_of (L : List Int) (g m cap k base : Nat) (w : World) (ho : w.ownsRow base 3 1 (.slice (some ⟨g, 0, none⟩) (m + 1) cap) (m + 1) (L.flatMap intVals)) (hn : L.length = m + 1) (hk : k ≤ m) (hl : m ≤ 1000) :
    Calls Try.prog 88 #[.slice (some ⟨g, 0, none⟩) (m + 1) cap, .int .i64 k, .int .i64 ((k : Int) + 1)] w fun e w' => ∃ v, e = .returned v ∧ w'.ownsRow base 3 1 v m ((L.take k ++ L.drop (k + 1)).flatMap intVals) ∧ w.grownBy w' (some g) := by
  obtain ⟨r, rfl⟩ : ∃ r, m = k + r := ⟨m - k, by omega⟩
  have e1 : k + r + 1 = k + 1 + r := by omega
  rw [e1] at ho ⊢
  by_cases hc1 : cap = k + 1
  · obtain ⟨_, _, e2, hnc, _, _⟩ := own_form ho
    injection e2 with _ _ e3
    subst e3
    obtain rfl : r = 0 := by omega
    subst hc1
    exact delete_last L g k base w ho (by omega)
  · exact delete_mid L g k r cap base w ho (by omega) hc1
end Go.Proofs.Ytoeecaeaobfhmaa
