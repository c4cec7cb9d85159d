/-
  Blocks that are just a row of numbers. No condition.
-/
import Derived.Test.YtmeehfiekhdbkaaOwn
namespace Go.Proofs.Ytmeehfiekhdbkaa
open Go.RowKit
set_option maxRecDepth 100000

theorem flat_ints : ∀ L : List Int, L.flatMap intVals = L.map (Value.int .i64)
  | [] => rfl
  | x :: xs => by rw [List.flatMap_cons, flat_ints xs]; rfl
/-- Block g is just a row of these numbers. -/
def IntBlk (w : World) (g : Nat) (L : List Int) : Prop := w.heap[g]? = some (.cells (L.map (Value.int .i64)).toArray 3 (0, 0))
theorem IntBlk.lt {w : World} {g : Nat} {L : List Int} (h : IntBlk w g L) : g < w.heap.size := (Array.getElem?_eq_some_iff.1 h).1
theorem IntBlk.below {w w' : World} {g : Nat} {L : List Int} (h : IntBlk w g L) (hb : Below w.heap.size w w') : IntBlk w' g L := (hb.block g h.lt).trans h
theorem IntBlk.cell {w : World} {g i : Nat} {L : List Int} {n : Int} (h : IntBlk w g L) (hi : L[i]? = some n) : w.cell? ⟨g, i, none⟩ = some (.int .i64 n) := by
  rw [cell_of_row w g i _ _ (0, 0) h]
  simp [hi]
theorem IntBlk.free {w : World} {g i : Nat} {L : List Int} (h : IntBlk w g L) : w.frozen? ⟨g, i, none⟩ = false := frozen_of_row w g i _ _ h
theorem IntBlk.set_ {w : World} {g i : Nat} {L : List Int} (h : IntBlk w g L) (n : Int) : IntBlk (w.setCell ⟨g, i, none⟩ (.int .i64 n)) g (L.set i n) := by
  have := heap_setCell_same w g i _ _ (.int .i64 n) h
  unfold IntBlk
  rw [this]
  simp [List.map_set]
theorem IntBlk.own {w : World} {g base n : Nat} {L : List Int} (h : IntBlk w g L) (hl : L.length = n) (hb : base ≤ g) (hn : n ≤ maxLen) : w.ownsRow base 3 1 (.slice (some ⟨g, 0, none⟩) n n) n (L.flatMap intVals) := by
  rw [flat_ints]
  exact ⟨by simp [hl], .inr ⟨g, n, _, rfl, hb, h, Nat.le_refl _, hn, by simp [hl], by rw [List.take_of_length_le (by simp [hl])]⟩⟩
theorem IntBlk.made {w : World} {g base n : Nat} (h : w.ownsRow base 3 1 (.slice (some ⟨g, 0, none⟩) n n) n (madeCells (Value.int IntKind.i64 0).cells (n * 1)).toList) : IntBlk w g (List.replicate n 0) := by
  rcases h.2 with ⟨h0, _⟩ | ⟨g', cap, cur, hv, _, hg, _, _, hs, ht⟩
  · cases h0
  · injection hv with h1 _ h3
    injection h1 with h1
    injection h1 with h1
    subst h1 h3
    unfold IntBlk
    rw [hg]
    have e1 : cur.toList = (madeCells (Value.int IntKind.i64 0).cells (n * 1)).toList := by
      rw [← ht, List.take_of_length_le (by simp [hs])]
    have e2 : (madeCells (Value.int IntKind.i64 0).cells (n * 1)).toList = List.replicate (n * 1) (Value.int IntKind.i64 0) := toList_madeCells_one _ _
    rw [e2] at e1
    have e3 : cur = (List.replicate n (Value.int IntKind.i64 0)).toArray := by
      apply Array.ext'
      rw [e1]
      simp
    rw [e3]
    simp
end Go.Proofs.Ytmeehfiekhdbkaa
