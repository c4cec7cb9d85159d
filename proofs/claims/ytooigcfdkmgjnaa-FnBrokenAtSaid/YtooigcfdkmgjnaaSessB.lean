/-
  The program's struct of sessions behind a pointer, as one block; what adding a read does to it. Asked: sets less than 2 to the 20.
-/
import Derived.Test.YtooigcfdkmgjnaaSess
namespace Go.Proofs.Ytooigcfdkmgjnaa
open Go.RowKit
set_option maxRecDepth 100000

/-- The struct: made, had, and three slices. -/
def SessBlk (w : World) (g : Nat) (m h : Nat → Nat) (row fol cau : Value) : Prop :=
  w.heap[g]? = some (.cells #[.int .i64 (m 0), .int .i64 (m 1), .int .i64 (m 2), .int .i64 (h 0), .int .i64 (h 1), .int .i64 (h 2), row, fol, cau] 57 (0, 0))
theorem SessBlk.lt {w : World} {g : Nat} {m h : Nat → Nat} {row fol cau : Value} (k : SessBlk w g m h row fol cau) : g < w.heap.size := (Array.getElem?_eq_some_iff.1 k).1
theorem SessBlk.free {w : World} {g : Nat} {m h : Nat → Nat} {row fol cau : Value} (k : SessBlk w g m h row fol cau) (i : Nat) : w.frozen? ⟨g, i, none⟩ = false := frozen_of_row w g i _ _ k
theorem SessBlk.cell {w : World} {g : Nat} {m h : Nat → Nat} {row fol cau : Value} (k : SessBlk w g m h row fol cau) (i : Nat) : w.cell? ⟨g, i, none⟩ = #[Value.int .i64 (m 0), .int .i64 (m 1), .int .i64 (m 2), .int .i64 (h 0), .int .i64 (h 1), .int .i64 (h 2), row, fol, cau][i]? := by
  rw [cell_of_row w g i _ _ (0, 0) k]
def upd (f : Nat → Nat) (s v : Nat) : Nat → Nat := fun t => if t = s then v else f t
theorem SessBlk.had_ {w : World} {g : Nat} {m h : Nat → Nat} {row fol cau : Value} (k : SessBlk w g m h row fol cau) (s v : Nat) (hs : s < 3) : SessBlk (w.setCell ⟨g, 3 + s, none⟩ (.int .i64 v)) g m (upd h s v) row fol cau := by
  have := heap_setCell_same w g (3 + s) _ _ (.int .i64 v) k
  unfold SessBlk
  rw [this]
  have : s = 0 ∨ s = 1 ∨ s = 2 := by omega
  rcases this with rfl | rfl | rfl <;> rfl
theorem SessBlk.made_ {w : World} {g : Nat} {m h : Nat → Nat} {row fol cau : Value} (k : SessBlk w g m h row fol cau) (s v : Nat) (hs : s < 3) : SessBlk (w.setCell ⟨g, s, none⟩ (.int .i64 v)) g (upd m s v) h row fol cau := by
  have := heap_setCell_same w g s _ _ (.int .i64 v) k
  unfold SessBlk
  rw [this]
  have : s = 0 ∨ s = 1 ∨ s = 2 := by omega
  rcases this with rfl | rfl | rfl <;> rfl
end Go.Proofs.Ytooigcfdkmgjnaa
