/-
  What the law package's mark and held of copies do, at copies as they are made. Asked: running numbers of at most 2 to the 40.
-/
import Derived.Test.YtkahhcpfkebgiaaCpyM
namespace Go.Proofs.Ytkahhcpfkebgiaa
open Go.RowKit
set_option maxRecDepth 100000

theorem But2.refl (a b : Nat) (w : World) : But2 a b w w := ⟨rfl, rfl, rfl, Nat.le_refl _, fun _ _ _ _ => rfl⟩
theorem But2.below {a b : Nat} {w w1 w2 : World} (h : But2 a b w w1) (k : Below w1.heap.size w1 w2) : But2 a b w w2 :=
  ⟨k.os.trans h.os, k.tape.trans h.tape, k.output.trans h.output, Nat.le_trans h.size k.size, fun i hi h1 h2 => (k.block i (Nat.lt_of_lt_of_le hi h.size)).trans (h.block i hi h1 h2)⟩
theorem But2.grown {a b : Nat} {w w1 w2 : World} {row : Option Nat} (h : But2 a b w w1) (k : w1.grownBy w2 row) (hr : ∀ i, row = some i → i = a ∨ i = b) : But2 a b w w2 :=
  ⟨k.os.trans h.os, k.tape.trans h.tape, k.output.trans h.output, Nat.le_trans h.size k.size, fun i hi h1 h2 => (k.block i (Nat.lt_of_lt_of_le hi h.size) (fun e => (hr i e.symm).elim h1 h2)).trans (h.block i hi h1 h2)⟩

def mark3 (q : Int) : List Value := (marksInt q 3).flatMap markInt

set_option maxHeartbeats 2000000 in
theorem markCopy_calls (a b : Nat) (A : Option Addr) (c : Nat) (q : Int) (w : World) (hab : a ≠ b) (h1 : Fill w a 3 3 zero3) (h2 : Fill w b 3 3 zero3) (hq : 0 ≤ q) (hn : q ≤ 1000) :
    Calls Try.prog 9 #[copyV a b 0 0 0 (.slice A 0 c), .int .i64 q] w fun e w' => e = .returned (.int .i64 (q + 6)) ∧ Fill w' a 3 3 (mark3 q) ∧ Fill w' b 3 3 (mark3 (q + 3)) ∧ But2 a b w w' := by
  have H1 := Lib.hid h1
  have H2 := Lib.hid h2
  have L1 := h1.lt
  have L2 := h2.lt
  clear h1 h2
  unfold copyV
  go_enter Try.func9, Try.ntmps9
  go_wp2_with fail
  have o1 := (H1.out.below (below_alloc (Below.refl _ _) (.cells #[.slice (some ⟨a, 0, none⟩) 3 3, .slice (some ⟨b, 0, none⟩) 3 3, .int .i64 0, .int .i64 0, .int .i64 0, .slice A 0 c] 25)) L1).own (sz := 1) (base := 0) (n := 3) rfl (by omega) (by decide)
  refine (markIntS_calls _ 3 3 0 _ q _ o1 hq (by omega)).mono ?_
  rintro e w1 ⟨rfl, p1, g1⟩
  have F1 := own_full p1
  have F2 : Fill w1 b 3 3 zero3 := (H2.out.below (below_alloc (Below.refl _ _) _) L2).grown g1 (by simp [Value.ownBlock]; omega)
  have B1 : But2 a b w w1 := ((But2.refl a b w).below (below_alloc (Below.refl _ _) _)).grown g1 (by intro i hi; simp [Value.ownBlock] at hi; omega)
  have k1 : Fill w1 w.heap.size 25 6 (copyL a b 0 0 0 (.slice A 0 c)) := Fill.grown (w := w.alloc (.cells #[.slice (some ⟨a, 0, none⟩) 3 3, .slice (some ⟨b, 0, none⟩) 3 3, .int .i64 0, .int .i64 0, .int .i64 0, .slice A 0 c] 25)) ⟨_, heap_alloc_new _ _, rfl, rfl⟩ g1 (by simp [Value.ownBlock]; omega)
  have x1 := k1.cell (i := 1) rfl
  have HF1 := Lib.hid F1
  have HF2 := Lib.hid F2
  have HB1 := Lib.hid B1
  have HK1 := Lib.hid k1
  have hl0 : w.heap.size < w1.heap.size := k1.lt
  clear F1 F2 B1 k1 g1 p1 o1 H1 H2
  go_wp2_with fail
  have o2 := Fill.own (sz := 1) (base := 0) (n := 3) HF2.out rfl (by omega) (by decide)
  refine (markIntS_calls _ 3 3 0 _ _ _ o2 (by omega) (by omega)).mono ?_
  rintro e w2 ⟨rfl, p2, g2⟩
  have F2 : Fill w2 b 3 3 (mark3 (q + 3)) := own_full p2
  have F1 : Fill w2 a 3 3 (mark3 q) := Fill.grown HF1.out g2 (by simp [Value.ownBlock]; omega)
  have B2 : But2 a b w w2 := HB1.out.grown g2 (by intro i hi; simp [Value.ownBlock] at hi; omega)
  have k2 := HK1.out.grown g2 (by simp [Value.ownBlock]; omega)
  have x5 := k2.cell (i := 5) rfl
  have HF1 := Lib.hid F1
  have HF2 := Lib.hid F2
  have HB2 := Lib.hid B2
  have hl1 : w.heap.size < w2.heap.size := k2.lt
  clear F1 F2 B2 k2 g2 p2 o2 HB1 HK1 x1
  go_wp2_with fail
  refine (markMarkS_none _ _ _ _).mono ?_
  rintro e w3 ⟨rfl, rfl⟩
  go_wp2
  go_ret
  exact ⟨by show Ending.returned (Value.int .i64 (q + 3 + 3)) = _; rw [show q + 3 + 3 = q + 6 by omega], HF1.out, HF2.out, HB2.out⟩

set_option maxHeartbeats 2000000 in
theorem heldCopy_calls (a b : Nat) (A : Option Addr) (c : Nat) (q : Int) (w : World) (h1 : Fill w a 3 3 (mark3 q)) (h2 : Fill w b 3 3 (mark3 (q + 3))) (hq : 0 ≤ q) (hn : q ≤ 1000) :
    Calls Try.prog 10 #[copyV a b 0 0 0 (.slice A 0 c), .int .i64 q] w fun e w' => e = .returned (.int .i64 (q + 6)) ∧ Below w.heap.size w w' := by
  have H1 := Lib.hid h1
  have H2 := Lib.hid h2
  have L1 := h1.lt
  have L2 := h2.lt
  clear h1 h2
  unfold copyV
  go_enter Try.func10, Try.ntmps10
  go_wp2_with fail
  refine (heldIntS_calls _ 3 3 q _ ((row_fill (fun _ => rfl) H1.out).below (below_alloc (Below.refl _ _) _)) hq (by omega)).mono ?_
  rintro e w1 ⟨rfl, rfl⟩
  have hge : ¬ (q + ((3 : Nat) : Int) < 0) := by omega
  go_wp2_with fail
  refine (heldIntS_calls _ 3 3 _ _ ((row_fill (fun _ => rfl) H2.out).below (below_alloc (Below.refl _ _) _)) (by omega) (by omega)).mono ?_
  rintro e w2 ⟨rfl, rfl⟩
  have hge2 : ¬ (q + ((3 : Nat) : Int) + ((3 : Nat) : Int) < 0) := by omega
  go_wp2_with fail
  refine (heldMarkS_none _ _ _ _).mono ?_
  rintro e w3 ⟨rfl, rfl⟩
  go_wp2
  go_ret
  exact ⟨by show Ending.returned (Value.int .i64 (q + 3 + 3)) = _; rw [show q + 3 + 3 = q + 6 by omega], (by repeat (first | exact Below.refl _ _ | assumption | refine below_alloc ?_ _ | refine below_trans' ?_ (by assumption) | refine Below.drew ?_))⟩
end Go.Proofs.Ytkahhcpfkebgiaa
