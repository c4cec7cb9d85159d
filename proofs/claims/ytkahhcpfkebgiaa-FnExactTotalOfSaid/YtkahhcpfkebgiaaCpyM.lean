/-
  What the law package's equality, mark and held of copies do, at copies as they are made. Asked: running numbers of at most 2 to the 40.
-/
import Derived.Test.YtkahhcpfkebgiaaCpyL
namespace Go.Proofs.Ytkahhcpfkebgiaa
open Go.RowKit
set_option maxRecDepth 100000

theorem row_fill {α : Type} {vals : α → List Value} {w : World} {g N : Nat} {E : TypeId} {l : List α} (hv : ∀ c, (vals c).length = 1) (h : Fill w g E N (l.flatMap vals)) : RowOf vals 1 w (some ⟨g, 0, none⟩) l :=
  fun _ => ⟨g, 0, rfl, fun i c hi j u hu => h.cell (by rw [Nat.zero_add]; exact flat_at l (fun c _ => hv c) i c hi j u hu)⟩
theorem zero_row {w : World} {g N : Nat} {E : TypeId} (h : Fill w g E N zero3) : RowInts w (some ⟨g, 0, none⟩) [0, 0, 0] := row_fill (fun _ => rfl) h
theorem own_full {w : World} {base g n sz : Nat} {E : TypeId} {xs : List Value} (h : w.ownsRow base E sz (.slice (some ⟨g, 0, none⟩) n n) n xs) : Fill w g E (n * sz) xs := by
  obtain ⟨hl, h⟩ := h
  rcases h with ⟨h0, _⟩ | ⟨g', cap, cur, hv, _, hg, _, _, hs, ht⟩
  · cases h0
  · injection hv with h1 _ h3
    injection h1 with h1
    injection h1 with h1
    subst h1 h3
    exact ⟨cur, hg, hs, by rw [hl]; exact ht⟩
/-- w' is w but for new blocks and blocks a and b. -/
structure But2 (a b : Nat) (w w' : World) : Prop where
  os : w'.os = w.os
  tape : w'.tape = w.tape
  output : w'.output = w.output
  size : w.heap.size ≤ w'.heap.size
  block : ∀ i, i < w.heap.size → i ≠ a → i ≠ b → w'.heap[i]? = w.heap[i]?

set_option maxHeartbeats 2000000 in
theorem eqCopy_calls (a b a2 b2 : Nat) (A A2 : Option Addr) (c c2 : Nat) (w : World) (h1 : Fill w a 3 3 zero3) (h2 : Fill w b 3 3 zero3) (h3 : Fill w a2 3 3 zero3) (h4 : Fill w b2 3 3 zero3) :
    Calls Try.prog 8 #[copyV a b 0 0 0 (.slice A 0 c), copyV a2 b2 0 0 0 (.slice A2 0 c2)] w fun e w' => e = .returned (.bool true) ∧ Below w.heap.size w w' := by
  have H1 := Lib.hid h1
  have H2 := Lib.hid h2
  have H3 := Lib.hid h3
  have H4 := Lib.hid h4
  have L1 := h1.lt
  have L2 := h2.lt
  have L3 := h3.lt
  have L4 := h4.lt
  clear h1 h2 h3 h4
  unfold copyV
  go_enter Try.func8, Try.ntmps8
  go_wp2_with fail
  refine (eqIntS_same [0, 0, 0] _ _ _ _ _ ((zero_row H1.out).below (below_alloc (below_alloc (Below.refl _ _) _) _)) ((zero_row H3.out).below (below_alloc (below_alloc (Below.refl _ _) _) _)) (by decide)).mono ?_
  rintro e w1 ⟨rfl, hb1⟩
  obtain ⟨hc1, _⟩ := bcell hb1
  have hB1 : Below w.heap.size w w1 := (below_alloc (below_alloc (Below.refl _ _) _) _).trans (hb1.mono (by simp only [World.size_alloc]; omega))
  have HB1 := Lib.hid hB1
  have hs1 := hb1.size
  simp only [World.size_alloc] at hc1 hs1
  clear hb1 hB1
  go_wp2_with fail
  refine (eqIntS_same [0, 0, 0] _ _ _ _ _ (zero_row (H2.out.below HB1.out L2)) (zero_row (H4.out.below HB1.out L4)) (by decide)).mono ?_
  rintro e w2 ⟨rfl, hb2⟩
  obtain ⟨hc2, _⟩ := bcell hb2
  have hB2 : Below w.heap.size w w2 := HB1.out.trans (hb2.mono (by omega))
  have HB2 := Lib.hid hB2
  have hl0 : w.heap.size < w1.heap.size := by omega
  have hl1 : w.heap.size + 1 < w1.heap.size := by omega
  clear hb2 hB2
  go_wp2_with fail
  refine (eqMarkS_none _ _ _ _ _).mono ?_
  rintro e w3 ⟨rfl, rfl⟩
  go_wp2
  go_ret
  exact ⟨rfl, HB2.out⟩
end Go.Proofs.Ytkahhcpfkebgiaa
