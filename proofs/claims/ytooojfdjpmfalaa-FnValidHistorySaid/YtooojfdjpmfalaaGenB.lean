/-
  What the generators' walks share: memory that differs at one reader alone, rows of the call's own that grow or are written, a bool or a number that is not told. No condition.
-/
import Derived.Test.YtooojfdjpmfalaaRdr2
import Derived.Test.YtooojfdjpmfalaaOwn
import Derived.Deep.AppendLies
namespace Go.Proofs.Ytooojfdjpmfalaa
open Go.RowKit
set_option maxRecDepth 100000

/-- w' is w but for new blocks and block g. -/
abbrev But (g : Nat) (w w' : World) : Prop := w.grownBy w' (some g)
theorem But.refl (g : Nat) (w : World) : But g w w := World.grownBy.refl w _
theorem But.trans {g : Nat} {a b c : World} (h : But g a b) (k : But g b c) : But g a c :=
  ⟨k.os.trans h.os, k.tape.trans h.tape, k.output.trans h.output, Nat.le_trans h.size k.size, fun i hi hne => (k.block i (Nat.lt_of_lt_of_le hi h.size) hne).trans (h.block i hi hne)⟩
theorem But.own {g : Nat} {a b c : World} {row : Option Nat} (h : But g a b) (k : b.grownBy c row) (hr : ∀ i, row = some i → a.heap.size ≤ i) : But g a c :=
  ⟨k.os.trans h.os, k.tape.trans h.tape, k.output.trans h.output, Nat.le_trans h.size k.size, fun i hi hne => (k.block i (Nat.lt_of_lt_of_le hi h.size) (fun e => by have := hr i e.symm; omega)).trans (h.block i hi hne)⟩
theorem But.below {g : Nat} {a b c : World} (h : But g a b) (k : Below b.heap.size b c) : But g a c :=
  ⟨k.os.trans h.os, k.tape.trans h.tape, k.output.trans h.output, Nat.le_trans h.size k.size, fun i hi hne => (k.block i (Nat.lt_of_lt_of_le hi h.size)).trans (h.block i hi hne)⟩
theorem But.alloc {g : Nat} {a b : World} (h : But g a b) (o : Obj) : But g a (b.alloc o) := h.below (below_alloc (Below.refl _ _) _)
theorem gset_grown (w : World) (b i : Nat) (v : Value) : w.grownBy (w.setCell ⟨b, i, none⟩ v) (some b) := by
  refine ⟨rfl, rfl, rfl, by simp [World.setCell], fun j hj hne => ?_⟩
  have hgj : b ≠ j := fun e => hne (by rw [e])
  simp [World.setCell, Array.getElem?_modify, hgj]

/-- A cell of an own row is written. -/
theorem own_set {w : World} {B g n cap sz i : Nat} {e : TypeId} {xs : List Value} (h : w.ownsRow B e sz (.slice (some ⟨g, 0, none⟩) n cap) n xs) (_hi : i < n * sz) (u : Value) :
    (w.setCell ⟨g, i, none⟩ u).ownsRow B e sz (.slice (some ⟨g, 0, none⟩) n cap) n (xs.set i u) := by
  obtain ⟨hl, h⟩ := h
  refine ⟨by simp [hl], ?_⟩
  rcases h with ⟨h0, _⟩ | ⟨g', cap', cur, hv, hb, hg, hc, hm, hs, ht⟩
  · cases h0
  · injection hv with h1 h2 h3
    injection h1 with h1
    injection h1 with h1
    subst h1 h3
    refine .inr ⟨g, cap, cur.setIfInBounds i u, rfl, hb, heap_setCell_same w g i cur e u hg, hc, hm, by simp [hs], ?_⟩
    rw [Array.toList_setIfInBounds, List.take_set, ht]
theorem own_free {w : World} {B g n cap sz : Nat} {e : TypeId} {xs : List Value} (h : w.ownsRow B e sz (.slice (some ⟨g, 0, none⟩) n cap) n xs) (i : Nat) : w.frozen? ⟨g, i, none⟩ = false := by
  rcases h.2 with ⟨h0, _⟩ | ⟨g', cap', cur, hv, hb, hg, _⟩
  · cases h0
  · injection hv with h1 h2 h3
    injection h1 with h1
    injection h1 with h1
    subst h1
    exact frozen_of_row w g i cur e hg
theorem own_cell {w : World} {B g n cap sz : Nat} {e : TypeId} {xs : List Value} (h : w.ownsRow B e sz (.slice (some ⟨g, 0, none⟩) n cap) n xs) {i : Nat} {u : Value} (hi : xs[i]? = some u) : w.cell? ⟨g, i, none⟩ = some u := by
  have := h.cells (g := g) rfl i u hi
  rwa [Addr.add_lit, Nat.zero_add] at this
theorem flat_set {α : Type} {vals : α → List Value} {sz : Nat} (hv : ∀ c, (vals c).length = sz) : ∀ (cs : List α) (k j : Nat) (c c' : α) (u : Value), cs[k]? = some c → j < sz → vals c' = (vals c).set j u → (cs.flatMap vals).set (k * sz + j) u = (cs.set k c').flatMap vals
  | [], k, _, _, _, _, h, _, _ => by simp at h
  | x :: xs, 0, j, c, c', u, h, hj, he => by
    simp only [List.getElem?_cons_zero, Option.some.injEq] at h
    subst h
    rw [Nat.zero_mul, Nat.zero_add, List.flatMap_cons, List.set_cons_zero, List.flatMap_cons, List.set_append_left _ _ (by rw [hv]; exact hj), he]
  | x :: xs, k + 1, j, c, c', u, h, hj, he => by
    simp only [List.getElem?_cons_succ] at h
    have ih := flat_set hv xs k j c c' u h hj he
    rw [List.flatMap_cons, List.set_cons_succ, List.flatMap_cons, List.set_append_right _ _ (by rw [hv, Nat.succ_mul]; omega), hv, show (k + 1) * sz + j - sz = k * sz + j by rw [Nat.succ_mul]; omega, ih]

/-- A pick of a number that is written out. -/
theorem pick_at (g p n : Nat) (z : Int) (w : World) (h : Rdr w g p) (hz : (n : Int) = z) (hp : p ≤ 1000000) (hn : 1 ≤ n) (hn2 : n ≤ 1000000) :
    Calls Try.prog 41 #[.pointer (some ⟨g, 0, none⟩), .int .i64 z] w fun e w' => PickPost w w' g p n e := by
  subst hz
  exact pick_calls g p n w h hp hn hn2
/-- One of some numbers that are written out. -/
theorem one_at (g p : Nat) (L : List Int) (n : Nat) (lits : Array Value) (w : World) (b : Nat) (h : Rdr w g p) (hb : w.heap.size = b) (hp : p ≤ 1000000) (hlits : lits = (L.map (Value.int .i64)).toArray) (hn : L.length = n) (h1 : 1 ≤ n) (h2 : n ≤ 1000000) :
    Calls Try.prog 50 #[.pointer (some ⟨g, 0, none⟩), .slice (some ⟨b, 0, none⟩) n n] (w.alloc (.cells lits 3)) fun e w' => ∃ x : Int, x ∈ L ∧ e = .returned (.int .i64 x) ∧ Rdr w' g (p + 1) ∧ But g w w' := by
  subst hb hlits
  refine (one_calls g p w.heap.size L n _ (h.below (below_alloc (Below.refl _ _) _)) hp (heap_alloc_new w _) hn (Nat.ne_of_gt h.lt) h1 h2).mono fun e w' hd => ?_
  obtain ⟨x, hx, he, hr, hg⟩ := hd
  exact ⟨x, hx, he, hr, ((But.refl g w).alloc _).trans hg⟩
/-- The same, of rows of the call's own. -/
theorem one_at' (g p : Nat) (L : List Int) (n : Nat) (lits : Array Value) (w : World) (b : Nat) (h : Rdr w g p) (hb : w.heap.size = b) (hp : p ≤ 1000000) (hlits : lits = (L.map (Value.int .i64)).toArray) (hn : L.length = n) (h1 : 1 ≤ n) (h2 : n ≤ 1000000) :
    Calls Try.prog 50 #[.pointer (some ⟨g, 0, none⟩), .slice (some ⟨b, 0, none⟩) n n] (w.alloc (.cells lits 3)) fun e w' => ∃ x : Int, x ∈ L ∧ e = .returned (.int .i64 x) ∧ Rdr w' g (p + 1) ∧ w.grownBy w' (some g) :=
  one_at g p L n lits w b h hb hp hlits hn h1 h2
end Go.Proofs.Ytooojfdjpmfalaa
