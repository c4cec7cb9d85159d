/-
  What the generators' walks share: memory that differs at one reader alone, rows of the call's own that grow or are written, a bool or a number that is not told. No condition.
-/
import Derived.Test.YtcmecgnlhgjciaaRdr2
import Derived.Test.YtcmecgnlhgjciaaOwn
import Derived.Deep.AppendLies
namespace Go.Proofs.Ytcmecgnlhgjciaa
open Go.RowKit
set_option maxRecDepth 100000

/-- w' is w but for new blocks and block g. -/
abbrev But (g : Nat) (w w' : World) : Prop := w.grownBy w' (some g)
theorem But.refl (g : Nat) (w : World) : But g w w := World.grownBy.refl w _
theorem But.trans {g : Nat} {a b c : World} (h : But g a b) (k : But g b c) : But g a c :=
  ⟨k.os.trans h.os, k.tape.trans h.tape, k.output.trans h.output, Nat.le_trans h.size k.size, fun i hi hne => (k.block i (Nat.lt_of_lt_of_le hi h.size) hne).trans (h.block i hi hne)⟩
theorem But.own {g : Nat} {a b c : World} {row : Option Nat} (h : But g a b) (k : b.grownBy c row) (hr : ∀ i, row = some i → a.heap.size ≤ i) : But g a c :=
  ⟨k.os.trans h.os, k.tape.trans h.tape, k.output.trans h.output, Nat.le_trans h.size k.size, fun i hi hne => (k.block i (Nat.lt_of_lt_of_le hi h.size) (fun e => by have := hr i e.symm; omega)).trans (h.block i hi hne)⟩
theorem But.below {g : Nat} {a b c : World} (h : But g a b) (k : Below b.heap.size b c) : But g a c :=
  ⟨k.os.trans h.os, k.tape.trans h.tape, k.output.trans h.output, Nat.le_trans h.size k.size, fun i hi hne => (k.block i (Nat.lt_of_lt_of_le hi h.size)).trans (h.block i hi hne)⟩
theorem But.alloc {g : Nat} {a b : World} (h : But g a b) (o : Obj) : But g a (b.alloc o) := h.below (below_alloc (Below.refl _ _) _)
theorem gset_grown (w : World) (b i : Nat) (v : Value) : w.grownBy (w.setCell ⟨b, i, none⟩ v) (some b) := by
  refine ⟨rfl, rfl, rfl, by simp [World.setCell], fun j hj hne => ?_⟩
  have hgj : b ≠ j := fun e => hne (by rw [e])
  simp [World.setCell, Array.getElem?_modify, hgj]

/-- A cell of an own row is written. -/
theorem own_set {w : World} {B g n cap sz i : Nat} {e : TypeId} {xs : List Value} (h : w.ownsRow B e sz (.slice (some ⟨g, 0, none⟩) n cap) n xs) (_hi : i < n * sz) (u : Value) :
    (w.setCell ⟨g, i, none⟩ u).ownsRow B e sz (.slice (some ⟨g, 0, none⟩) n cap) n (xs.set i u) := by
  obtain ⟨hl, h⟩ := h
  refine ⟨by simp [hl], ?_⟩
  rcases h with ⟨h0, _⟩ | ⟨g', cap', cur, hv, hb, hg, hc, hm, hs, ht⟩
  · cases h0
  · injection hv with h1 h2 h3
    injection h1 with h1
    injection h1 with h1
    subst h1 h3
    refine .inr ⟨g, cap, cur.setIfInBounds i u, rfl, hb, heap_setCell_same w g i cur e u hg, hc, hm, by simp [hs], ?_⟩
    rw [Array.toList_setIfInBounds, List.take_set, ht]
theorem own_free {w : World} {B g n cap sz : Nat} {e : TypeId} {xs : List Value} (h : w.ownsRow B e sz (.slice (some ⟨g, 0, none⟩) n cap) n xs) (i : Nat) : w.frozen? ⟨g, i, none⟩ = false := by
  rcases h.2 with ⟨h0, _⟩ | ⟨g', cap', cur, hv, hb, hg, _⟩
  · cases h0
  · injection hv with h1 h2 h3
    injection h1 with h1
    injection h1 with h1
    subst h1
    exact frozen_of_row w g i cur e hg
theorem own_cell {w : World} {B g n cap sz : Nat} {e : TypeId} {xs : List Value} (h : w.ownsRow B e sz (.slice (some ⟨g, 0, none⟩) n cap) n xs) {i : Nat} {u : Value} (hi : xs[i]? = some u) : w.cell? ⟨g, i, none⟩ = some u := by
  have := h.cells (g := g) rfl i u hi
  rwa [Addr.add_lit, Nat.zero_add] at this
theorem flat_set {α : Type} {vals : α → List Value} {sz : Nat} (hv : ∀ c, (vals c).length = sz) : ∀ (cs : List α) (k j : Nat) (c c' : α) (u : Value), cs[k]? = some c → j < sz → vals c' = (vals c).set j u → (cs.flatMap vals).set (k * sz + j) u = (cs.set k c').flatMap vals
  | [], k, _, _, _, _, h, _, _ => by simp at h
  | x :: xs, 0, j, c, c', u, h, hj, he => by
    simp only [List.getElem?_cons_zero, Option.some.injEq] at h
    subst h
    rw [Nat.zero_mul, Nat.zero_add, List.flatMap_cons, List.set_cons_zero, List.flatMap_cons, List.set_append_left _ _ (by rw [hv]; exact hj), he]
  | x :: xs, k + 1, j, c, c', u, h, hj, he => by
    simp only [List.getElem?_cons_succ] at h
    have ih := flat_set hv xs k j c c' u h hj he
    rw [List.flatMap_cons, List.set_cons_succ, List.flatMap_cons, List.set_append_right _ _ (by rw [hv, Nat.succ_mul]; omega), hv, show (k + 1) * sz + j - sz = k * sz + j by rw [Nat.succ_mul]; omega, ih]

/-- A pick of a number that is written out. -/
theorem pick_at (g p n : Nat) (z : Int) (w : World) (h : Rdr w g p) (hz : (n : Int) = z) (hp : p ≤ 1000000) (hn : 1 ≤ n) (hn2 : n ≤ 1000000) :
    Calls Try.prog 64 #[.pointer (some ⟨g, 0, none⟩), .int .i64 z] w fun e w' => PickPost w w' g p n e := by
  subst hz
  exact pick_calls g p n w h hp hn hn2
/-- One of some numbers that are written out. -/
theorem one_at (g p : Nat) (L : List Int) (n : Nat) (lits : Array Value) (w : World) (b : Nat) (h : Rdr w g p) (hb : w.heap.size = b) (hp : p ≤ 1000000) (hlits : lits = (L.map (Value.int .i64)).toArray) (hn : L.length = n) (h1 : 1 ≤ n) (h2 : n ≤ 1000000) :
    Calls Try.prog 63 #[.pointer (some ⟨g, 0, none⟩), .slice (some ⟨b, 0, none⟩) n n] (w.alloc (.cells lits 3)) fun e w' => ∃ x : Int, x ∈ L ∧ e = .returned (.int .i64 x) ∧ Rdr w' g (p + 1) ∧ But g w w' := by
  subst hb hlits
  refine (one_calls g p w.heap.size L n _ (h.below (below_alloc (Below.refl _ _) _)) hp (heap_alloc_new w _) hn (Nat.ne_of_gt h.lt) h1 h2).mono fun e w' hd => ?_
  obtain ⟨x, hx, he, hr, hg⟩ := hd
  exact ⟨x, hx, he, hr, ((But.refl g w).alloc _).trans hg⟩
/-- The same, of rows of the call's own. -/
theorem one_at' (g p : Nat) (L : List Int) (n : Nat) (lits : Array Value) (w : World) (b : Nat) (h : Rdr w g p) (hb : w.heap.size = b) (hp : p ≤ 1000000) (hlits : lits = (L.map (Value.int .i64)).toArray) (hn : L.length = n) (h1 : 1 ≤ n) (h2 : n ≤ 1000000) :
    Calls Try.prog 63 #[.pointer (some ⟨g, 0, none⟩), .slice (some ⟨b, 0, none⟩) n n] (w.alloc (.cells lits 3)) fun e w' => ∃ x : Int, x ∈ L ∧ e = .returned (.int .i64 x) ∧ Rdr w' g (p + 1) ∧ w.grownBy w' (some g) :=
  one_at g p L n lits w b h hb hp hlits hn h1 h2

/-! ### is a number in a list -/
set_option maxHeartbeats 1000000 in
theorem hasInt_calls (L : List Int) (n : Nat) (A : Option Addr) (cap : Nat) (x : Int) (w : World) (hr : RowInts w A L) (hn : L.length = n) (hl : n ≤ 1048576) :
    Calls Try.prog 69 #[.slice A n cap, .int .i64 x] w fun e w' => e = .returned (.bool (L.any (· == x))) ∧ w = w' := by
  have HR := Lib.hid hr
  have HN := Lib.hid hn
  clear hr hn
  have hlen : (n : Int) ≤ 1048576 := by omega
  go_enter Try.func69, Try.ntmps69
  go_wp2
  go_loop [5] (fun i => ∃ k : Nat, k ≤ n ∧ i = .int .i64 k ∧ Hid ((L.take k).any (· == x) = false)) (fun i => n - (intOf i).toNat)
  case atStart => exact ⟨0, by omega, rfl, by show _ = _; simp⟩
  case round =>
    obtain ⟨k, hk, rfl, HK⟩ := hrel
    by_cases hlt : k < n
    · obtain ⟨b, off, rfl, hat⟩ := HR.out (by rw [HN.out]; omega)
      obtain ⟨y, hy⟩ : ∃ y, L[k]? = some y := ⟨L[k]'(by rw [HN.out]; exact hlt), List.getElem?_eq_getElem _⟩
      have r0 := RowInts.at_ hat hy
      have hst : (L.take (k + 1)).any (· == x) = ((L.take k).any (· == x) || y == x) := by rw [List.take_add_one, hy, List.any_append]; simp
      have hal : (y == x) = true → L.any (· == x) = true := fun e => List.any_eq_true.2 ⟨y, List.mem_of_getElem? hy, e⟩
      have Hst := Lib.hid hst
      have Hal := Lib.hid hal
      clear hat hy hst hal
      have hk0 : (0 : Int) ≤ (k : Int) := by omega
      have hkn : (k : Int) < (n : Int) := by omega
      cases hq : (y == x)
      · have Hq := Lib.hid hq
        go_wp2
        go_round
        case rel => exact ⟨k + 1, by omega, by go_num, by show _ = _; rw [Hst.out, HK.out, Hq.out]; rfl⟩
        case measure => simp [intOf]; omega
      · have Hq := Lib.hid hq
        go_wp2
        go_ret
        exact ⟨by rw [Hal.out Hq.out]; rfl, rfl⟩
    · have hge : ¬ ((k : Int) < (n : Int)) := by omega
      have e1 : L.any (· == x) = false := by
        have := HK.out
        rwa [List.take_of_length_le (by rw [HN.out]; omega)] at this
      have E1 := Lib.hid e1
      clear e1
      go_wp2
      go_ret
      exact ⟨by rw [E1.out]; rfl, rfl⟩
end Go.Proofs.Ytcmecgnlhgjciaa
