/-
  Worlds that changed in some blocks alone. No condition.
-/
import Derived.Test.YtkahhcpfkebgiaaOwn
namespace Go.Proofs.Ytkahhcpfkebgiaa
open Go.RowKit Go.ChangeShapes Go.WideShapes Go.Deep

/-- w' is w but for new blocks and the blocks of p. -/
structure Far (p : Nat → Prop) (w w' : World) : Prop where
  os : w'.os = w.os
  tape : w'.tape = w.tape
  output : w'.output = w.output
  size : w.heap.size ≤ w'.heap.size
  block : ∀ k, k < w.heap.size → ¬ p k → w'.heap[k]? = w.heap[k]?
theorem Far.refl (p : Nat → Prop) (w : World) : Far p w w := ⟨rfl, rfl, rfl, Nat.le_refl _, fun _ _ _ => rfl⟩
theorem Far.trans {p : Nat → Prop} {a b c : World} (h : Far p a b) (k : Far p b c) : Far p a c :=
  ⟨k.os.trans h.os, k.tape.trans h.tape, k.output.trans h.output, Nat.le_trans h.size k.size, fun i hi hp => (k.block i (Nat.lt_of_lt_of_le hi h.size) hp).trans (h.block i hi hp)⟩
theorem Far.alloc {p : Nat → Prop} {a b : World} (h : Far p a b) (o : Obj) : Far p a (b.alloc o) :=
  ⟨h.os, h.tape, h.output, Nat.le_trans h.size (by simp), fun i hi hp => (heap_alloc_old b o (Nat.lt_of_lt_of_le hi h.size)).trans (h.block i hi hp)⟩
theorem Far.drew {p : Nat → Prop} {a b : World} (h : Far p a b) : Far p a b.drew := ⟨h.os, h.tape, h.output, h.size, h.block⟩
theorem Far.grown {p : Nat → Prop} {a b c : World} {row : Option Nat} (h : Far p a b) (k : b.grownBy c row) (hr : ∀ i, i < a.heap.size → row = some i → p i) : Far p a c :=
  ⟨k.os.trans h.os, k.tape.trans h.tape, k.output.trans h.output, Nat.le_trans h.size k.size, fun i hi hp => (k.block i (Nat.lt_of_lt_of_le hi h.size) (fun e => hp (hr i hi e.symm))).trans (h.block i hi hp)⟩
theorem Far.below {p : Nat → Prop} {a b c : World} (h : Far p a b) (k : Below b.heap.size b c) : Far p a c :=
  ⟨k.os.trans h.os, k.tape.trans h.tape, k.output.trans h.output, Nat.le_trans h.size k.size, fun i hi hp => (k.block i (Nat.lt_of_lt_of_le hi h.size)).trans (h.block i hi hp)⟩
theorem Far.weaken {p q : Nat → Prop} {a b : World} (h : Far p a b) (hpq : ∀ k, k < a.heap.size → p k → q k) : Far q a b := ⟨h.os, h.tape, h.output, h.size, fun i hi hq => h.block i hi (fun e => hq (hpq i hi e))⟩
theorem Far.toBelow {p : Nat → Prop} {B : Nat} {a b : World} (h : Far p a b) (hB : B ≤ a.heap.size) (hp : ∀ k, p k → B ≤ k) : Below B a b :=
  ⟨h.os, h.tape, h.output, h.size, fun i hi => h.block i (Nat.lt_of_lt_of_le hi hB) (fun e => by have := hp i e; omega)⟩
theorem Far.grownBy {a b : World} {g : Nat} (h : Far (· = g) a b) : a.grownBy b (some g) :=
  ⟨h.os, h.tape, h.output, h.size, fun i hi hne => h.block i hi (fun e => hne (by rw [e]))⟩
theorem Far.of_grown {a b : World} {g : Nat} (h : a.grownBy b (some g)) : Far (· = g) a b := (Far.refl _ a).grown h (fun i _ e => by injection e with e; exact e.symm)
theorem Far.cell {p : Nat → Prop} {a b : World} (h : Far p a b) {x : Addr} {u : Value} (hc : a.cell? x = some u) (hp : ¬ p x.block) : b.cell? x = some u :=
  (World.cell?_of_block (h.block x.block (World.block_lt_of_cell? a x hc) hp)).trans hc
theorem Far.own {p : Nat → Prop} {a b : World} {B : Nat} {e : TypeId} {sz n : Nat} {v : Value} {xs : List Value} (h : Far p a b) (ho : a.ownsRow B e sz v n xs) (hp : ∀ k, v.ownBlock = some k → ¬ p k) : b.ownsRow B e sz v n xs := by
  refine ⟨ho.1, ?_⟩
  rcases ho.2 with hn | ⟨g, cap, cur, rfl, hb, hg, rest⟩
  · exact .inl hn
  · exact .inr ⟨g, cap, cur, rfl, hb, (h.block g (Array.getElem?_eq_some_iff.1 hg).1 (hp g rfl)).trans hg, rest⟩
end Go.Proofs.Ytkahhcpfkebgiaa
