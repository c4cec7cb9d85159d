/-
  What is told of accesses that the generator draws. No condition.
-/
import Derived.Test.YtooigcfdkmgjnaaGenA
namespace Go.Proofs.Ytooigcfdkmgjnaa
open Go.RowKit

def DrewAc (w w' : World) (e : Ending) : Prop := ∃ v cs, e = .returned v ∧ OwnAccesss w' w.heap.size v cs ∧ cs.length ≤ 10 ∧ Below w.heap.size w w'
theorem drew_ac {w w1 w2 : World} {p : Nat} {e : Ending} (hb : Below w.heap.size w w1) (h : SomeAc w1 w2 w.heap.size p e) : DrewAc w w2 e := by
  obtain ⟨v, cs, he, ho, hl, hbut, _⟩ := h
  exact ⟨v, cs, he, own_base ho hb.size, hl, hb.grown hbut hb.size (fun k hk => by injection hk with hk; omega)⟩
end Go.Proofs.Ytooigcfdkmgjnaa
