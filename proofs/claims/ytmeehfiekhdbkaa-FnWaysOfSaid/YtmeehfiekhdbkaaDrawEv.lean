/-
  What is told of events that the generator draws; valid events are valid without their last ones. No condition.
-/
import Derived.Test.YtmeehfiekhdbkaaGenE
import Derived.Test.YtmeehfiekhdbkaaEvP
namespace Go.Proofs.Ytmeehfiekhdbkaa
open Go.RowKit

def DrewEv (w w' : World) (e : Ending) : Prop := ∃ v cs, e = .returned v ∧ OwnEvents w' w.heap.size v cs ∧ (∀ c ∈ cs, c.good) ∧ cs.length ≤ 7 ∧ Below w.heap.size w w'
theorem drew_ev {w w1 w2 : World} {p : Nat} {e : Ending} (hb : Below w.heap.size w w1) (h : SomeEv w1 w2 w.heap.size p e) : DrewEv w w2 e := by
  obtain ⟨v, cs, he, ho, hg, hl, hbut, _⟩ := h
  exact ⟨v, cs, he, own_base ho hb.size, hg, hl, hb.grown hbut hb.size (fun k hk => by injection hk with hk; omega)⟩
theorem evAt_take {cs : List EventD} {k j : Nat} (h : j < k) : evAt (cs.take k) j = evAt cs j := by
  unfold evAt
  rw [List.getD, List.getElem?_take, if_pos h, List.getD]
theorem all_congr_range {n : Nat} {p q : Nat → Bool} (h : ∀ i, i < n → p i = q i) : (List.range n).all p = (List.range n).all q := by
  rw [Bool.eq_iff_iff, List.all_eq_true, List.all_eq_true]
  constructor
  · intro hp i hi; rw [← h i (List.mem_range.1 hi)]; exact hp i hi
  · intro hp i hi; rw [h i (List.mem_range.1 hi)]; exact hp i hi
theorem any_congr_range {n : Nat} {p q : Nat → Bool} (h : ∀ i, i < n → p i = q i) : (List.range n).any p = (List.range n).any q := by
  rw [Bool.eq_iff_iff, List.any_eq_true, List.any_eq_true]
  constructor
  · rintro ⟨i, hi, hp⟩; exact ⟨i, hi, by rw [← h i (List.mem_range.1 hi)]; exact hp⟩
  · rintro ⟨i, hi, hp⟩; exact ⟨i, hi, by rw [h i (List.mem_range.1 hi)]; exact hp⟩
theorem evRow_take' {cs : List EventD} {k i : Nat} (h : i < k) : evRow (cs.take k) i = evRow cs i := by
  unfold evRow
  rw [evAt_take h]
  rw [all_congr_range (q := fun k => !evBar (evAt cs i) (evAt cs k)) (fun j hj => by rw [evAt_take (show j < k by omega)])]
  rw [any_congr_range (q := fun k => evSent (evAt cs i) (evAt cs k)) (fun j hj => by rw [evAt_take (show j < k by omega)])]
theorem evB_take {cs : List EventD} (h : evB cs = true) (k : Nat) : evB (cs.take k) = true := by
  refine evB_true (Nat.le_trans (by rw [List.length_take]; omega) (evB_len h)) ?_
  rw [List.all_eq_true]
  intro i hi
  rw [List.mem_range, List.length_take] at hi
  rw [evRow_take' (show i < k by omega)]
  simp only [evB, Bool.and_eq_true, List.all_eq_true] at h
  exact h.2 i (List.mem_range.2 (by omega))
end Go.Proofs.Ytmeehfiekhdbkaa
