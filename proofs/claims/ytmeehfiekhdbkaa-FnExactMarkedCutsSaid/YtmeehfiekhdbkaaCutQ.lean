/-
  The list of all cuts: what is in it; it ascends. No condition.
-/
import Derived.Test.YtmeehfiekhdbkaaCuts
import Derived.Test.YtmeehfiekhdbkaaPastQ
namespace Go.Proofs.Ytmeehfiekhdbkaa
open Go.RowKit

theorem cutsTo_mem {cs : List EventD} {n K : Nat} {x : Int} : x ∈ cutsTo cs n K ↔ ∃ s : Nat, s < K ∧ cutB cs n s = true ∧ x = s := by
  simp only [cutsTo, List.mem_map, List.mem_filter, List.mem_range]
  constructor
  · rintro ⟨s, ⟨h1, h2⟩, rfl⟩; exact ⟨s, h1, h2, rfl⟩
  · rintro ⟨s, h1, h2, rfl⟩; exact ⟨s, ⟨h1, h2⟩, rfl⟩
theorem cutsTo_any {cs : List EventD} {n K s : Nat} (h1 : s < K) (h2 : cutB cs n s = true) : (cutsTo cs n K).any (· == (s : Int)) = true :=
  List.any_eq_true.2 ⟨(s : Int), cutsTo_mem.2 ⟨s, h1, h2, rfl⟩, by simp⟩
theorem cutsTo_in {cs : List EventD} {n K : Nat} (x : Int) : (cutsTo cs n K).any (· == x) = (decide (0 ≤ x ∧ x < K) && cutB cs n x.toNat) := by
  rw [Bool.eq_iff_iff, List.any_eq_true, Bool.and_eq_true, decide_eq_true_eq]
  constructor
  · rintro ⟨y, hy, he⟩
    obtain ⟨s, h1, h2, rfl⟩ := cutsTo_mem.1 hy
    have e : x = (s : Int) := by simpa using (beq_iff_eq.1 he).symm
    subst e
    exact ⟨by omega, by simpa using h2⟩
  · rintro ⟨h, h2⟩
    exact ⟨x, cutsTo_mem.2 ⟨x.toNat, by omega, h2, by omega⟩, by simp⟩
theorem cutsTo_rise (cs : List EventD) (n K : Nat) : (cutsTo cs n K).Pairwise (· < ·) := by
  rw [cutsTo, List.pairwise_map]
  exact ((List.pairwise_lt_range).filter _).imp (fun h => by simpa using h)
theorem rise_at {L : List Int} (h : L.Pairwise (· < ·)) {i : Nat} {x y : Int} (hx : L[i]? = some x) (hy : L[i + 1]? = some y) : x < y := by
  obtain ⟨h1, e1⟩ := List.getElem?_eq_some_iff.1 hx
  obtain ⟨h2, e2⟩ := List.getElem?_eq_some_iff.1 hy
  rw [← e1, ← e2]
  exact List.pairwise_iff_getElem.1 h i (i + 1) h1 h2 (by omega)
/-- What the loop of the law asks of two cuts. -/
theorem cuts_pair {cs : List EventD} {n : Nat} {x y : Int} (hx : x ∈ cutsTo cs n (2 ^ n)) (hy : y ∈ cutsTo cs n (2 ^ n)) :
    ∃ a b : Nat, x = a ∧ y = b ∧ a < 2 ^ n ∧ b < 2 ^ n ∧ (cutsTo cs n (2 ^ n)).any (· == ((a &&& b : Nat) : Int)) = true ∧ (cutsTo cs n (2 ^ n)).any (· == ((a ||| b : Nat) : Int)) = true := by
  obtain ⟨a, h1, h2, rfl⟩ := cutsTo_mem.1 hx
  obtain ⟨b, h3, h4, rfl⟩ := cutsTo_mem.1 hy
  exact ⟨a, b, rfl, rfl, h1, h3, cutsTo_any (Nat.and_lt_two_pow _ h3) (cutB_and h2 h4), cutsTo_any (Nat.or_lt_two_pow h1 h3) (cutB_or h2 h4)⟩
end Go.Proofs.Ytmeehfiekhdbkaa
