/-
  What the rows of the past say of one another: each has itself and the past of all that it has; scalar times rise with it; cuts meet and join. No condition.
-/
import Derived.Test.YtmeehfiekhdbkaaCutP
namespace Go.Proofs.Ytmeehfiekhdbkaa
open Go.RowKit

theorem bitN_test (r k : Nat) : (bitN r k = 1) ↔ r.testBit k = true := by
  rw [Nat.testBit_eq_decide_div_mod_eq, bitN]; simp
theorem bitN_test0 (r k : Nat) : (bitN r k = 0) ↔ r.testBit k = false := by
  have h := bitN_test r k
  have h2 := bitN_le r k
  cases ht : r.testBit k
  · rw [ht] at h; simp at h; simp; omega
  · rw [ht] at h; simp at h; simp; omega
theorem sub_iff {a b : Nat} : (a &&& b = b) ↔ ∀ t, b.testBit t = true → a.testBit t = true := by
  constructor
  · intro h t ht
    have := congrArg (fun x => x.testBit t) h
    simp only [Nat.testBit_and, ht, Bool.and_true] at this
    exact this
  · intro h
    apply Nat.eq_of_testBit_eq
    intro t
    rw [Nat.testBit_and]
    cases ht : b.testBit t
    · simp
    · rw [h t ht]; rfl
theorem testBit_hi {a m t : Nat} (h : a < 2 ^ m) (ht : a.testBit t = true) : t < m := by
  by_cases hm : t < m
  · exact hm
  · have : a < 2 ^ t := Nat.lt_of_lt_of_le h (Nat.pow_le_pow_right (by omega) (by omega))
    rw [Nat.testBit_lt_two_pow this] at ht
    cases ht
theorem pastN_getD (cs : List EventD) {k n : Nat} (hk : k < n) : (pastN cs n).getD k 0 = pastRow cs k := by
  rw [List.getD, pastN_row cs hk]; rfl
theorem rowK_test (cs : List EventD) (i : Nat) (t : Nat) : ∀ k, k ≤ i → ((rowK cs i (pastN cs i) k).testBit t = true ↔ (t = i ∨ ∃ j, j < k ∧ relE (evAt cs i) (evAt cs j) = true ∧ (pastRow cs j).testBit t = true))
  | 0, _ => by
    rw [rowK, Nat.testBit_two_pow]
    simp only [decide_eq_true_eq]
    constructor
    · intro h; exact .inl h.symm
    · rintro (h | ⟨j, hj, _⟩)
      · exact h.symm
      · omega
  | k + 1, hk => by
    have ih := rowK_test cs i t k (by omega)
    rw [rowK, pastN_getD cs (show k < i by omega)]
    by_cases h : relE (evAt cs i) (evAt cs k) = true
    · rw [if_pos h, Nat.testBit_or, Bool.or_eq_true, ih]
      constructor
      · rintro ((h1 | ⟨j, hj, h1, h2⟩) | h1)
        · exact .inl h1
        · exact .inr ⟨j, by omega, h1, h2⟩
        · exact .inr ⟨k, by omega, h, h1⟩
      · rintro (h1 | ⟨j, hj, h1, h2⟩)
        · exact .inl (.inl h1)
        · by_cases e : j = k
          · subst e; exact .inr h2
          · exact .inl (.inr ⟨j, by omega, h1, h2⟩)
    · rw [if_neg h, ih]
      constructor
      · rintro (h1 | ⟨j, hj, h1, h2⟩)
        · exact .inl h1
        · exact .inr ⟨j, by omega, h1, h2⟩
      · rintro (h1 | ⟨j, hj, h1, h2⟩)
        · exact .inl h1
        · by_cases e : j = k
          · subst e; exact absurd h1 h
          · exact .inr ⟨j, by omega, h1, h2⟩
theorem pastRow_test (cs : List EventD) (i t : Nat) : ((pastRow cs i).testBit t = true ↔ (t = i ∨ ∃ j, j < i ∧ relE (evAt cs i) (evAt cs j) = true ∧ (pastRow cs j).testBit t = true)) :=
  rowK_test cs i t i (Nat.le_refl _)
theorem pastRow_self (cs : List EventD) (i : Nat) : (pastRow cs i).testBit i = true := (pastRow_test cs i i).2 (.inl rfl)
theorem pastRow_le (cs : List EventD) {i k : Nat} (h : (pastRow cs i).testBit k = true) : k ≤ i := by
  have := testBit_hi (pastRow_lt cs i) h
  omega
theorem pastRow_trans (cs : List EventD) : ∀ i k t, (pastRow cs i).testBit k = true → (pastRow cs k).testBit t = true → (pastRow cs i).testBit t = true := by
  intro i
  induction i using Nat.strongRecOn with
  | ind i ih =>
    intro k t hk ht
    rcases (pastRow_test cs i k).1 hk with e | ⟨j, hj, h1, h2⟩
    · subst e; exact ht
    · exact (pastRow_test cs i t).2 (.inr ⟨j, hj, h1, ih j hj k t h2 ht⟩)

/-! ### scalar times -/
def scRow (cs : List EventD) (i : Nat) : Nat := scK (pastRow cs i) (scN cs i) i + 1
theorem scN_getD (cs : List EventD) {k : Nat} : ∀ {n}, k < n → (scN cs n).getD k 0 = scRow cs k
  | 0, h => by omega
  | n + 1, h => by
    rw [scN]
    by_cases hk : k < n
    · rw [List.getD, List.getElem?_append_left (by rw [scN_len]; exact hk)]
      exact scN_getD cs hk
    · obtain rfl : k = n := by omega
      rw [List.getD, List.getElem?_append_right (by rw [scN_len]; omega), scN_len]
      simp [scRow]
theorem scK_ge (r : Nat) (L : List Nat) {k : Nat} (hb : bitN r k = 1) : ∀ {n}, k < n → L.getD k 0 ≤ scK r L n
  | 0, h => by omega
  | n + 1, h => by
    rw [scK]
    by_cases hk : k < n
    · have := scK_ge r L hb hk
      split <;> omega
    · obtain rfl : k = n := by omega
      rw [if_pos hb]; omega
theorem scRow_rise (cs : List EventD) {i k : Nat} (h : (pastRow cs i).testBit k = true) (hne : i ≠ k) : scRow cs k < scRow cs i := by
  have hle := pastRow_le cs h
  have := scK_ge (pastRow cs i) (scN cs i) ((bitN_test _ _).2 h) (show k < i by omega)
  rw [scN_getD cs (by omega)] at this
  unfold scRow at *
  omega

/-! ### cuts -/
theorem cutB_iff (cs : List EventD) (n s : Nat) : cutB cs n s = true ↔ ∀ i, i < n → s.testBit i = true → ∀ t, (pastRow cs i).testBit t = true → s.testBit t = true := by
  simp only [cutB, List.all_eq_true, List.mem_range]
  constructor
  · intro h i hi hs
    have h1 := h i hi
    have hb := (bitN_test s i).2 hs
    simp only [cutAt, hb, beq_self_eq_true, Bool.true_and, Bool.not_eq_true', bne_eq_false_iff_eq] at h1
    rw [Nat.and_comm] at h1
    exact sub_iff.1 h1
  · intro h i hi
    rw [cutAt]
    by_cases hb : bitN s i = 1
    · have h1 := sub_iff.2 (h i hi ((bitN_test s i).1 hb))
      rw [Nat.and_comm] at h1
      simp [hb, h1]
    · simp [hb]
theorem cutB_and {cs : List EventD} {n x y : Nat} (hx : cutB cs n x = true) (hy : cutB cs n y = true) : cutB cs n (x &&& y) = true := by
  rw [cutB_iff] at *
  intro i hi hs t ht
  rw [Nat.testBit_and, Bool.and_eq_true] at hs ⊢
  exact ⟨hx i hi hs.1 t ht, hy i hi hs.2 t ht⟩
theorem cutB_or {cs : List EventD} {n x y : Nat} (hx : cutB cs n x = true) (hy : cutB cs n y = true) : cutB cs n (x ||| y) = true := by
  rw [cutB_iff] at *
  intro i hi hs t ht
  rw [Nat.testBit_or, Bool.or_eq_true] at hs ⊢
  rcases hs with hs | hs
  · exact .inl (hx i hi hs t ht)
  · exact .inr (hy i hi hs t ht)
theorem cutB_row (cs : List EventD) {n i : Nat} (_hi : i < n) : cutB cs n (pastRow cs i) = true := by
  rw [cutB_iff]
  intro k _ hk t ht
  exact pastRow_trans cs i k t hk ht
theorem cutB_none (cs : List EventD) (n : Nat) : cutB cs n 0 = true := by
  rw [cutB_iff]; intro i _ h; simp at h
theorem cutB_full (cs : List EventD) (n : Nat) : cutB cs n (2 ^ n - 1) = true := by
  rw [cutB_iff]
  intro i hi _ t ht
  have := pastRow_le cs ht
  rw [Nat.testBit_two_pow_sub_one]
  simp; omega
end Go.Proofs.Ytmeehfiekhdbkaa
