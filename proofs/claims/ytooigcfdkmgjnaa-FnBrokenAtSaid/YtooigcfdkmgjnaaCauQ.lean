/-
  What the program adds to a write's causes is what the reference adds: each row of causes has its own bit. No condition.
-/
import Derived.Test.YtooigcfdkmgjnaaCauP
namespace Go.Proofs.Ytooigcfdkmgjnaa
open Go.RowKit

theorem bitN_test (r k : Nat) : (bitN r k = 1) ↔ r.testBit k = true := by
  rw [Nat.testBit_eq_decide_div_mod_eq, bitN]; simp
theorem cauK_test (near : Nat) (L : List Nat) (start b : Nat) : ∀ n, (cauK near L start n).testBit b = true ↔ (start.testBit b = true ∨ ∃ j, j < n ∧ near.testBit j = true ∧ (L.getD j 0).testBit b = true)
  | 0 => by simp [cauK]
  | n + 1 => by
    have ih := cauK_test near L start b n
    rw [cauK]
    by_cases h : bitN near n = 1
    · rw [if_pos h, Nat.testBit_or, Bool.or_eq_true, ih]
      rw [bitN_test] at h
      constructor
      · rintro ((h1 | ⟨j, hj, h1, h2⟩) | h1)
        · exact .inl h1
        · exact .inr ⟨j, by omega, h1, h2⟩
        · exact .inr ⟨n, by omega, h, h1⟩
      · rintro (h1 | ⟨j, hj, h1, h2⟩)
        · exact .inl (.inl h1)
        · by_cases hjn : j = n
          · subst hjn; exact .inr h2
          · exact .inl (.inr ⟨j, by omega, h1, h2⟩)
    · rw [if_neg h, ih]
      rw [bitN_test] at h
      constructor
      · rintro (h1 | ⟨j, hj, h1, h2⟩)
        · exact .inl h1
        · exact .inr ⟨j, by omega, h1, h2⟩
      · rintro (h1 | ⟨j, hj, h1, h2⟩)
        · exact .inl h1
        · by_cases hjn : j = n
          · subst hjn; exact absurd h1 h
          · exact .inr ⟨j, by omega, h1, h2⟩
theorem cau_same {near own l : Nat} {L : List Nat} (hn : near < 2 ^ l) (hb : ∀ j, j < l → (L.getD j 0).testBit j = true) : own ||| cauK near L near l = cauK near L own l := by
  apply Nat.eq_of_testBit_eq
  intro b
  rw [Bool.eq_iff_iff, Nat.testBit_or, Bool.or_eq_true, cauK_test, cauK_test]
  constructor
  · rintro (h | h | h)
    · exact .inl h
    · have hbl : b < l := by
        by_cases hbl : b < l
        · exact hbl
        · have : near < 2 ^ b := Nat.lt_of_lt_of_le hn (Nat.pow_le_pow_right (by omega) (by omega))
          rw [Nat.testBit_lt_two_pow this] at h
          cases h
      exact .inr ⟨b, hbl, h, hb b hbl⟩
    · exact .inr h
  · rintro (h | h)
    · exact .inl h
    · exact .inr (.inr h)
/-- Each row of causes has its own bit. -/
theorem cauN_own (cs : List AccessD) : ∀ i, i ≤ cs.length → ∀ j, j < wrN cs i → ((cauN cs i).getD j 0).testBit j = true
  | 0, _, j, h => by simp [wrN] at h
  | i + 1, h, j, hj => by
    have ih := cauN_own cs i (by omega)
    have hlen := cauN_len cs i (by omega)
    have hc : cs[i]? = some (cs[i]'(by omega)) := List.getElem?_eq_getElem _
    have hs := wrN_succ hc
    rw [cauN, aAt_eq hc]
    generalize cs[i] = c at *
    cases hw : c.write
    · simp [hw] at hs ⊢
      have := ih j (by omega)
      simpa using this
    · simp [hw] at hs
      rw [if_pos rfl]
      by_cases hj2 : j < wrN cs i
      · rw [List.getD, List.getElem?_append_left (by omega)]
        exact ih j hj2
      · have e : j = wrN cs i := by omega
        rw [List.getD, List.getElem?_append_right (by omega), hlen, e]
        simp
        rw [cauK_test]
        exact .inl (by simp)
end Go.Proofs.Ytooigcfdkmgjnaa
