/-
  Sets with their causes: the reference's growing need and the program's closed set agree; what valid accesses are when reads are mended. No condition.
-/
import Derived.Test.YtooigcfdkmgjnaaCauQ
namespace Go.Proofs.Ytooigcfdkmgjnaa
open Go.RowKit

theorem bv_andNot (x y : BitVec 64) : x &&& ~~~y = x ^^^ (x &&& y) := by
  ext i hi
  simp
  cases x[i] <;> cases y[i] <;> rfl
theorem i64_andNot_nat (a b : Nat) (ha : a < 9223372036854775808) (hb : b < 9223372036854775808) : bits .andNot .i64 (a : Int) (b : Int) = ((a ^^^ (a &&& b) : Nat) : Int) := by
  have hx : a ^^^ (a &&& b) < 2 ^ 63 := Nat.xor_lt_two_pow (by omega) (Nat.and_lt_two_pow _ (by omega))
  show IntKind.i64.wrap ((BitVec.ofInt 64 (a : Int) &&& ~~~(BitVec.ofInt 64 (b : Int))).toNat : Int) = _
  rw [bv_andNot, BitVec.toNat_xor, BitVec.toNat_and, ofInt_i64 a ha, ofInt_i64 b hb, IntKind.wrap_i64]
  omega
theorem xor_and_zero (a b : Nat) : (a ^^^ (a &&& b) = 0) ↔ a &&& b = a := by
  constructor
  · intro h
    have := congrArg (fun t => a ^^^ t) h
    simpa [← Nat.xor_assoc] using this
  · intro h; rw [h]; simp

/-- All of a is in b. -/
def subN (a b : Nat) : Bool := a &&& b == a
theorem subN_iff {a b : Nat} : subN a b = true ↔ ∀ t, a.testBit t = true → b.testBit t = true := by
  rw [subN, beq_iff_eq]
  constructor
  · intro h t ht
    have := congrArg (fun x => x.testBit t) h
    simp only [Nat.testBit_and, ht, Bool.true_and] at this
    exact this
  · intro h
    apply Nat.eq_of_testBit_eq
    intro t
    rw [Nat.testBit_and]
    cases ht : a.testBit t
    · rfl
    · rw [h t ht]; rfl
theorem testBit_hi {a m t : Nat} (h : a < 2 ^ m) (ht : a.testBit t = true) : t < m := by
  by_cases hm : t < m
  · exact hm
  · have : a < 2 ^ t := Nat.lt_of_lt_of_le h (Nat.pow_le_pow_right (by omega) (by omega))
    rw [Nat.testBit_lt_two_pow this] at ht
    cases ht

/-- A need that grows by the rows of what it has, n rows on; what is asked has the set `more` besides. -/
def needK (more : Nat) (L : List Nat) (start : Nat) : Nat → Nat
  | 0 => start
  | n + 1 => if bitN (more ||| needK more L start n) n = 1 then needK more L start n ||| L.getD n 0 else needK more L start n
theorem needK_eq (more : Nat) (L : List Nat) (start : Nat) (hL : ∀ j, L.getD j 0 < 2 ^ (j + 1)) : ∀ n, needK more L start n = cauK (more ||| start) L start n
  | 0 => rfl
  | n + 1 => by
    have ih := needK_eq more L start hL n
    have hb : (bitN (more ||| needK more L start n) n = 1) ↔ (bitN (more ||| start) n = 1) := by
      rw [bitN_test, bitN_test, Nat.testBit_or, Nat.testBit_or, Bool.or_eq_true, Bool.or_eq_true, ih, cauK_test]
      constructor
      · rintro (h | h | ⟨j, hj, _, h⟩)
        · exact .inl h
        · exact .inr h
        · have := testBit_hi (hL j) h
          omega
      · rintro (h | h)
        · exact .inl h
        · exact .inr (.inl h)
    rw [needK, cauK, ih]
    rw [ih] at hb
    by_cases h : bitN (more ||| start) n = 1
    · rw [if_pos h, if_pos (hb.2 h)]
    · rw [if_neg h, if_neg (fun e => h (hb.1 e))]

/-! ### rows of causes: what stands in them -/
theorem cauN_pre (cs : List AccessD) : ∀ i, i < cs.length → ∀ j, j < wrN cs i → (cauN cs (i + 1)).getD j 0 = (cauN cs i).getD j 0 := by
  intro i hi j hj
  have hlen := cauN_len cs i (by omega)
  rw [cauN]
  split
  · rw [List.getD, List.getD, List.getElem?_append_left (by omega)]
  · rfl
theorem cauN_pre_le (cs : List AccessD) {i k : Nat} (h : i ≤ k) (hk : k ≤ cs.length) {j : Nat} (hj : j < wrN cs i) : (cauN cs k).getD j 0 = (cauN cs i).getD j 0 := by
  induction k with
  | zero => obtain rfl : i = 0 := by omega
            rfl
  | succ k ih =>
    by_cases e : i = k + 1
    · subst e; rfl
    · rw [cauN_pre cs k (by omega) j (Nat.lt_of_lt_of_le hj (wrN_mono cs (by omega))), ih (by omega) (by omega)]
theorem cauN_out (cs : List AccessD) {i j : Nat} (hi : i ≤ cs.length) (hj : wrN cs i ≤ j) : (cauN cs i).getD j 0 = 0 := by
  rw [List.getD, List.getElem?_eq_none (by rw [cauN_len cs i hi]; exact hj)]
  rfl
/-- A row has itself last, and with each other one all that one's. -/
theorem cauN_rows (cs : List AccessD) (hn : ∀ i, i ≤ cs.length → nearN cs i < 2 ^ wrN cs i) : ∀ i, i ≤ cs.length → ∀ n m, ((cauN cs i).getD n 0).testBit m = true → m ≤ n ∧ n < wrN cs i ∧ ∀ t, ((cauN cs i).getD m 0).testBit t = true → ((cauN cs i).getD n 0).testBit t = true
  | 0, _, n, m, h => by simp [cauN] at h
  | i + 1, hi, n, m, h => by
    have ih := cauN_rows cs hn i (by omega)
    have hlen := cauN_len cs i (by omega)
    have hnear := hn i (by omega)
    have hc : cs[i]? = some (cs[i]'(by omega)) := List.getElem?_eq_getElem _
    have hs := wrN_succ hc
    rw [cauN] at h ⊢
    rw [aAt_eq hc] at h ⊢
    generalize cs[i] = c at *
    cases hw : c.write
    · simp only [hw, Bool.false_eq_true, if_false] at h hs ⊢
      rw [hs]
      exact ih n m h
    · simp only [hw, if_true] at h hs ⊢
      by_cases hn1 : n < wrN cs i
      · rw [List.getD, List.getElem?_append_left (by omega)] at h
        obtain ⟨a, b, c'⟩ := ih n m h
        refine ⟨a, by omega, ?_⟩
        intro t ht
        rw [List.getD, List.getElem?_append_left (by omega)] at ht ⊢
        exact c' t ht
      · by_cases hn2 : n = wrN cs i
        · subst hn2
          have hrow : (cauN cs i ++ [cauK (nearN cs i) (cauN cs i) (2 ^ wrN cs i) (wrN cs i)]).getD (wrN cs i) 0 = cauK (nearN cs i) (cauN cs i) (2 ^ wrN cs i) (wrN cs i) := by
            rw [List.getD, List.getElem?_append_right (by omega), hlen]; simp
          rw [hrow] at h ⊢
          rw [cauK_test] at h
          rcases h with h | ⟨j, hj, hnj, h⟩
          · have hm : m = wrN cs i := by
              rw [Nat.testBit_two_pow] at h
              simpa using Eq.symm (of_decide_eq_true (by simpa using h))
            subst hm
            refine ⟨Nat.le_refl _, by omega, ?_⟩
            intro t ht
            rw [hrow] at ht
            exact ht
          · obtain ⟨a, b, c'⟩ := ih j m h
            refine ⟨by omega, by omega, ?_⟩
            intro t ht
            rw [List.getD, List.getElem?_append_left (by omega)] at ht
            rw [cauK_test]
            exact .inr ⟨j, hj, hnj, c' t ht⟩
        · rw [List.getD, List.getElem?_eq_none (by simp [hlen]; omega)] at h
          simp at h
theorem cauN_low (cs : List AccessD) (hn : ∀ i, i ≤ cs.length → nearN cs i < 2 ^ wrN cs i) {i : Nat} (hi : i ≤ cs.length) (j : Nat) : (cauN cs i).getD j 0 < 2 ^ (j + 1) := by
  apply Nat.lt_pow_two_of_testBit
  intro t ht
  cases h : ((cauN cs i).getD j 0).testBit t
  · rfl
  · have := (cauN_rows cs hn i hi j t h).1
    omega
theorem near_all {cs : List AccessD} (hv : accB cs = true) : ∀ i, i ≤ cs.length → nearN cs i < 2 ^ wrN cs i := fun _ hi => nearN_lt hv hi
end Go.Proofs.Ytooigcfdkmgjnaa
