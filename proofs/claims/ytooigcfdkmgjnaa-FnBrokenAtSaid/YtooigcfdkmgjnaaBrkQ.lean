/-
  Plain laws of accesses: four promises are causes; a prefix breaks what it broke; mended reads are causal. No condition.
-/
import Derived.Test.YtooigcfdkmgjnaaBrkP
namespace Go.Proofs.Ytooigcfdkmgjnaa
open Go.RowKit

/-! ### prefixes -/
theorem aAt_take {cs : List AccessD} {k j : Nat} (h : j < k) : aAt (cs.take k) j = aAt cs j := by
  unfold aAt
  rw [List.getD, List.getElem?_take, if_pos h, List.getD]
theorem wrN_take {cs : List AccessD} {k i : Nat} (h : i ≤ k) : wrN (cs.take k) i = wrN cs i := by
  unfold wrN; rw [List.take_take, Nat.min_eq_left h]
theorem mineK_take {cs : List AccessD} {k : Nat} (s : Int) : ∀ i, i ≤ k → mineK (cs.take k) s i = mineK cs s i
  | 0, _ => rfl
  | i + 1, h => by rw [mineK, mineK, mineK_take s i (by omega), aAt_take (show i < k by omega), wrN_take (show i ≤ k by omega)]
theorem seenK_take {cs : List AccessD} {k : Nat} (s : Int) : ∀ i, i ≤ k → seenK (cs.take k) s i = seenK cs s i
  | 0, _ => rfl
  | i + 1, h => by rw [seenK, seenK, seenK_take s i (by omega), aAt_take (show i < k by omega)]
theorem rowN_take {cs : List AccessD} {k : Nat} : ∀ i, i ≤ k → rowN (cs.take k) i = rowN cs i
  | 0, _ => rfl
  | i + 1, h => by rw [rowN, rowN, rowN_take i (by omega), aAt_take (show i < k by omega), mineK_take _ i (by omega)]
theorem folN_take {cs : List AccessD} {k : Nat} : ∀ i, i ≤ k → folN (cs.take k) i = folN cs i
  | 0, _ => rfl
  | i + 1, h => by rw [folN, folN, folN_take i (by omega), aAt_take (show i < k by omega), seenK_take _ i (by omega)]
theorem brkB_take (p : Pr) {cs : List AccessD} {k i : Nat} (h : i < k) : brkB p (cs.take k) i = brkB p cs i := by
  unfold brkB
  rw [aAt_take h]
  congr 1
  cases p <;> simp only [brk, seenN, aAt_take h, mineK_take _ i (Nat.le_of_lt h), seenK_take _ i (Nat.le_of_lt h), rowN_take i (Nat.le_of_lt h), folN_take i (Nat.le_of_lt h)]
/-- What is said of the first break. -/
theorem broke_some {p : Option Pr} {cs : List AccessD} {x : Int} (hb : brokeV p cs = (x, true)) : ∃ q, p = some q ∧ accB cs = true ∧ ((x = -1 ∧ firstB q cs = none) ∨ ∃ i : Nat, x = i ∧ i < cs.length ∧ firstB q cs = some i) := by
  cases p with
  | none => simp [brokeV] at hb
  | some q =>
    refine ⟨q, rfl, ?_⟩
    simp only [brokeV] at hb
    split at hb
    · rename_i hv
      refine ⟨hv, ?_⟩
      split at hb
      · rename_i i hi
        refine .inr ⟨i, ?_, ?_, hi⟩
        · simpa using (congrArg Prod.fst hb).symm
        · exact List.mem_range.1 (List.mem_of_find?_eq_some hi)
      · rename_i hi
        exact .inl ⟨by simpa using (congrArg Prod.fst hb).symm, hi⟩
    · simp at hb
theorem broke_prefix {q : Pr} {cs : List AccessD} (hv : accB cs = true) {i : Nat} (hi : firstB q cs = some i) :
    i < cs.length ∧ brokeV (some q) (cs.take i) = (-1, true) ∧ brokeV (some q) (cs.take (i + 1)) = ((i : Int), true) ∧ (aAt cs i).write = false := by
  have hlt : i < cs.length := List.mem_range.1 (List.mem_of_find?_eq_some hi)
  rw [firstB, List.find?_range_eq_some] at hi
  obtain ⟨h1, _, h3⟩ := hi
  have e1 : (cs.take i).length = i := by rw [List.length_take]; omega
  have e2 : (cs.take (i + 1)).length = i + 1 := by rw [List.length_take]; omega
  refine ⟨hlt, ?_, ?_, ?_⟩
  · refine brokeV_none (accB_take hv i) ?_
    rw [e1, List.all_eq_true]
    intro j hj
    have hj := List.mem_range.1 hj
    rw [brkB_take q hj]
    exact h3 j hj
  · refine brokeV_hit (accB_take hv (i + 1)) (by omega) ?_ ?_
    · rw [List.all_eq_true]
      intro j hj
      have hj := List.mem_range.1 hj
      rw [brkB_take q (show j < i + 1 by omega)]
      exact h3 j hj
    · rw [brkB_take q (by omega)]; exact h1
  · simp only [brkB, Bool.and_eq_true, Bool.not_eq_true'] at h1
    exact h1.1

/-! ### four promises are causes -/
theorem lacks_false {L : List Nat} {seen : Nat} : lacks L seen = false ↔ ∀ n, n < L.length → seen.testBit n = true → ∀ t, (L.getD n 0).testBit t = true → seen.testBit t = true := by
  rw [lacks, List.any_eq_false]
  constructor
  · intro h n hn hs
    have h1 := h n (List.mem_range.2 hn)
    have hb := (bitN_test seen n).2 hs
    simp only [hb, beq_self_eq_true, Bool.true_and, Bool.not_eq_true', Bool.not_eq_false] at h1
    exact subN_iff.1 h1
  · intro h n hn
    by_cases hs : seen.testBit n = true
    · have := subN_iff.2 (h n (List.mem_range.1 hn) hs)
      rw [this]; simp
    · have : ¬ bitN seen n = 1 := fun e => hs ((bitN_test seen n).1 e)
      simp [this]
theorem getD_snoc_lo {L : List Nat} {x n : Nat} (h : n < L.length) : (L ++ [x]).getD n 0 = L.getD n 0 := by rw [List.getD, List.getElem?_append_left h]; rfl
theorem getD_snoc {L : List Nat} {x : Nat} : (L ++ [x]).getD L.length 0 = x := by rw [List.getD, List.getElem?_append_right (Nat.le_refl _)]; simp
/-- What stands in a row of causes: itself, and the rows of what its session had made and had. -/
theorem cauN_in {cs : List AccessD} (hv : accB cs = true) : ∀ i, i ≤ cs.length → ∀ n, n < wrN cs i → ∀ b, (((cauN cs i).getD n 0).testBit b = true ↔ (b = n ∨ ∃ j, j < n ∧ (((rowN cs i).getD n 0).testBit j = true ∨ ((folN cs i).getD n 0).testBit j = true) ∧ ((cauN cs i).getD j 0).testBit b = true))
  | 0, _, n, h, b => by simp [wrN] at h
  | i + 1, hi, n, hn, b => by
    have ih := cauN_in hv i (by omega)
    have hlen := cauN_len cs i (by omega)
    have hlr := rowN_len cs i (by omega)
    have hlf := folN_len cs i (by omega)
    have hc : cs[i]? = some (cs[i]'(by omega)) := List.getElem?_eq_getElem _
    have hs := wrN_succ hc
    rw [cauN, rowN, folN]
    have hnr := nearN cs i
    rw [aAt_eq hc]
    have hne := nearN_eq hc
    generalize cs[i] = c at *
    cases hw : c.write
    · simp only [hw, Bool.false_eq_true, if_false] at hs ⊢
      exact ih n (by omega) b
    · simp only [hw, if_true] at hs ⊢
      by_cases h1 : n < wrN cs i
      · rw [getD_snoc_lo (show n < (cauN cs i).length by omega), getD_snoc_lo (show n < (rowN cs i).length by omega), getD_snoc_lo (show n < (folN cs i).length by omega), ih n h1 b]
        constructor
        · rintro (h | ⟨j, hj, h2, h3⟩)
          · exact .inl h
          · exact .inr ⟨j, hj, h2, by rw [getD_snoc_lo (by omega)]; exact h3⟩
        · rintro (h | ⟨j, hj, h2, h3⟩)
          · exact .inl h
          · exact .inr ⟨j, hj, h2, by rw [getD_snoc_lo (by omega)] at h3; exact h3⟩
      · obtain rfl : n = wrN cs i := by omega
        have g1 : (cauN cs i ++ [cauK (nearN cs i) (cauN cs i) (2 ^ wrN cs i) (wrN cs i)]).getD (wrN cs i) 0 = cauK (nearN cs i) (cauN cs i) (2 ^ wrN cs i) (wrN cs i) := by rw [← hlen]; exact getD_snoc
        have g2 : (rowN cs i ++ [mineK cs c.session i]).getD (wrN cs i) 0 = mineK cs c.session i := by rw [← hlr]; exact getD_snoc
        have g3 : (folN cs i ++ [seenK cs c.session i]).getD (wrN cs i) 0 = seenK cs c.session i := by rw [← hlf]; exact getD_snoc
        rw [g1, g2, g3, cauK_test, Nat.testBit_two_pow, hne]
        simp only [decide_eq_true_eq, Nat.testBit_or, Bool.or_eq_true]
        constructor
        · rintro (h | ⟨j, hj, h2, h3⟩)
          · exact .inl h.symm
          · exact .inr ⟨j, hj, h2, by rw [getD_snoc_lo (by omega)]; exact h3⟩
        · rintro (h | ⟨j, hj, h2, h3⟩)
          · exact .inl h.symm
          · exact .inr ⟨j, hj, h2, by rw [getD_snoc_lo (by omega)] at h3; exact h3⟩
theorem rowN_low (cs : List AccessD) : ∀ i, i ≤ cs.length → ∀ n, n < wrN cs i → (rowN cs i).getD n 0 < 2 ^ n
  | 0, _, n, h => by simp [wrN] at h
  | i + 1, hi, n, hn => by
    have ih := rowN_low cs i (by omega)
    have hlr := rowN_len cs i (by omega)
    have hc : cs[i]? = some (cs[i]'(by omega)) := List.getElem?_eq_getElem _
    have hs := wrN_succ hc
    rw [rowN, aAt_eq hc]
    generalize cs[i] = c at *
    cases hw : c.write
    · simp only [hw, Bool.false_eq_true, if_false] at hs ⊢
      exact ih n (by omega)
    · simp only [hw, if_true] at hs ⊢
      by_cases h1 : n < wrN cs i
      · rw [getD_snoc_lo (by omega)]; exact ih n h1
      · obtain rfl : n = wrN cs i := by omega
        have g2 : (rowN cs i ++ [mineK cs c.session i]).getD (wrN cs i) 0 = mineK cs c.session i := by rw [← hlr]; exact getD_snoc
        rw [g2]; exact mineK_lt cs _ i (by omega)
theorem folN_low {cs : List AccessD} (hv : accB cs = true) : ∀ i, i ≤ cs.length → ∀ n, n < wrN cs i → (folN cs i).getD n 0 < 2 ^ n
  | 0, _, n, h => by simp [wrN] at h
  | i + 1, hi, n, hn => by
    have ih := folN_low hv i (by omega)
    have hlr := folN_len cs i (by omega)
    have hc : cs[i]? = some (cs[i]'(by omega)) := List.getElem?_eq_getElem _
    have hs := wrN_succ hc
    rw [folN, aAt_eq hc]
    generalize cs[i] = c at *
    cases hw : c.write
    · simp only [hw, Bool.false_eq_true, if_false] at hs ⊢
      exact ih n (by omega)
    · simp only [hw, if_true] at hs ⊢
      by_cases h1 : n < wrN cs i
      · rw [getD_snoc_lo (by omega)]; exact ih n h1
      · obtain rfl : n = wrN cs i := by omega
        have g2 : (folN cs i ++ [seenK cs c.session i]).getD (wrN cs i) 0 = seenK cs c.session i := by rw [← hlr]; exact getD_snoc
        rw [g2]; exact seenK_lt hv _ i (by omega)
/-- A read that is causal breaks no promise; one that breaks none is causal. -/
theorem caus_four {cs : List AccessD} (hv : accB cs = true) {i : Nat} (hi : i < cs.length) :
    causRow cs i = (!brkB .own cs i && !brkB .steady cs i && !brkB .row cs i && !brkB .follow cs i) := by
  unfold causRow brkB
  cases hw : (aAt cs i).write
  · have hs := seenN_lt hv hi
    simp only [Bool.not_false, Bool.true_and, brk, Bool.false_or, Bool.not_not]
    rw [Bool.eq_iff_iff]
    simp only [Bool.and_eq_true, Bool.not_eq_true']
    rw [subN_iff, subN_iff, subN_iff, lacks_false, lacks_false, rowN_len cs i (by omega), folN_len cs i (by omega)]
    constructor
    · intro h
      have hc : ∀ n, n < wrN cs i → (seenN cs i).testBit n = true → ∀ t, ((cauN cs i).getD n 0).testBit t = true → (seenN cs i).testBit t = true := by
        intro n hn hsn t ht
        refine h t ?_
        rw [Nat.testBit_or, Bool.or_eq_true, cauK_test]
        exact .inr (.inr ⟨n, hn, hsn, ht⟩)
      refine ⟨⟨⟨?_, ?_⟩, ?_⟩, ?_⟩
      · intro t ht; exact h t (by rw [Nat.testBit_or, nearN, Nat.testBit_or, ht]; rfl)
      · intro t ht; exact h t (by rw [Nat.testBit_or, nearN, Nat.testBit_or, ht]; simp)
      · intro n hn hsn t ht
        have htn := testBit_hi (rowN_low cs i (by omega) n hn) ht
        exact hc n hn hsn t ((cauN_in hv i (by omega) n hn t).2 (.inr ⟨t, htn, .inl ht, cauN_own cs i (by omega) t (by omega)⟩))
      · intro n hn hsn t ht
        have htn := testBit_hi (folN_low hv i (by omega) n hn) ht
        exact hc n hn hsn t ((cauN_in hv i (by omega) n hn t).2 (.inr ⟨t, htn, .inr ht, cauN_own cs i (by omega) t (by omega)⟩))
    · rintro ⟨⟨⟨h1, h2⟩, h3⟩, h4⟩ t ht
      have hc : ∀ n, n < wrN cs i → (seenN cs i).testBit n = true → ∀ t, ((cauN cs i).getD n 0).testBit t = true → (seenN cs i).testBit t = true := by
        intro n
        induction n using Nat.strongRecOn with
        | ind n ih =>
          intro hn hsn t ht
          rcases (cauN_in hv i (by omega) n hn t).1 ht with e | ⟨j, hj, hjr, hjt⟩
          · subst e; exact hsn
          · refine ih j hj (by omega) ?_ t hjt
            rcases hjr with hjr | hjr
            · exact h3 n hn hsn j hjr
            · exact h4 n hn hsn j hjr
      rw [Nat.testBit_or, Bool.or_eq_true, nearN, Nat.testBit_or, Bool.or_eq_true, cauK_test] at ht
      rcases ht with (ht | ht) | ht | ⟨n, hn, hsn, ht⟩
      · exact h1 t ht
      · exact h2 t ht
      · exact ht
      · exact hc n hn hsn t ht
  · simp
theorem first_none {p : Pr} {cs : List AccessD} : firstB p cs = none ↔ ∀ i, i < cs.length → brkB p cs i = false := by
  rw [firstB, List.find?_eq_none]
  constructor
  · intro h i hi; simpa using h i (List.mem_range.2 hi)
  · intro h i hi; simpa using h i (List.mem_range.1 hi)
theorem broke_neg {p : Pr} {cs : List AccessD} (hv : accB cs = true) : ∃ x, brokeV (some p) cs = (x, true) ∧ decide (x < 0) = (firstB p cs).isNone := by
  simp only [brokeV, hv, if_true]
  cases hf : firstB p cs with
  | none => exact ⟨-1, rfl, rfl⟩
  | some i => exact ⟨(i : Int), rfl, by simp⟩
theorem causal_four {cs : List AccessD} (hv : accB cs = true) : causalB cs = ((firstB .own cs).isNone && (firstB .steady cs).isNone && (firstB .row cs).isNone && (firstB .follow cs).isNone) := by
  rw [causalB, hv, Bool.true_and, Bool.eq_iff_iff]
  simp only [Bool.and_eq_true, Option.isNone_iff_eq_none, first_none, List.all_eq_true, List.mem_range]
  constructor
  · intro h
    have h' : ∀ i, i < cs.length → ((brkB .own cs i = false ∧ brkB .steady cs i = false) ∧ brkB .row cs i = false) ∧ brkB .follow cs i = false := fun i hi => by
      have := h i hi
      rw [caus_four hv hi] at this
      simpa only [Bool.and_eq_true, Bool.not_eq_true'] using this
    exact ⟨⟨⟨fun i hi => (h' i hi).1.1.1, fun i hi => (h' i hi).1.1.2⟩, fun i hi => (h' i hi).1.2⟩, fun i hi => (h' i hi).2⟩
  · rintro ⟨⟨⟨h1, h2⟩, h3⟩, h4⟩ i hi
    rw [caus_four hv hi, h1 i hi, h2 i hi, h3 i hi, h4 i hi]; rfl

/-! ### mended reads -/
/-- A set with its causes has the causes of all that it has. -/
theorem due_closed {cs : List AccessD} (hv : accB cs = true) {i : Nat} (hi : i ≤ cs.length) {S n t : Nat} (hn : n < wrN cs i) (h : (cauK S (cauN cs i) S (wrN cs i)).testBit n = true) (ht : ((cauN cs i).getD n 0).testBit t = true) : (cauK S (cauN cs i) S (wrN cs i)).testBit t = true := by
  rw [cauK_test] at h ⊢
  rcases h with h | ⟨j, hj, h1, h2⟩
  · exact .inr ⟨n, hn, h, ht⟩
  · exact .inr ⟨j, hj, h1, (cauN_rows cs (near_all hv) i hi j n h2).2.2 t ht⟩
theorem mendK_take (cs : List AccessD) {i k : Nat} (h : i ≤ k) : (mendK cs k).take i = mendK cs i := by
  apply List.ext_getElem?
  intro j
  rw [List.getElem?_take]
  by_cases hj : j < i
  · rw [if_pos hj, mendK_get cs (show j < k by omega), mendK_get cs hj]
  · rw [if_neg hj, List.getElem?_eq_none (by rw [mendK_len]; omega)]
theorem cauN_take {cs : List AccessD} {k : Nat} : ∀ i, i ≤ k → cauN (cs.take k) i = cauN cs i
  | 0, _ => rfl
  | i + 1, h => by rw [cauN, cauN, cauN_take i (by omega), aAt_take (show i < k by omega), wrN_take (show i ≤ k by omega), nearN, nearN, aAt_take (show i < k by omega), mineK_take _ i (by omega), seenK_take _ i (by omega)]
/-- What a read must have, of a list without it and those behind. -/
theorem dueN_take {M : List AccessD} {i : Nat} (hi : i < M.length) : dueN (M.take i) (aAt M i) = cauK (seenN M i ||| nearN M i) (cauN M i) (seenN M i ||| nearN M i) (wrN M i) := by
  have e : (M.take i).length = i := by rw [List.length_take]; omega
  rw [dueN, e, mineK_take _ i (Nat.le_refl _), seenK_take _ i (Nat.le_refl _), cauN_take i (Nat.le_refl _), wrN_take (Nat.le_refl _)]
  rfl
theorem causRow_iff {cs : List AccessD} {i : Nat} (hw : (aAt cs i).write = false) : causRow cs i = true ↔ (∀ t, (nearN cs i).testBit t = true → (seenN cs i).testBit t = true) ∧ ∀ n, n < wrN cs i → (seenN cs i).testBit n = true → ∀ t, ((cauN cs i).getD n 0).testBit t = true → (seenN cs i).testBit t = true := by
  rw [causRow, hw, Bool.false_or, subN_iff]
  constructor
  · intro h
    exact ⟨fun t ht => h t (by rw [Nat.testBit_or, ht]; rfl), fun n hn hs t ht => h t (by rw [Nat.testBit_or, Bool.or_eq_true, cauK_test]; exact .inr (.inr ⟨n, hn, hs, ht⟩))⟩
  · rintro ⟨h1, h2⟩ t ht
    rw [Nat.testBit_or, Bool.or_eq_true, cauK_test] at ht
    rcases ht with ht | ht | ⟨n, hn, hs, ht⟩
    · exact h1 t ht
    · exact ht
    · exact h2 n hn hs t ht
/-- A causal read has what it must have. -/
theorem due_seen {M : List AccessD} {i : Nat} (hi : i < M.length) (hw : (aAt M i).write = false) (h : causRow M i = true) : dueN (M.take i) (aAt M i) = seenN M i := by
  obtain ⟨h1, h2⟩ := (causRow_iff hw).1 h
  rw [dueN_take hi]
  apply Nat.eq_of_testBit_eq
  intro t
  rw [Bool.eq_iff_iff, cauK_test, Nat.testBit_or, Bool.or_eq_true]
  constructor
  · rintro ((h | h) | ⟨n, hn, h3, h4⟩)
    · exact h
    · exact h1 t h
    · rw [Nat.testBit_or, Bool.or_eq_true] at h3
      exact h2 n hn (h3.elim id (h1 n)) t h4
  · intro h; exact .inl (.inl h)
theorem seen_cast {cs : List AccessD} (hv : accB cs = true) {i : Nat} (hi : i < cs.length) : ((seenN cs i : Nat) : Int) = (aAt cs i).seen := by
  have hc : cs[i]? = some (cs[i]'(by omega)) := List.getElem?_eq_getElem _
  obtain ⟨s, h1, _⟩ := acc_seen hv hc
  rw [seenN, aAt_eq hc, h1]; simp
theorem take_aAt {M : List AccessD} {k : Nat} (hk : k < M.length) : M.take (k + 1) = M.take k ++ [aAt M k] := by
  rw [List.take_add_one, List.getElem?_eq_getElem hk, aAt_eq (List.getElem?_eq_getElem hk)]; rfl
theorem mend_causal {M : List AccessD} (hc : causalB M = true) : ∀ k, k ≤ M.length → mendK M k = M.take k
  | 0, _ => by simp [mendK]
  | k + 1, h => by
    have hv : accB M = true := by simp only [causalB, Bool.and_eq_true] at hc; exact hc.1
    have hr : causRow M k = true := by
      simp only [causalB, Bool.and_eq_true, List.all_eq_true, List.mem_range] at hc
      exact hc.2 k (by omega)
    rw [mendK, mend_causal hc k (by omega), take_aAt (show k < M.length by omega)]
    congr 2
    unfold mendOne
    cases hw : (aAt M k).write
    · rw [if_neg (by simp), due_seen (by omega) hw hr, seen_cast hv (by omega), ← hw]
    · rw [if_pos rfl]
theorem mend_self {M : List AccessD} (hc : causalB M = true) : mendK M M.length = M := by
  rw [mend_causal hc _ (Nat.le_refl _), List.take_length]
/-- Mended reads are causal. -/
theorem mend_is_causal {cs : List AccessD} (hv : accB cs = true) : causalB (mendK cs cs.length) = true := by
  have hvm := mendK_valid hv cs.length (Nat.le_refl _)
  rw [causalB, hvm, Bool.true_and, List.all_eq_true]
  intro i hi
  have hi := List.mem_range.1 hi
  have hi' : i < cs.length := by rwa [mendK_len] at hi
  obtain ⟨M, hM⟩ : ∃ M, mendK cs cs.length = M := ⟨_, rfl⟩
  have hget := mendK_get cs hi'
  have htk := mendK_take cs (show i ≤ cs.length by omega)
  rw [hM] at hget htk hvm hi ⊢
  have hat := aAt_eq hget
  cases hw : (aAt M i).write
  · have hw0 : (aAt cs i).write = false := by rw [hat, mendOne_write] at hw; exact hw
    have hvi : accB (mendK cs i) = true := mendK_valid hv i (by omega)
    have hli : (mendK cs i).length = i := mendK_len cs i
    have hseen : seenN M i = dueN (mendK cs i) (aAt cs i) := by
      rw [seenN, hat, mendOne, if_neg (by simp [hw0])]; simp
    have hses : (aAt M i).session = (aAt cs i).session := by rw [hat, mendOne_session]
    have hm : mineK (mendK cs i) (aAt cs i).session i = mineK M (aAt M i).session i := by rw [← htk, mineK_take _ i (Nat.le_refl _), hses]
    have hsn : seenK (mendK cs i) (aAt cs i).session i = seenK M (aAt M i).session i := by rw [← htk, seenK_take _ i (Nat.le_refl _), hses]
    have hca : cauN (mendK cs i) i = cauN M i := by rw [← htk, cauN_take i (Nat.le_refl _)]
    have hwr : wrN (mendK cs i) i = wrN M i := by rw [← htk, wrN_take (Nat.le_refl _)]
    have hD : seenN M i = cauK ((aAt cs i).seen.toNat ||| nearN M i) (cauN M i) ((aAt cs i).seen.toNat ||| nearN M i) (wrN M i) := by
      rw [hseen, dueN, hli, hm, hsn, hca, hwr]; rfl
    rw [causRow_iff hw, hD]
    constructor
    · intro t ht
      rw [cauK_test]
      exact .inl (by rw [Nat.testBit_or, ht, Bool.or_true])
    · intro n hn h t ht
      exact due_closed hvm (Nat.le_of_lt hi) hn h ht
  · simp [causRow, hw]
theorem mend_more {cs : List AccessD} {i : Nat} (hi : i < cs.length) (hw : (aAt cs i).write = false) : seenN (mendK cs cs.length) i &&& seenN cs i = seenN cs i := by
  have hget := mendK_get cs hi
  have e : seenN (mendK cs cs.length) i = dueN (mendK cs i) (aAt cs i) := by
    rw [seenN, aAt_eq hget, mendOne, if_neg (by simp [hw])]; simp
  rw [e, Nat.and_comm]
  have : subN (seenN cs i) (dueN (mendK cs i) (aAt cs i)) = true := by
    rw [subN_iff]
    intro t ht
    rw [dueN, cauK_test]
    exact .inl (by rw [Nat.testBit_or]; unfold seenN at ht; rw [ht]; rfl)
  rw [subN, beq_iff_eq] at this
  exact this
theorem causal_iff_mend {cs : List AccessD} (hv : accB cs = true) : causalB cs = true ↔ mendK cs cs.length = cs := by
  constructor
  · exact mend_self
  · intro h; rw [← h]; exact mend_is_causal hv
end Go.Proofs.Ytooigcfdkmgjnaa
