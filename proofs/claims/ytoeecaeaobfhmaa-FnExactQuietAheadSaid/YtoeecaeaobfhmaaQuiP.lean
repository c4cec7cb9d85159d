/-
  Quiet times: what the program asks of two calls and what the reference gathers, time by time, is the same. No condition.
-/
import Derived.Test.YtoeecaeaobfhmaaWidthP
import Derived.Test.YtoeecaeaobfhmaaSums
namespace Go.Proofs.Ytoeecaeaobfhmaa
open Go.RowKit

/-- Nobody is open at t, and t is from k's end on and ahead of i's beginning. -/
def relQ (cs : List CallD) (t i k : Nat) : Bool := (openN cs t == 0) && (decide ((hAt cs k).till ≤ (t : Int)) && decide ((t : Int) < (hAt cs i).fr))
def pqTo (cs : List CallD) (t i k : Nat) : Bool := (List.range t).any fun s => relQ cs s i k
def pquiet (cs : List CallD) (i k : Nat) : Bool := pqTo cs 31 i k
def quietL (cs : List CallD) : List Int := if histB cs then sumsL (pquiet cs) cs.length else []
theorem quietL_len (cs : List CallD) : (quietL cs).length ≤ 1048576 := by
  unfold quietL
  split
  · rename_i hh
    have h1 := histB_len hh
    rw [sumsL_len]; omega
  · simp
theorem pqTo_succ (cs : List CallD) (t i k : Nat) : pqTo cs (t + 1) i k = (pqTo cs t i k || relQ cs t i k) := by
  rw [pqTo, List.range_succ, List.any_append]; simp [pqTo]

/-! ### the program: time goes from k's end to i's beginning -/
theorem pquiet_yes {cs : List CallD} (hh : histB cs = true) {i k : Nat} (hi : i < cs.length) {t : Nat} (h1 : (hAt cs k).till ≤ (t : Int)) (h2 : (t : Int) < (hAt cs i).fr) (h0 : openN cs t = 0) : pquiet cs i k = true := by
  have hc : cs[i]? = some (cs[i]'hi) := List.getElem?_eq_getElem _
  have h3 := histB_call hh hc
  rw [← hAt_eq hc] at h3
  simp only [callB, inB, Bool.and_eq_true, decide_eq_true_eq] at h3
  rw [pquiet, pqTo, List.any_eq_true]
  exact ⟨t, List.mem_range.2 (by omega), by simp [relQ, h0, h1, h2]⟩
theorem pquiet_no {cs : List CallD} {i k : Nat} (h : ∀ t : Nat, (hAt cs k).till ≤ (t : Int) → (t : Int) < (hAt cs i).fr → openN cs t ≠ 0) : pquiet cs i k = false := by
  rw [pquiet, pqTo, List.any_eq_false]
  intro t _ hr
  simp only [relQ, Bool.and_eq_true, beq_iff_eq, decide_eq_true_eq] at hr
  exact h t hr.2.1 hr.2.2 hr.1

/-! ### the reference: row by row, time by time -/
def stQ (cs : List CallD) (t i k a b : Nat) : Bool := pqTo cs t a b || (relQ cs t a b && (decide (a < i) || (decide (a = i) && decide (b < k))))
/-- The row's numbers at one point of the three loops. -/
def rowQ (cs : List CallD) (t i k : Nat) : List Int := sumsL (stQ cs t i k) cs.length
theorem rowQ_len (cs : List CallD) (t i k : Nat) : (rowQ cs t i k).length = cs.length := sumsL_len _ _
theorem sumTo_congr {p q : Nat → Bool} : ∀ n, (∀ k, k < n → p k = q k) → sumTo p n = sumTo q n
  | 0, _ => rfl
  | n + 1, h => by rw [sumTo, sumTo, sumTo_congr n (fun k hk => h k (by omega)), h n (by omega)]
theorem sumsL_congr {p q : Nat → Nat → Bool} {n : Nat} (h : ∀ i k, i < n → k < n → p i k = q i k) : sumsL p n = sumsL q n := by
  unfold sumsL
  refine List.map_congr_left fun i hi => ?_
  rw [List.mem_range] at hi
  rw [sumTo_congr n (fun k hk => h i k hi hk)]
theorem sumTo_test (p : Nat → Bool) (b : Nat) : ∀ n, (sumTo p n).testBit b = (decide (b < n) && p b)
  | 0 => by simp [sumTo]
  | n + 1 => by
    have ih := sumTo_test p b n
    have hlt := sumTo_lt p n
    have e : sumTo p (n + 1) = sumTo p n ||| (if p n then 2 ^ n else 0) := by
      rw [sumTo]
      cases p n
      · simp
      · simp only [if_true]; rw [or_pow hlt]
    rw [e, Nat.testBit_or, ih]
    by_cases hb : b = n
    · subst hb
      cases hp : p b
      · simp
      · simp
    · cases hp : p n
      · simp only [Bool.false_eq_true, if_false, Nat.zero_testBit, Bool.or_false]
        have : decide (b < n) = decide (b < n + 1) := by rw [decide_eq_decide]; omega
        rw [this]
      · simp only [if_true, Nat.testBit_two_pow]
        have h1 : decide (b < n) = decide (b < n + 1) := by rw [decide_eq_decide]; omega
        have h2 : decide (n = b) = false := by simp; omega
        rw [h1, h2, Bool.or_false]
theorem sumTo_or {p q : Nat → Bool} {n k : Nat} (hk : k < n) (h : ∀ b, b < n → q b = (p b || decide (b = k))) : sumTo p n ||| 2 ^ k = sumTo q n := by
  apply Nat.eq_of_testBit_eq
  intro b
  rw [Nat.testBit_or, sumTo_test, sumTo_test, Nat.testBit_two_pow]
  by_cases hb : b < n
  · rw [h b hb]
    simp only [hb, decide_true, Bool.true_and]
    by_cases e : b = k
    · subst e; simp
    · have : decide (k = b) = false := by simp; omega
      simp [e, this]
  · have : decide (k = b) = false := by simp; omega
    simp [hb, this]
theorem rowQ_get {cs : List CallD} {t i k : Nat} (hi : i < cs.length) : (rowQ cs t i k)[i]? = some ((sumTo (stQ cs t i k i) cs.length : Nat) : Int) := by
  simp [rowQ, sumsL, hi]
theorem stQ_step {cs : List CallD} {t i k a b : Nat} (h : ¬ (a = i ∧ b = k)) : stQ cs t i (k + 1) a b = stQ cs t i k a b := by
  unfold stQ
  congr 2
  have e : (decide (a = i) && decide (b < k + 1)) = (decide (a = i) && decide (b < k)) := by
    by_cases ha : a = i
    · have : decide (b < k + 1) = decide (b < k) := by rw [decide_eq_decide]; omega
      rw [this]
    · simp [ha]
  rw [e]
/-- No such pair: nothing is added. -/
theorem rowQ_no {cs : List CallD} {t i k : Nat} (h : relQ cs t i k = false) : rowQ cs t i (k + 1) = rowQ cs t i k := by
  unfold rowQ
  refine sumsL_congr fun a b _ _ => ?_
  by_cases e : a = i ∧ b = k
  · obtain ⟨rfl, rfl⟩ := e
    simp [stQ, h]
  · exact stQ_step e
theorem rowQ_yes {cs : List CallD} {t i k : Nat} (hi : i < cs.length) (hk : k < cs.length) (h : relQ cs t i k = true) : (rowQ cs t i k).set i (((sumTo (stQ cs t i k i) cs.length ||| 2 ^ k : Nat)) : Int) = rowQ cs t i (k + 1) := by
  apply List.ext_getElem?
  intro a
  rw [List.getElem?_set]
  by_cases ha : i = a
  · subst ha
    rw [if_pos rfl, rowQ_get hi, if_pos (by rw [rowQ_len]; exact hi)]
    congr 2
    refine sumTo_or hk (fun b hb => ?_)
    by_cases e : b = k
    · subst e
      simp [stQ, h]
    · rw [stQ_step (by omega)]
      simp [e]
  · rw [if_neg ha]
    simp only [rowQ, sumsL, List.getElem?_map]
    by_cases hn : a < cs.length
    · rw [List.getElem?_range hn]
      simp only [Option.map_some, Option.some.injEq]
      congr 1
      refine sumTo_congr _ fun b _ => ?_
      rw [stQ_step (by omega)]
    · rw [List.getElem?_eq_none (by simp; omega)]; rfl
theorem rowQ_next {cs : List CallD} {t i : Nat} : rowQ cs t i cs.length = rowQ cs t (i + 1) 0 := by
  unfold rowQ
  refine sumsL_congr fun a b _ hb => ?_
  unfold stQ
  congr 2
  by_cases h1 : a < i
  · simp [h1, show a < i + 1 by omega]
  · by_cases h2 : a = i
    · subst h2; simp [hb]
    · simp [h1, h2, show ¬ a < i + 1 by omega]
theorem rowQ_time {cs : List CallD} {t : Nat} : rowQ cs t cs.length 0 = rowQ cs (t + 1) 0 0 := by
  unfold rowQ
  refine sumsL_congr fun a b ha _ => ?_
  unfold stQ
  rw [pqTo_succ]
  simp [ha]
/-- Somebody is open: nothing at this time. -/
theorem rowQ_open {cs : List CallD} {t : Nat} (h : openN cs t ≠ 0) : rowQ cs t 0 0 = rowQ cs (t + 1) 0 0 := by
  unfold rowQ
  refine sumsL_congr fun a b _ _ => ?_
  unfold stQ
  rw [pqTo_succ]
  have : relQ cs t a b = false := by simp [relQ, h]
  simp [this]
theorem rowQ_start {cs : List CallD} : rowQ cs 0 0 0 = List.replicate cs.length 0 := by
  rw [← rowAt_start (p := fun _ _ => false), rowAt_start]
  apply List.ext_getElem?
  intro a
  by_cases hn : a < cs.length
  · simp only [rowQ, sumsL, List.getElem?_map, List.getElem?_range hn, Option.map_some, List.getElem?_replicate, if_pos hn, Option.some.injEq]
    have : ∀ n, sumTo (stQ cs 0 0 0 a) n = 0 := by
      intro n
      induction n with
      | zero => rfl
      | succ n ih => simp [sumTo, ih, stQ, pqTo]
    rw [this]; rfl
  · rw [List.getElem?_eq_none (by simp [rowQ, sumsL]; omega), List.getElem?_eq_none (by simp; omega)]
theorem rowQ_done {cs : List CallD} : rowQ cs 31 0 0 = sumsL (pquiet cs) cs.length := by
  unfold rowQ
  refine sumsL_congr fun a b _ _ => ?_
  simp [stQ, pquiet]
theorem rowQ_lt {cs : List CallD} {t i k : Nat} : sumTo (stQ cs t i k i) cs.length < 2 ^ cs.length := sumTo_lt _ _
end Go.Proofs.Ytoeecaeaobfhmaa
