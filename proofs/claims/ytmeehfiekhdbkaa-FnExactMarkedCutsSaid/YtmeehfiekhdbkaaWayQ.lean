/-
  Ways by cuts, and marked cuts, as Lean functions; how many ways there are at least and at most. No condition.
-/
import Derived.Test.YtmeehfiekhdbkaaWayP
import Derived.Test.YtmeehfiekhdbkaaPastQ
namespace Go.Proofs.Ytmeehfiekhdbkaa
open Go.RowKit

/-! ### marked cuts -/
/-- The last event of process p in the set s, of the first k events; -1 if there is none. -/
def lastK (cs : List EventD) (s : Nat) (p : Int) : Nat → Int
  | 0 => -1
  | k + 1 => if (evAt cs k).proc == p && bitN s k == 1 then (k : Int) else lastK cs s p k
theorem lastK_bd (cs : List EventD) (s : Nat) (p : Int) : ∀ k : Nat, -1 ≤ lastK cs s p k ∧ lastK cs s p k < k
  | 0 => by simp [lastK]
  | k + 1 => by
    have := lastK_bd cs s p k
    rw [lastK]
    split <;> omega
def markP (cs : List EventD) (marks s p : Nat) : Bool := decide (0 ≤ lastK cs s p cs.length) && bitN marks (lastK cs s p cs.length).toNat == 1
def markB (cs : List EventD) (marks s : Nat) : Bool := (List.range 3).all (markP cs marks s)
theorem markB_row {cs : List EventD} {marks s p : Nat} (hp : p < 3) (h : markP cs marks s p = false) : markB cs marks s = false := all_range_false hp h

/-! ### ways -/
def opW (cs : List EventD) (f : Nat → Bool) (S : Nat) : Bool := cutB cs cs.length S && f S
def waysV (cs : List EventD) : Int := if evB cs then ((way (opW cs fun _ => true) cs.length (2 ^ cs.length - 1) : Nat) : Int) else -1
def sureB (cs : List EventD) (x : Int) : Bool := evB cs && (inB x 0 (2 ^ cs.length - 1) && decide (way (opW cs fun s => !markB cs x.toNat s) cs.length (2 ^ cs.length - 1) = 0))
theorem sure_way {cs : List EventD} (f : Nat → Bool) : decide (way (opW cs f) cs.length (2 ^ cs.length - 1) = 0) = !isWay (opW cs f) cs.length cs.length 0 := by
  rw [way_back]
  have h := isWay_iff (opW cs f) cs.length cs.length 0
  cases hw : isWay (opW cs f) cs.length cs.length 0
  · rw [hw] at h
    simp only [Bool.false_eq_true, false_iff] at h
    simp; omega
  · rw [hw] at h
    simp only [true_iff] at h
    simp; omega

theorem cutB_head (cs : List EventD) (n k : Nat) : cutB cs n (2 ^ k - 1) = true := by
  rw [cutB_iff]
  intro i _ hs t ht
  rw [Nat.testBit_two_pow_sub_one, decide_eq_true_eq] at hs ⊢
  have := pastRow_le cs ht
  omega
theorem opW_head (cs : List EventD) (k : Nat) : opW cs (fun _ => true) (2 ^ k - 1) = true := by rw [opW, cutB_head]; rfl
theorem way_least (cs : List EventD) : 1 ≤ way (opW cs fun _ => true) cs.length (2 ^ cs.length - 1) := by
  rw [way_back]
  have h := back_heads (op := opW cs fun _ => true) (n := cs.length) (fun k _ => opW_head cs k) cs.length 0 (by omega)
  simpa using h
theorem way_most (cs : List EventD) (f : Nat → Bool) : way (opW cs f) cs.length (2 ^ cs.length - 1) ≤ fact cs.length := by
  rw [way_back]
  refine back_le _ _ _ _ ?_
  rw [(sz_zero (Nat.two_pow_pos _)).2 rfl]; omega
theorem way_one {cs : List EventD} (h : ∀ i, i < cs.length → (evAt cs i).proc = (evAt cs 0).proc) : way (opW cs fun _ => true) cs.length (2 ^ cs.length - 1) = 1 := by
  rw [way_back]
  have := back_only (op := opW cs fun _ => true) (n := cs.length) (fun k _ => opW_head cs k) ?_ cs.length 0 (by omega)
  · simpa using this
  · intro S hS hop i k hik hk
    have hkn := testBit_hi hS hk
    rw [opW, Bool.and_eq_true] at hop
    refine (cutB_iff cs cs.length S).1 hop.1 k hkn hk i ?_
    refine (pastRow_test cs k i).2 (.inr ⟨i, hik, ?_, pastRow_self cs i⟩)
    simp only [relE, h k hkn, h i (by omega), beq_self_eq_true, Bool.true_or]
theorem way_free {cs : List EventD} (h : ∀ i, i < cs.length → pastRow cs i = 2 ^ i) : way (opW cs fun _ => true) cs.length (2 ^ cs.length - 1) = fact cs.length := by
  rw [way_back]
  refine back_all ?_ _ _ (Nat.two_pow_pos _) ?_
  · intro S hS
    rw [opW, Bool.and_true, cutB_iff]
    intro i hi hs t ht
    rw [h i hi, Nat.testBit_two_pow, decide_eq_true_eq] at ht
    rw [← ht]; exact hs
  · rw [(sz_zero (Nat.two_pow_pos _)).2 rfl]; omega

/-! ### the table's numbers are small -/
theorem sm_more {F : Nat → Nat} {j : Nat} : ∀ {n}, j ≤ n → sm j F ≤ sm n F
  | 0, h => by obtain rfl : j = 0 := by omega
               exact Nat.le_refl _
  | n + 1, h => by
    by_cases e : j = n + 1
    · subst e; exact Nat.le_refl _
    · rw [sm_succ]
      have := sm_more (F := F) (j := j) (n := n) (by omega)
      omega
theorem sz_sub {n S j : Nat} (hj : j < n) (h : S.testBit j = true) : sz n (S - 2 ^ j) + 1 = sz n S := by
  have hb : (S - 2 ^ j).testBit j = false := by rw [sub_bit S j h]; simp
  have := sz_add hj hb
  rw [Nat.sub_add_cancel (bit_ge h)] at this
  omega
theorem way_le (op : Nat → Bool) (n : Nat) : ∀ S, way op n S ≤ fact (sz n S) := by
  intro S
  induction S using Nat.strongRecOn with
  | ind S ih =>
    have hpre : pre op n S ≤ fact (sz n S) := by
      rw [pre]
      by_cases h0 : S = 0
      · subst h0
        rw [if_pos rfl, sm_none n (fun i _ => by simp)]
        exact fact_pos _
      · rw [if_neg h0, Nat.zero_add]
        cases hz : sz n S with
        | zero =>
          rw [sm_none n (fun j hj => by
            by_cases hb : S.testBit j = true
            · have := sz_sub hj hb; omega
            · rw [if_neg hb])]
          exact Nat.zero_le _
        | succ m =>
          have h1 : sm n (fun j => if S.testBit j = true then way op n (S - 2 ^ j) else 0) ≤ sm n (fun j => if S.testBit j = true then fact m else 0) := by
            refine sm_le fun j hj => ?_
            by_cases hb : S.testBit j = true
            · rw [if_pos hb, if_pos hb]
              have hp := Nat.two_pow_pos j
              have hge := bit_ge hb
              have h2 := ih (S - 2 ^ j) (by omega)
              have h3 := sz_sub hj hb
              rw [show sz n (S - 2 ^ j) = m by omega] at h2
              exact h2
            · rw [if_neg hb, if_neg hb]; exact Nat.le_refl _
          rw [sm_cond n (fact m) (fun j => S.testBit j)] at h1
          have h2 : sm n (fun i => if S.testBit i = true then 1 else 0) = m + 1 := hz
          rw [h2, Nat.mul_comm] at h1
          exact h1
    rw [way_eq]
    split
    · exact hpre
    · exact Nat.zero_le _
theorem fact_mono {a b : Nat} (h : a ≤ b) : fact a ≤ fact b := by
  induction b with
  | zero => obtain rfl : a = 0 := by omega
            exact Nat.le_refl _
  | succ b ih =>
    by_cases e : a = b + 1
    · subst e; exact Nat.le_refl _
    · have h1 := ih (by omega)
      rw [fact]
      have := Nat.le_mul_of_pos_left (fact b) (show 0 < b + 1 by omega)
      omega
theorem fact_seven {n : Nat} (h : n ≤ 7) : fact n ≤ 5040 := by
  have : n = 0 ∨ n = 1 ∨ n = 2 ∨ n = 3 ∨ n = 4 ∨ n = 5 ∨ n = 6 ∨ n = 7 := by omega
  rcases this with rfl | rfl | rfl | rfl | rfl | rfl | rfl | rfl <;> decide
theorem way_small (op : Nat → Bool) {n : Nat} (hn : n ≤ 7) (S : Nat) : way op n S ≤ 5040 :=
  Nat.le_trans (way_le op n S) (Nat.le_trans (fact_mono (sz_le n S)) (fact_seven hn))
theorem preK_small (op : Nat → Bool) {n : Nat} (hn : n ≤ 7) (S : Nat) : ∀ j : Nat, preK (wayL op n S) S j ≤ 1 + 5040 * j
  | 0 => by rw [preK]; split <;> omega
  | j + 1 => by
    have := preK_small op hn S j
    rw [preK]
    split
    · next h =>
      have hp := Nat.two_pow_pos j
      have hge := bit_ge h
      rw [wayL_getD op n (show S - 2 ^ j < S by omega)]
      have := way_small op hn (S - 2 ^ j)
      omega
    · omega
theorem back_small (op : Nat → Bool) {n m S : Nat} (hn : n ≤ 7) (h : sz n S + m = n) : back op n m S ≤ 5040 :=
  Nat.le_trans (back_le op n m S h) (fact_seven (by omega))
end Go.Proofs.Ytmeehfiekhdbkaa
