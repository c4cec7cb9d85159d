/-
  Vector times: how many events of each process are in the past of an event; an event is in the past of another one exactly if its vector is nowhere greater. No condition.
-/
import Derived.Test.YtcmecgnlhgjciaaPastQ
namespace Go.Proofs.Ytcmecgnlhgjciaa
open Go.RowKit

def vecK (cs : List EventD) (i : Nat) (p : Int) : Nat → Nat
  | 0 => 0
  | k + 1 => if (evAt cs k).proc == p then vecK cs i p k + bitN (pastRow cs i) k else vecK cs i p k
theorem vecK_le (cs : List EventD) (i : Nat) (p : Int) : ∀ k, vecK cs i p k ≤ k
  | 0 => Nat.le_refl _
  | k + 1 => by
    have ih := vecK_le cs i p k
    have := bitN_le (pastRow cs i) k
    rw [vecK]; split <;> omega
theorem vecK_past (cs : List EventD) (i : Nat) (p : Int) : ∀ k, i < k → vecK cs i p k = vecK cs i p (i + 1)
  | 0, h => by omega
  | k + 1, h => by
    by_cases e : k = i
    · subst e; rfl
    · rw [vecK, vecK_past cs i p k (by omega)]
      have : bitN (pastRow cs i) k = 0 := by
        rw [bitN_test0]
        cases hb : (pastRow cs i).testBit k
        · rfl
        · have := pastRow_le cs hb; omega
      rw [this]; split <;> rfl
def vecI (cs : List EventD) (i k : Nat) : List Int := [((vecK cs i 0 k : Nat) : Int), ((vecK cs i 1 k : Nat) : Int), ((vecK cs i 2 k : Nat) : Int)]
theorem vecI_len (cs : List EventD) (i k : Nat) : (vecI cs i k).length = 3 := rfl
theorem vecI_zero (cs : List EventD) (i : Nat) : vecI cs i 0 = List.replicate 3 0 := rfl
theorem vecI_get (cs : List EventD) (i k p : Nat) (hp : p < 3) : (vecI cs i k)[p]? = some ((vecK cs i p k : Nat) : Int) := by
  have : p = 0 ∨ p = 1 ∨ p = 2 := by omega
  rcases this with rfl | rfl | rfl <;> rfl
theorem vecI_set (cs : List EventD) (i k p : Nat) (hp : p < 3) (hc : (evAt cs k).proc = (p : Int)) : (vecI cs i k).set p ((vecK cs i p k + bitN (pastRow cs i) k : Nat) : Int) = vecI cs i (k + 1) := by
  have : p = 0 ∨ p = 1 ∨ p = 2 := by omega
  rcases this with rfl | rfl | rfl <;> simp [vecI, vecK, hc]
def vecRow (cs : List EventD) (i : Nat) : List Int := vecI cs i (i + 1)
theorem vecRow_all (cs : List EventD) {i n : Nat} (hi : i < n) : vecI cs i n = vecRow cs i := by
  unfold vecRow vecI
  rw [vecK_past cs i 0 n hi, vecK_past cs i 1 n hi, vecK_past cs i 2 n hi]
def vecsTo (cs : List EventD) (k : Nat) : List (List Int) := (List.range k).map (vecRow cs)
theorem vecsTo_len (cs : List EventD) (k : Nat) : (vecsTo cs k).length = k := by simp [vecsTo]
theorem vecsTo_succ (cs : List EventD) (k : Nat) : vecsTo cs (k + 1) = vecsTo cs k ++ [vecRow cs k] := by simp [vecsTo, List.range_succ]
def vectorsL (cs : List EventD) : List (List Int) := if evB cs then vecsTo cs cs.length else []
theorem vectorsL_len (cs : List EventD) : (vectorsL cs).length ≤ 7 := by
  unfold vectorsL
  split
  · next h => have := evB_len h; rw [vecsTo_len]; omega
  · simp
theorem vectorsL_three (cs : List EventD) : ∀ r ∈ vectorsL cs, r.length = 3 := by
  intro r hr
  unfold vectorsL at hr
  split at hr
  · simp only [vecsTo, List.mem_map] at hr
    obtain ⟨i, _, rfl⟩ := hr
    rfl
  · simp at hr

/-! ### the vectors tell the past -/
theorem same_proc_past (cs : List EventD) {j k : Nat} (hjk : j < k) (hp : (evAt cs j).proc = (evAt cs k).proc) : (pastRow cs k).testBit j = true :=
  (pastRow_test cs k j).2 (.inr ⟨j, hjk, by simp [relE, hp], pastRow_self cs j⟩)
theorem vecK_mono (cs : List EventD) {i k : Nat} (p : Int) (h : ∀ t, (pastRow cs k).testBit t = true → (pastRow cs i).testBit t = true) : ∀ n, vecK cs k p n ≤ vecK cs i p n
  | 0 => Nat.le_refl _
  | n + 1 => by
    have ih := vecK_mono cs p h n
    rw [vecK, vecK]
    split
    · have h1 : bitN (pastRow cs k) n ≤ bitN (pastRow cs i) n := by
        have a1 := bitN_le (pastRow cs k) n
        by_cases e : bitN (pastRow cs k) n = 1
        · rw [e, (bitN_test _ _).2 (h n ((bitN_test _ _).1 e))]; omega
        · omega
      omega
    · exact ih
/-- Events of a process that are not in the past of i, from k on: their number does not rise. -/
theorem vecK_stop (cs : List EventD) {i k : Nat} {p : Int} (h : ∀ j, k ≤ j → (evAt cs j).proc = p → (pastRow cs i).testBit j = false) : ∀ n, k ≤ n → vecK cs i p n = vecK cs i p k
  | 0, hn => by obtain rfl : k = 0 := by omega
                rfl
  | n + 1, hn => by
    by_cases e : k = n + 1
    · subst e; rfl
    · rw [vecK, vecK_stop cs h n (by omega)]
      split
      · rename_i hp
        rw [(bitN_test0 _ _).2 (h n (by omega) (by simpa using hp))]; rfl
      · rfl
/-- The past of k has all events of its process up to it. -/
theorem vecK_all (cs : List EventD) {i k : Nat} : ∀ n, n ≤ k → vecK cs i (evAt cs k).proc n ≤ vecK cs k (evAt cs k).proc n
  | 0, _ => Nat.le_refl _
  | n + 1, hn => by
    have ih := vecK_all cs (i := i) (k := k) n (by omega)
    rw [vecK, vecK]
    split
    · rename_i hp
      have h1 : bitN (pastRow cs k) n = 1 := (bitN_test _ _).2 (same_proc_past cs (by omega) (by simpa using hp))
      have := bitN_le (pastRow cs i) n
      omega
    · exact ih
theorem vec_tells (cs : List EventD) {n i k : Nat} (_hi : i < n) (hk : k < n) (h : vecK cs k (evAt cs k).proc n ≤ vecK cs i (evAt cs k).proc n) : (pastRow cs i).testBit k = true := by
  cases hb : (pastRow cs i).testBit k
  · exfalso
    have hst : ∀ j, k ≤ j → (evAt cs j).proc = (evAt cs k).proc → (pastRow cs i).testBit j = false := by
      intro j hj hp
      cases hb2 : (pastRow cs i).testBit j
      · rfl
      · by_cases e : j = k
        · subst e; rw [hb] at hb2; cases hb2
        · have := pastRow_trans cs i j k hb2 (same_proc_past cs (by omega) hp.symm)
          rw [hb] at this; cases this
    have h1 := vecK_stop cs hst n (by omega)
    have h2 := vecK_all cs (i := i) (k := k) k (Nat.le_refl _)
    have h3 : vecK cs k (evAt cs k).proc n = vecK cs k (evAt cs k).proc (k + 1) := vecK_past cs k _ n hk
    have h4 : vecK cs k (evAt cs k).proc (k + 1) = vecK cs k (evAt cs k).proc k + 1 := by
      rw [vecK, if_pos (by simp), (bitN_test _ _).2 (pastRow_self cs k)]
    omega
  · rfl
/-- What the law asks of two events. -/
theorem vec_law {cs : List EventD} (hv : evB cs = true) {i k : Nat} (hi : i < cs.length) (hk : k < cs.length) :
    (decide (vecK cs k 0 cs.length ≤ vecK cs i 0 cs.length) && decide (vecK cs k 1 cs.length ≤ vecK cs i 1 cs.length) && decide (vecK cs k 2 cs.length ≤ vecK cs i 2 cs.length)) = (bitN (pastRow cs i) k == 1) := by
  rw [Bool.eq_iff_iff]
  simp only [Bool.and_eq_true, decide_eq_true_eq, beq_iff_eq]
  rw [bitN_test]
  constructor
  · rintro ⟨⟨h0, h1⟩, h2⟩
    refine vec_tells cs hi hk ?_
    have hc : cs[k]? = some (cs[k]'hk) := List.getElem?_eq_getElem _
    have hok := evB_at hv hc
    rw [← evAt_eq hc] at hok
    simp only [evOk, inB, Bool.and_eq_true, decide_eq_true_eq] at hok
    have : (evAt cs k).proc = 0 ∨ (evAt cs k).proc = 1 ∨ (evAt cs k).proc = 2 := by omega
    rcases this with e | e | e <;> rw [e] <;> assumption
  · intro h
    have hs := fun t ht => pastRow_trans cs i k t h ht
    exact ⟨⟨vecK_mono cs 0 hs _, vecK_mono cs 1 hs _⟩, vecK_mono cs 2 hs _⟩
end Go.Proofs.Ytcmecgnlhgjciaa
