/-
  Orders of indices, and the least times of calls in an order, as Lean functions. No condition.
-/
import Derived.Test.YtoeecaeaobfhmaaHistP
namespace Go.Proofs.Ytoeecaeaobfhmaa

def ordRow (n : Nat) (L : List Int) (i : Nat) : Bool := inB (L.getD i 0) 0 ((n : Int) - 1) && !((L.take i).any (· == L.getD i 0))
def orderB (n : Nat) (L : List Int) : Bool := (List.range L.length).all (ordRow n L) && decide (L.length = n)
theorem orderB_row {n : Nat} {L : List Int} {i : Nat} (hi : i < L.length) (hr : ordRow n L i = false) : orderB n L = false := by
  simp only [orderB, Bool.and_eq_false_iff]
  exact .inl (all_range_false hi hr)
theorem orderB_len {n : Nat} {L : List Int} (h : orderB n L = true) : L.length = n := by
  simp only [orderB, Bool.and_eq_true, decide_eq_true_eq] at h
  exact h.2
theorem orderB_at {n : Nat} {L : List Int} (h : orderB n L = true) {i : Nat} {x : Int} (hi : L[i]? = some x) : ∃ m : Nat, x = m ∧ m < n := by
  simp only [orderB, Bool.and_eq_true, List.all_eq_true, List.mem_range] at h
  have h1 := h.1 i (List.getElem?_eq_some_iff.1 hi).1
  simp only [ordRow, Bool.and_eq_true] at h1
  have e : L.getD i 0 = x := by rw [List.getD, hi]; rfl
  rw [e, inB, decide_eq_true_eq] at h1
  exact ⟨x.toNat, by omega, by omega⟩
def callN (h : List CallD) (L : List Int) (k : Nat) : CallD := hAt h (L.getD k 0).toNat
def tAt (h : List CallD) (L : List Int) : Nat → Int
  | 0 => 0
  | k + 1 => if tAt h L k < (callN h L k).fr then (callN h L k).fr else tAt h L k
def pRow (h : List CallD) (L : List Int) (k : Nat) : Bool := decide (tAt h L (k + 1) < (callN h L k).till)
def ptsK (h : List CallD) (L : List Int) (k : Nat) : List Int := (List.range k).map fun j => tAt h L (j + 1)
theorem ptsK_len (h : List CallD) (L : List Int) (k : Nat) : (ptsK h L k).length = k := by simp [ptsK]
theorem ptsK_succ (h : List CallD) (L : List Int) (k : Nat) : ptsK h L (k + 1) = ptsK h L k ++ [tAt h L (k + 1)] := by simp [ptsK, List.range_succ]
def ptsOk (h : List CallD) (L : List Int) : Bool := (histB h && orderB h.length L) && (List.range L.length).all (pRow h L)
def ptsL (h : List CallD) (L : List Int) : List Int := if ptsOk h L then ptsK h L L.length else []
theorem ptsL_len (h : List CallD) (L : List Int) : (ptsL h L).length ≤ 1048576 := by
  unfold ptsL
  split
  · next e =>
    simp only [ptsOk, Bool.and_eq_true] at e
    have := histB_len e.1.1
    have := orderB_len e.1.2
    rw [ptsK_len]; omega
  · simp
theorem tAt_bd {h : List CallD} (hh : histB h = true) (L : List Int) : ∀ k, 0 ≤ tAt h L k ∧ tAt h L k ≤ 30
  | 0 => by simp [tAt]
  | k + 1 => by
    have ih := tAt_bd hh L k
    rw [tAt]
    have hf : 0 ≤ (callN h L k).fr ∧ (callN h L k).fr ≤ 30 := by
      unfold callN
      by_cases hlt : (L.getD k 0).toNat < h.length
      · have e := List.getElem?_eq_getElem hlt
        have := histB_call hh e
        rw [← hAt_eq e] at this
        simp only [callB, inB, Bool.and_eq_true, decide_eq_true_eq] at this
        omega
      · have : hAt h (L.getD k 0).toNat = call0 := by rw [hAt, List.getD, List.getElem?_eq_none (by omega)]; rfl
        rw [this]; simp [call0]
    split <;> omega
end Go.Proofs.Ytoeecaeaobfhmaa
