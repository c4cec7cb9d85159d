/-
  What valid accesses are, as a Lean function on a list, and what its tests tell, round by round. No condition.
-/
import Derived.Test.YtooigcfdkmgjnaaPow
namespace Go.Proofs.Ytooigcfdkmgjnaa
open Go.RowKit

def okAcc (m : Nat) (x : AccessD) : Bool := inB x.session 0 2 && !(x.write && x.seen != 0) && inB x.seen 0 (2 ^ m - 1)
def acc0 : AccessD := ⟨0, false, 0⟩
def aAt (cs : List AccessD) (i : Nat) : AccessD := cs.getD i acc0
theorem aAt_eq {cs : List AccessD} {i : Nat} {c : AccessD} (hi : cs[i]? = some c) : aAt cs i = c := by simp [aAt, hi]
/-- How many writes are among the first k. -/
def wrN (cs : List AccessD) (k : Nat) : Nat := (cs.take k).countP (·.write)
theorem wrN_succ {cs : List AccessD} {k : Nat} {c : AccessD} (hc : cs[k]? = some c) : wrN cs (k + 1) = wrN cs k + if c.write then 1 else 0 := by
  rw [wrN, List.take_add_one, hc, List.countP_append]
  cases hb : c.write <;> simp [wrN, hb]
theorem wrN_le (cs : List AccessD) (k : Nat) : wrN cs k ≤ k := by
  have := List.countP_le_length (p := fun c : AccessD => c.write) (l := cs.take k)
  rw [List.length_take] at this
  unfold wrN
  omega
def accRow (cs : List AccessD) (i : Nat) : Bool := okAcc (wrN cs i) (aAt cs i)
def accB (cs : List AccessD) : Bool := decide (cs.length ≤ 10) && (List.range cs.length).all (accRow cs)
theorem accB_row {cs : List AccessD} {i : Nat} (hi : i < cs.length) (hr : accRow cs i = false) : accB cs = false := by
  simp only [accB, Bool.and_eq_false_iff]
  exact .inr (all_range_false hi hr)
theorem accB_long {cs : List AccessD} (hl : 10 < cs.length) : accB cs = false := by
  simp only [accB, Bool.and_eq_false_iff]
  exact .inl (by simpa using hl)
theorem accB_true {cs : List AccessD} (hl : cs.length ≤ 10) (ha : (List.range cs.length).all (accRow cs) = true) : accB cs = true := by
  simp only [accB, ha, decide_eq_true hl]; rfl
theorem accB_len {cs : List AccessD} (hh : accB cs = true) : cs.length ≤ 10 := by
  simp only [accB, Bool.and_eq_true, decide_eq_true_eq] at hh
  exact hh.1
theorem accB_at {cs : List AccessD} (hh : accB cs = true) {i : Nat} {c : AccessD} (hi : cs[i]? = some c) : okAcc (wrN cs i) c = true := by
  simp only [accB, Bool.and_eq_true] at hh
  have h1 := List.all_eq_true.1 hh.2 i (List.mem_range.2 (List.getElem?_eq_some_iff.1 hi).1)
  rw [accRow, aAt_eq hi] at h1
  exact h1

end Go.Proofs.Ytooigcfdkmgjnaa
