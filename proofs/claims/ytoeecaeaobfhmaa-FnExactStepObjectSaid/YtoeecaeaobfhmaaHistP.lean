/-
  What a history is, as a Lean function on a list of calls, and what its tests tell, round by round. No condition.
-/
import Derived.Test.YtoeecaeaobfhmaaSmall
import Derived.Test.YtoeecaeaobfhmaaIn
namespace Go.Proofs.Ytoeecaeaobfhmaa

def callB (c : CallD) : Bool := inB c.proc 0 2 && inB c.obj 0 1 && inB c.kind 0 2 && inB c.arg 0 3 && inB c.ret (-1) 20 && inB c.fr 0 30 && inB c.till 0 30 && decide (c.fr < c.till)
def pairB (o c : CallD) : Bool := !(c.fr == o.fr) && !(c.fr == o.till) && !(c.till == o.fr) && !(c.till == o.till) && !(c.proc == o.proc && lapB c o)
def call0 : CallD := ⟨0, 0, 0, 0, 0, 0, 0⟩
def hAt (h : List CallD) (i : Nat) : CallD := h.getD i call0
theorem hAt_eq {h : List CallD} {i : Nat} {c : CallD} (hi : h[i]? = some c) : hAt h i = c := by simp [hAt, hi]
def rowB (h : List CallD) (i : Nat) : Bool := callB (hAt h i) && (List.range i).all fun k => pairB (hAt h k) (hAt h i)
def histB (h : List CallD) : Bool := decide (h.length ≤ 6) && (List.range h.length).all (rowB h)

theorem rowB_call {h : List CallD} {i : Nat} (hc : callB (hAt h i) = false) : rowB h i = false := by simp [rowB, hc]
theorem rowB_pair {h : List CallD} {i k : Nat} (hk : k < i) (hp : pairB (hAt h k) (hAt h i) = false) : rowB h i = false := by
  simp only [rowB, Bool.and_eq_false_iff]
  exact .inr (all_range_false hk hp)
theorem rowB_true {h : List CallD} {i : Nat} (hc : callB (hAt h i) = true) (ha : (List.range i).all (fun k => pairB (hAt h k) (hAt h i)) = true) : rowB h i = true := by
  simp only [rowB, hc, ha]; rfl
theorem histB_row {h : List CallD} {i : Nat} (hi : i < h.length) (hr : rowB h i = false) : histB h = false := by
  simp only [histB, Bool.and_eq_false_iff]
  exact .inr (all_range_false hi hr)
theorem histB_long {h : List CallD} (hl : 6 < h.length) : histB h = false := by
  simp only [histB, Bool.and_eq_false_iff]
  exact .inl (by simpa using hl)
theorem histB_true {h : List CallD} (hl : h.length ≤ 6) (ha : (List.range h.length).all (rowB h) = true) : histB h = true := by
  simp only [histB, ha, decide_eq_true hl]; rfl
/-- What a history tells. -/
theorem histB_len {h : List CallD} (hh : histB h = true) : h.length ≤ 6 := by
  simp only [histB, Bool.and_eq_true, decide_eq_true_eq] at hh
  exact hh.1
theorem histB_call {h : List CallD} (hh : histB h = true) {i : Nat} {c : CallD} (hi : h[i]? = some c) : callB c = true := by
  simp only [histB, Bool.and_eq_true] at hh
  have h1 := List.all_eq_true.1 hh.2 i (List.mem_range.2 (List.getElem?_eq_some_iff.1 hi).1)
  simp only [rowB, Bool.and_eq_true] at h1
  rw [← hAt_eq hi]
  exact h1.1
theorem histB_pair {h : List CallD} (hh : histB h = true) {i k : Nat} {c o : CallD} (hi : h[i]? = some c) (hk : h[k]? = some o) (hlt : k < i) : pairB o c = true := by
  simp only [histB, Bool.and_eq_true] at hh
  have h1 := List.all_eq_true.1 hh.2 i (List.mem_range.2 (List.getElem?_eq_some_iff.1 hi).1)
  simp only [rowB, Bool.and_eq_true] at h1
  have h2 := List.all_eq_true.1 h1.2 k (List.mem_range.2 hlt)
  rw [← hAt_eq hi, ← hAt_eq hk]
  exact h2
/-- What makes a history. -/
theorem histB_of {h : List CallD} (hl : h.length ≤ 6) (hc : ∀ (i : Nat) (c : CallD), h[i]? = some c → callB c = true) (hp : ∀ (i k : Nat) (c o : CallD), h[i]? = some c → h[k]? = some o → k < i → pairB o c = true) : histB h = true := by
  refine histB_true hl (List.all_eq_true.2 fun i hi => ?_)
  have hi := List.mem_range.1 hi
  have ei : h[i]? = some (h[i]) := List.getElem?_eq_getElem hi
  refine rowB_true (by rw [hAt_eq ei]; exact hc i _ ei) (List.all_eq_true.2 fun k hk => ?_)
  have hk := List.mem_range.1 hk
  have ek : h[k]? = some (h[k]'(by omega)) := List.getElem?_eq_getElem (by omega)
  rw [hAt_eq ei, hAt_eq ek]
  exact hp i k _ _ ei ek hk

/-! The tests of the reference, in its own words. -/
theorem callB_ref {c : CallD} : callB c = (inB c.proc 0 2 && inB c.obj 0 1 && inB c.kind 0 2 && inB c.arg 0 3 && inB c.ret (-1) 20 && inB c.fr 0 30 && inB c.till (c.fr + 1) 30) := by
  rw [Bool.eq_iff_iff]
  simp only [callB, inB, Bool.and_eq_true, decide_eq_true_eq]
  omega
end Go.Proofs.Ytoeecaeaobfhmaa
