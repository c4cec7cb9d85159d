/-
  What a history of one writer is, as a Lean function on a list of calls. No condition.
-/
import Derived.Test.YtoeecaeaobfhmaaHistP
namespace Go.Proofs.Ytoeecaeaobfhmaa

def soleB (c : CallD) : Bool := !(c.obj != 0) && !(c.kind == 1) && (c.kind != 0 || (!(c.proc != 0) && !(c.ret != 0) && !decide (c.arg < 1)))
def twinB (c o : CallD) : Bool := c.kind == 0 && (o.kind == 0 && o.arg == c.arg)
def rowW (h : List CallD) (i : Nat) : Bool := soleB (hAt h i) && (List.range i).all fun k => !twinB (hAt h i) (hAt h k)
def soleAll (h : List CallD) : Bool := (List.range h.length).all (rowW h)
def writerB (h : List CallD) : Bool := soleAll h && histB h
theorem writerB_row {h : List CallD} {i : Nat} (hi : i < h.length) (hr : rowW h i = false) : writerB h = false := by
  simp only [writerB, Bool.and_eq_false_iff]
  exact .inl (all_range_false hi hr)
theorem rowW_sole {h : List CallD} {i : Nat} (hc : soleB (hAt h i) = false) : rowW h i = false := by simp [rowW, hc]
theorem rowW_twin {h : List CallD} {i k : Nat} (hk : k < i) (hp : twinB (hAt h i) (hAt h k) = true) : rowW h i = false := by
  simp only [rowW, Bool.and_eq_false_iff]
  exact .inr (all_range_false hk (by simp [hp]))
theorem rowW_true {h : List CallD} {i : Nat} (hc : soleB (hAt h i) = true) (ha : (List.range i).all (fun k => !twinB (hAt h i) (hAt h k)) = true) : rowW h i = true := by
  simp only [rowW, hc, ha]; rfl
theorem twin_skip {h : List CallD} {i : Nat} {c : CallD} (hc : (c.kind != 0) = true) : (List.range i).all (fun k => !twinB c (hAt h k)) = true := by
  refine List.all_eq_true.2 fun k _ => ?_
  have hq : (c.kind == 0) = false := by simpa using hc
  simp [twinB, hq]
/-- The reference's test, of a call of a history. -/
theorem soleB_ref {c : CallD} (hc : callB c = true) : soleB c = (!(c.obj != 0) && !(c.kind == 1) && (!(c.kind == 0) || (!(c.proc != 0) && !(c.arg == 0) && !(c.ret != 0)))) := by
  simp only [callB, inB, Bool.and_eq_true, decide_eq_true_eq] at hc
  rw [Bool.eq_iff_iff]
  simp only [soleB, Bool.and_eq_true, Bool.not_eq_true', bne_eq_false_iff_eq, beq_eq_false_iff_ne, ne_eq, Bool.or_eq_true, bne_iff_ne, decide_eq_false_iff_not]
  omega
theorem sole_ways (a b k p r g : Bool) : a = true ∨ (a = false ∧ b = true) ∨ (a = false ∧ b = false ∧ k = true) ∨ (a = false ∧ b = false ∧ k = false ∧ p = true) ∨ (a = false ∧ b = false ∧ k = false ∧ p = false ∧ r = true) ∨
    (a = false ∧ b = false ∧ k = false ∧ p = false ∧ r = false ∧ g = true) ∨ (a = false ∧ b = false ∧ k = false ∧ p = false ∧ r = false ∧ g = false) := by
  cases a <;> cases b <;> cases k <;> cases p <;> cases r <;> cases g <;> simp
theorem sole_ways2 (a b k p r g : Bool) : a = true ∨ (a = false ∧ b = true) ∨ (a = false ∧ b = false ∧ k = false) ∨ (a = false ∧ b = false ∧ k = true ∧ p = true) ∨ (a = false ∧ b = false ∧ k = true ∧ p = false ∧ r = true) ∨
    (a = false ∧ b = false ∧ k = true ∧ p = false ∧ r = false ∧ g = true) ∨ (a = false ∧ b = false ∧ k = true ∧ p = false ∧ r = false ∧ g = false) := by
  cases a <;> cases b <;> cases k <;> cases p <;> cases r <;> cases g <;> simp
theorem two_ways (a b : Bool) : a = false ∨ (a = true ∧ b = false) ∨ (a = true ∧ b = true) := by
  cases a <;> cases b <;> simp
theorem three_ways (a b c : Bool) : a = false ∨ (a = true ∧ b = false) ∨ (a = true ∧ b = true ∧ c = false) ∨ (a = true ∧ b = true ∧ c = true) := by
  cases a <;> cases b <;> cases c <;> simp
end Go.Proofs.Ytoeecaeaobfhmaa
