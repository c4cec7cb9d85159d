/-
  Valid copies, as a Lean function on lists. No condition.
-/
import Derived.Test.YtkahhcpfkebgiaaMarkD
import Derived.Test.YtkahhcpfkebgiaaIn
namespace Go.Proofs.Ytkahhcpfkebgiaa
open Go.RowKit

def markOk (m : MarkD) : Bool := inB m.value 0 3 && inB m.proc 0 2 && inB m.number 1 20
def lessM (a b : MarkD) : Bool := if a.proc = b.proc then decide (a.number < b.number) else decide (a.proc < b.proc)
def mark0 : MarkD := ⟨0, 0, 0, false⟩
def kAt (K : List MarkD) (i : Nat) : MarkD := K.getD i mark0
theorem kAt_eq {K : List MarkD} {i : Nat} {m : MarkD} (h : K[i]? = some m) : kAt K i = m := by simp [kAt, h]
def mrow (K : List MarkD) (i : Nat) : Bool := markOk (kAt K i) && (decide (i = 0) || lessM (kAt K (i - 1)) (kAt K i))
def wrote (x y z : Int) : Bool := inB x 0 3 && inB y 0 30 && inB z 0 2 && (decide (0 < y) || (x == 0 && z == 0))
def cnt (L : List Int) : Bool := decide (L.length = 3) && !(L.any fun n => !inB n 0 20)
def copyB (U D : List Int) (K : List MarkD) (x y z : Int) : Bool := (List.range K.length).all (mrow K) && (cnt U && cnt D && wrote x y z && decide (K.length ≤ 20))
theorem copyB_row {U D : List Int} {K : List MarkD} {x y z : Int} {i : Nat} (hi : i < K.length) (h : mrow K i = false) : copyB U D K x y z = false := by
  rw [copyB, all_range_false hi h, Bool.false_and]
/-- What is counted. -/
def totalI (U D : List Int) : Nat → Int
  | 0 => 0
  | p + 1 => totalI U D p + (U.getD p 0 - D.getD p 0)
theorem cnt_at {L : List Int} (h : cnt L = true) {i : Nat} (hi : i < 3) : ∃ n, L[i]? = some n ∧ 0 ≤ n ∧ n ≤ 20 := by
  simp only [cnt, Bool.and_eq_true, decide_eq_true_eq, Bool.not_eq_true', List.any_eq_false] at h
  have hl : i < L.length := by omega
  refine ⟨L[i], List.getElem?_eq_getElem hl, ?_⟩
  have := h.2 L[i] (List.getElem_mem hl)
  simpa [inB] using this
theorem totalI_bd {U D : List Int} (hu : cnt U = true) (hd : cnt D = true) : ∀ p : Nat, p ≤ 3 → -(20 * (p : Int)) ≤ totalI U D p ∧ totalI U D p ≤ 20 * p
  | 0, _ => by simp [totalI]
  | p + 1, hp => by
    obtain ⟨a, h1, h2, h3⟩ := cnt_at hu (show p < 3 by omega)
    obtain ⟨b, h4, h5, h6⟩ := cnt_at hd (show p < 3 by omega)
    have ih := totalI_bd hu hd p (by omega)
    have e1 : U.getD p 0 = a := by rw [List.getD, h1]; rfl
    have e2 : D.getD p 0 = b := by rw [List.getD, h4]; rfl
    rw [totalI, e1, e2]
    omega
def totalV (U D : List Int) (K : List MarkD) (x y z : Int) : Int := if copyB U D K x y z then totalI U D 3 else 0
end Go.Proofs.Ytkahhcpfkebgiaa
