/-
  What a cut is, as a Lean function on rows of bits. No condition.
-/
import Derived.Test.YtmeehfiekhdbkaaScalP
namespace Go.Proofs.Ytmeehfiekhdbkaa
open Go.RowKit

theorem bv_andNot (x y : BitVec 64) : x &&& ~~~y = x ^^^ (x &&& y) := by
  ext i hi
  simp
  cases x[i] <;> cases y[i] <;> rfl
theorem i64_andNot_nat (a b : Nat) (ha : a < 9223372036854775808) (hb : b < 9223372036854775808) : bits .andNot .i64 (a : Int) (b : Int) = ((a ^^^ (a &&& b) : Nat) : Int) := by
  have hx : a ^^^ (a &&& b) < 2 ^ 63 := Nat.xor_lt_two_pow (by omega) (Nat.and_lt_two_pow _ (by omega))
  show IntKind.i64.wrap ((BitVec.ofInt 64 (a : Int) &&& ~~~(BitVec.ofInt 64 (b : Int))).toNat : Int) = _
  rw [bv_andNot, BitVec.toNat_xor, BitVec.toNat_and, ofInt_i64 a ha, ofInt_i64 b hb, IntKind.wrap_i64]
  omega
theorem xor_and_zero (a b : Nat) : (a ^^^ (a &&& b) = 0) ↔ a &&& b = a := by
  constructor
  · intro h
    have := congrArg (fun t => a ^^^ t) h
    simpa [← Nat.xor_assoc] using this
  · intro h; rw [h]; simp

/-- The set s has with event i its past. -/
def cutAt (cs : List EventD) (s i : Nat) : Bool := !(bitN s i == 1 && (pastRow cs i &&& s) != pastRow cs i)
def cutB (cs : List EventD) (n s : Nat) : Bool := (List.range n).all (cutAt cs s)
/-- What IsCut says. -/
def isCutB (cs : List EventD) (x : Int) : Bool := evB cs && (inB x 0 (2 ^ cs.length - 1) && cutB cs cs.length x.toNat)
theorem inB_two {x : Int} {n : Nat} (h : inB x 0 (2 ^ n - 1) = true) : ∃ s : Nat, x = s ∧ s < 2 ^ n := by
  simp only [inB, decide_eq_true_eq] at h
  rw [← two_cast] at h
  exact ⟨x.toNat, by omega, by omega⟩
end Go.Proofs.Ytmeehfiekhdbkaa
