/-
  The scalar times of events, as Lean functions on rows of bits; and how a bit is read. No condition.
-/
import Derived.Test.YtmeehfiekhdbkaaPastP
namespace Go.Proofs.Ytmeehfiekhdbkaa
open Go.RowKit

theorem i64_and_nat (a b : Nat) (ha : a < 9223372036854775808) (hb : b < 9223372036854775808) : bits .and .i64 (a : Int) (b : Int) = ((a &&& b : Nat) : Int) := by
  have hx : a &&& b < 2 ^ 63 := Nat.and_lt_two_pow _ (by omega)
  show IntKind.i64.wrap ((BitVec.ofInt 64 (a : Int) &&& BitVec.ofInt 64 (b : Int)).toNat : Int) = _
  rw [BitVec.toNat_and, ofInt_i64 a ha, ofInt_i64 b hb, IntKind.wrap_i64]
  omega
def bitN (r k : Nat) : Nat := r / 2 ^ k % 2
theorem bitN_le (r k : Nat) : bitN r k ≤ 1 := by unfold bitN; omega
theorem quo_cast (r k : Nat) : (r : Int) / 2 ^ k = ((r / 2 ^ k : Nat) : Int) := by rw [Int.natCast_ediv, two_cast]
theorem bit_and {r : Nat} (hr : r < 2 ^ 60) (k : Nat) : bits .and .i64 ((r : Int) / 2 ^ k) 1 = ((bitN r k : Nat) : Int) := by
  have h1 : r / 2 ^ k ≤ r := Nat.div_le_self _ _
  have e : (2 : Nat) ^ 60 = 1152921504606846976 := by decide
  rw [quo_cast, show (1 : Int) = ((1 : Nat) : Int) from rfl, i64_and_nat _ _ (by omega) (by omega), Nat.and_one_is_mod, bitN]
theorem bit_quo (r k : Nat) : ((r : Int) / 2 ^ k) % 2 = ((bitN r k : Nat) : Int) := by
  rw [quo_cast, bitN, Int.natCast_emod]; rfl

/-- The row of one event. -/
def pastRow (cs : List EventD) (i : Nat) : Nat := rowK cs i (pastN cs i) i
theorem pastRow_lt (cs : List EventD) (i : Nat) : pastRow cs i < 2 ^ (i + 1) := rowN_lt cs i i (Nat.le_refl _)
theorem pastI_row (cs : List EventD) {i n : Nat} (hi : i < n) : (pastI cs n)[i]? = some ((pastRow cs i : Nat) : Int) := by
  rw [pastI, List.getElem?_map, pastN_row cs hi]; rfl
/-- The greatest of those that the first k bits of a row tell. -/
def scK (r : Nat) (L : List Nat) : Nat → Nat
  | 0 => 0
  | k + 1 => if bitN r k = 1 then max (scK r L k) (L.getD k 0) else scK r L k
def scN (cs : List EventD) : Nat → List Nat
  | 0 => []
  | i + 1 => scN cs i ++ [scK (pastRow cs i) (scN cs i) i + 1]
theorem scN_len (cs : List EventD) : ∀ n, (scN cs n).length = n
  | 0 => rfl
  | n + 1 => by simp [scN, scN_len cs n]
theorem scK_le (r : Nat) (L : List Nat) (m : Nat) (hL : ∀ j, L.getD j 0 ≤ m) : ∀ k, scK r L k ≤ m
  | 0 => by simp [scK]
  | k + 1 => by
    have ih := scK_le r L m hL k
    have := hL k
    rw [scK]
    split <;> omega
theorem scN_le (cs : List EventD) : ∀ n j, (scN cs n).getD j 0 ≤ n
  | 0, j => by simp [scN]
  | n + 1, j => by
    rw [scN]
    by_cases hj : j < n
    · rw [List.getD, List.getElem?_append_left (by rw [scN_len]; exact hj)]
      exact Nat.le_trans (scN_le cs n j) (by omega)
    · by_cases hj2 : j = n
      · subst hj2
        rw [List.getD, List.getElem?_append_right (by rw [scN_len]; omega), scN_len]
        simp
        exact scK_le _ _ _ (scN_le cs j) j
      · rw [List.getD, List.getElem?_eq_none (by simp [scN_len]; omega)]
        simp
def scI (cs : List EventD) (i : Nat) : List Int := (scN cs i).map Int.ofNat
theorem scI_len (cs : List EventD) (i : Nat) : (scI cs i).length = i := by simp [scI, scN_len]
theorem scI_get (cs : List EventD) {i k : Nat} (hk : k < i) : (scI cs i)[k]? = some (((scN cs i).getD k 0 : Nat) : Int) := by
  rw [scI, List.getElem?_map, List.getD]
  have : (scN cs i)[k]? = some ((scN cs i)[k]'(by rw [scN_len]; exact hk)) := List.getElem?_eq_getElem _
  rw [this]; rfl
theorem scI_succ (cs : List EventD) (i : Nat) : scI cs (i + 1) = scI cs i ++ [((scK (pastRow cs i) (scN cs i) i + 1 : Nat) : Int)] := by
  simp [scI, scN]
def scalOfL (cs : List EventD) : List Int := if evB cs then scI cs cs.length else []
theorem scalOfL_len (cs : List EventD) : (scalOfL cs).length ≤ 1048576 := by
  unfold scalOfL
  split
  · next h => have := evB_len h; rw [scI_len]; omega
  · simp
end Go.Proofs.Ytmeehfiekhdbkaa
