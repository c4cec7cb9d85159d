/-
  What is in the past of each event, as Lean functions on a list: rows of bits, each of its own bit and the rows of those that it follows. No condition.
-/
import Derived.Test.YtmeehfiekhdbkaaEvP
import Derived.Test.YtmeehfiekhdbkaaPow
namespace Go.Proofs.Ytmeehfiekhdbkaa
open Go.RowKit

theorem ofInt_i64 (a : Nat) (ha : a < 9223372036854775808) : (BitVec.ofInt 64 (a : Int)).toNat = a := by
  rw [BitVec.ofInt_natCast, BitVec.toNat_ofNat]; exact Nat.mod_eq_of_lt (by omega)
theorem i64_or_nat (a b : Nat) (ha : a < 9223372036854775808) (hb : b < 9223372036854775808) : bits .or .i64 (a : Int) (b : Int) = ((a ||| b : Nat) : Int) := by
  have hx : a ||| b < 2 ^ 63 := Nat.or_lt_two_pow (by omega) (by omega)
  show IntKind.i64.wrap ((BitVec.ofInt 64 (a : Int) ||| BitVec.ofInt 64 (b : Int)).toNat : Int) = _
  rw [BitVec.toNat_or, ofInt_i64 a ha, ofInt_i64 b hb, IntKind.wrap_i64]
  omega
theorem ints_info : (Try.prog.info? 3).map (fun i => (i.zero, i.size, i.bytes)) = some (some (.int .i64 0), 1, 8) := by kernel_rfl

/-- o, ahead of x, is before it at one step. -/
def relE (x o : EventD) : Bool := o.proc == x.proc || (x.kind == 2 && o.kind == 1 && o.msg == x.msg)
/-- A row in the making: the first k asked. -/
def rowK (cs : List EventD) (i : Nat) (L : List Nat) : Nat → Nat
  | 0 => 2 ^ i
  | k + 1 => if relE (evAt cs i) (evAt cs k) then rowK cs i L k ||| L.getD k 0 else rowK cs i L k
def pastN (cs : List EventD) : Nat → List Nat
  | 0 => []
  | i + 1 => pastN cs i ++ [rowK cs i (pastN cs i) i]
theorem pastN_len (cs : List EventD) : ∀ n, (pastN cs n).length = n
  | 0 => rfl
  | n + 1 => by simp [pastN, pastN_len cs n]
theorem pastN_get (cs : List EventD) {k : Nat} : ∀ {n m : Nat}, k < n → n ≤ m → (pastN cs m)[k]? = (pastN cs n)[k]? := by
  intro n m hk hnm
  induction m with
  | zero => omega
  | succ m ih =>
    by_cases h : n = m + 1
    · subst h; rfl
    · rw [pastN, List.getElem?_append_left (by rw [pastN_len]; omega)]
      exact ih (by omega)
theorem pastN_row (cs : List EventD) {k n : Nat} (hk : k < n) : (pastN cs n)[k]? = some (rowK cs k (pastN cs k) k) := by
  rw [pastN_get cs (n := k + 1) (by omega) (by omega), pastN, List.getElem?_append_right (by rw [pastN_len]; omega)]
  simp [pastN_len]
theorem rowK_lt (cs : List EventD) (i : Nat) (L : List Nat) (hL : ∀ j : Nat, j < i → L.getD j 0 < 2 ^ (i + 1)) : ∀ k, k ≤ i → rowK cs i L k < 2 ^ (i + 1)
  | 0, _ => Nat.pow_lt_pow_right (by omega) (by omega)
  | k + 1, hk => by
    have ih := rowK_lt cs i L hL k (by omega)
    rw [rowK]
    split
    · exact Nat.or_lt_two_pow ih (hL k (by omega))
    · exact ih
theorem pastN_lt (cs : List EventD) : ∀ n j : Nat, j < n → (pastN cs n).getD j 0 < 2 ^ (j + 1)
  | 0, _, h => by omega
  | n + 1, j, h => by
    by_cases hj : j < n
    · rw [List.getD, pastN_get cs (n := n) hj (by omega)]
      exact pastN_lt cs n j hj
    · have : j = n := by omega
      subst this
      rw [List.getD, pastN_row cs h]
      exact rowK_lt cs j _ (fun k hk => Nat.lt_trans (pastN_lt cs j k hk) (Nat.pow_lt_pow_right (by omega) (by omega))) j (Nat.le_refl _)
theorem rowN_lt (cs : List EventD) (i k : Nat) (hk : k ≤ i) : rowK cs i (pastN cs i) k < 2 ^ (i + 1) :=
  rowK_lt cs i _ (fun j hj => Nat.lt_trans (pastN_lt cs i j hj) (Nat.pow_lt_pow_right (by omega) (by omega))) k hk

/-- The rows as the program's numbers. -/
def pastI (cs : List EventD) (i : Nat) : List Int := (pastN cs i).map Int.ofNat
theorem pastI_len (cs : List EventD) (i : Nat) : (pastI cs i).length = i := by simp [pastI, pastN_len]
theorem pastI_get (cs : List EventD) {i k : Nat} (hk : k < i) : (pastI cs i)[k]? = some (((pastN cs i).getD k 0 : Nat) : Int) := by
  rw [pastI, List.getElem?_map, List.getD]
  have : (pastN cs i)[k]? = some ((pastN cs i)[k]'(by rw [pastN_len]; exact hk)) := List.getElem?_eq_getElem _
  rw [this]; rfl
theorem pastI_succ (cs : List EventD) (i : Nat) : pastI cs (i + 1) = pastI cs i ++ [((rowK cs i (pastN cs i) i : Nat) : Int)] := by
  simp [pastI, pastN]
def pastL (cs : List EventD) : List Int := pastI cs cs.length
theorem rel_ways (p a b m : Bool) : p = true ∨ (p = false ∧ a = false) ∨ (p = false ∧ a = true ∧ b = false) ∨ (p = false ∧ a = true ∧ b = true ∧ m = false) ∨ (p = false ∧ a = true ∧ b = true ∧ m = true) := by
  cases p <;> cases a <;> cases b <;> cases m <;> simp
end Go.Proofs.Ytmeehfiekhdbkaa
