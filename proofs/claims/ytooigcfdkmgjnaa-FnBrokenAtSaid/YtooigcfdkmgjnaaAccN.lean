/-
  Which writes a session has made and had ahead of an access, and the causes of each write, as Lean functions on a list. No condition.
-/
import Derived.Test.YtooigcfdkmgjnaaAccP
namespace Go.Proofs.Ytooigcfdkmgjnaa
open Go.RowKit

theorem ofInt_i64 (a : Nat) (ha : a < 9223372036854775808) : (BitVec.ofInt 64 (a : Int)).toNat = a := by
  rw [BitVec.ofInt_natCast, BitVec.toNat_ofNat]; exact Nat.mod_eq_of_lt (by omega)
theorem i64_or_nat (a b : Nat) (ha : a < 9223372036854775808) (hb : b < 9223372036854775808) : bits .or .i64 (a : Int) (b : Int) = ((a ||| b : Nat) : Int) := by
  have hx : a ||| b < 2 ^ 63 := Nat.or_lt_two_pow (by omega) (by omega)
  show IntKind.i64.wrap ((BitVec.ofInt 64 (a : Int) ||| BitVec.ofInt 64 (b : Int)).toNat : Int) = _
  rw [BitVec.toNat_or, ofInt_i64 a ha, ofInt_i64 b hb, IntKind.wrap_i64]
  omega
theorem i64_and_nat (a b : Nat) (ha : a < 9223372036854775808) (hb : b < 9223372036854775808) : bits .and .i64 (a : Int) (b : Int) = ((a &&& b : Nat) : Int) := by
  have hx : a &&& b < 2 ^ 63 := Nat.and_lt_two_pow _ (by omega)
  show IntKind.i64.wrap ((BitVec.ofInt 64 (a : Int) &&& BitVec.ofInt 64 (b : Int)).toNat : Int) = _
  rw [BitVec.toNat_and, ofInt_i64 a ha, ofInt_i64 b hb, IntKind.wrap_i64]
  omega
theorem ints_info : (Try.prog.info? 3).map (fun i => (i.zero, i.size, i.bytes)) = some (some (.int .i64 0), 1, 8) := by kernel_rfl
def bitN (r k : Nat) : Nat := r / 2 ^ k % 2
theorem bitN_le (r k : Nat) : bitN r k ≤ 1 := by unfold bitN; omega
theorem quo_cast (r k : Nat) : (r : Int) / 2 ^ k = ((r / 2 ^ k : Nat) : Int) := by rw [Int.natCast_ediv, two_cast]
theorem bit_and {r : Nat} (hr : r < 2 ^ 60) (k : Nat) : bits .and .i64 ((r : Int) / 2 ^ k) 1 = ((bitN r k : Nat) : Int) := by
  have h1 : r / 2 ^ k ≤ r := Nat.div_le_self _ _
  have e : (2 : Nat) ^ 60 = 1152921504606846976 := by decide
  rw [quo_cast, show (1 : Int) = ((1 : Nat) : Int) from rfl, i64_and_nat _ _ (by omega) (by omega), Nat.and_one_is_mod, bitN]

theorem wrN_mono (cs : List AccessD) {j k : Nat} (h : j ≤ k) : wrN cs j ≤ wrN cs k := by
  unfold wrN
  have : cs.take j = (cs.take k).take j := by rw [List.take_take, Nat.min_eq_left h]
  rw [this]
  exact List.Sublist.countP_le (List.take_sublist _ _)
/-- The writes that a session has made among the first k. -/
def mineK (cs : List AccessD) (s : Int) : Nat → Nat
  | 0 => 0
  | k + 1 => if (aAt cs k).write && (aAt cs k).session == s then mineK cs s k ||| 2 ^ wrN cs k else mineK cs s k
/-- The writes that a session has read among the first k. -/
def seenK (cs : List AccessD) (s : Int) : Nat → Nat
  | 0 => 0
  | k + 1 => if !(aAt cs k).write && (aAt cs k).session == s then seenK cs s k ||| (aAt cs k).seen.toNat else seenK cs s k
theorem mineK_lt (cs : List AccessD) (s : Int) : ∀ k, k ≤ cs.length → mineK cs s k < 2 ^ wrN cs k
  | 0, _ => by simp [mineK, wrN]
  | k + 1, hk => by
    have ih := mineK_lt cs s k (by omega)
    have hc : cs[k]? = some (cs[k]'(by omega)) := List.getElem?_eq_getElem _
    have hs := wrN_succ hc
    have he := aAt_eq hc
    rw [mineK, he]
    generalize cs[k] = c at *
    have hle : 2 ^ wrN cs k ≤ 2 ^ wrN cs (k + 1) := Nat.pow_le_pow_right (by omega) (by omega)
    split
    · next h =>
      simp only [Bool.and_eq_true] at h
      rw [h.1, if_pos rfl] at hs
      rw [hs]
      exact Nat.or_lt_two_pow (by rw [hs] at hle; omega) (Nat.pow_lt_pow_right (by omega) (by omega))
    · omega
theorem seenK_lt {cs : List AccessD} (hv : accB cs = true) (s : Int) : ∀ k, k ≤ cs.length → seenK cs s k < 2 ^ wrN cs k
  | 0, _ => by simp [seenK, wrN]
  | k + 1, hk => by
    have ih := seenK_lt hv s k (by omega)
    have hc : cs[k]? = some (cs[k]'(by omega)) := List.getElem?_eq_getElem _
    have hs := wrN_succ hc
    have he := aAt_eq hc
    have hok := accB_at hv hc
    rw [seenK, he]
    generalize cs[k] = c at *
    have hle : 2 ^ wrN cs k ≤ 2 ^ wrN cs (k + 1) := Nat.pow_le_pow_right (by omega) (by omega)
    simp only [okAcc, inB, Bool.and_eq_true, decide_eq_true_eq] at hok
    have h1 := hok.2
    rw [← two_cast] at h1
    split
    · exact Nat.or_lt_two_pow (by omega) (by omega)
    · omega
theorem acc_seen {cs : List AccessD} (hv : accB cs = true) {k : Nat} {c : AccessD} (hc : cs[k]? = some c) : ∃ s : Nat, c.seen = s ∧ s < 2 ^ wrN cs k := by
  have hok := accB_at hv hc
  simp only [okAcc, inB, Bool.and_eq_true, decide_eq_true_eq] at hok
  have h1 := hok.2
  rw [← two_cast] at h1
  exact ⟨c.seen.toNat, by omega, by omega⟩
theorem wrN_ten {cs : List AccessD} (hv : accB cs = true) (k : Nat) : wrN cs k ≤ 10 := by
  have h1 := accB_len hv
  by_cases hk : k ≤ cs.length
  · exact Nat.le_trans (wrN_le cs k) (by omega)
  · have : wrN cs k = wrN cs cs.length := by unfold wrN; rw [List.take_of_length_le (by omega), List.take_length]
    rw [this]
    exact Nat.le_trans (wrN_le cs _) h1
end Go.Proofs.Ytooigcfdkmgjnaa
