/-
  The causes of each write, as Lean functions on a list. No condition.
-/
import Derived.Test.YtooigcfdkmgjnaaAccN
namespace Go.Proofs.Ytooigcfdkmgjnaa
open Go.RowKit

/-- A set of bits with what each of the first n of another set brings. -/
def cauK (near : Nat) (L : List Nat) (start : Nat) : Nat → Nat
  | 0 => start
  | n + 1 => if bitN near n = 1 then cauK near L start n ||| L.getD n 0 else cauK near L start n
def nearN (cs : List AccessD) (i : Nat) : Nat := mineK cs (aAt cs i).session i ||| seenK cs (aAt cs i).session i
def cauN (cs : List AccessD) : Nat → List Nat
  | 0 => []
  | i + 1 => if (aAt cs i).write then cauN cs i ++ [cauK (nearN cs i) (cauN cs i) (2 ^ wrN cs i) (wrN cs i)] else cauN cs i
theorem cauN_len (cs : List AccessD) : ∀ i, i ≤ cs.length → (cauN cs i).length = wrN cs i
  | 0, _ => by simp [cauN, wrN]
  | i + 1, h => by
    have ih := cauN_len cs i (by omega)
    have hc : cs[i]? = some (cs[i]'(by omega)) := List.getElem?_eq_getElem _
    have hs := wrN_succ hc
    rw [cauN, aAt_eq hc]
    generalize cs[i] = c at *
    cases hw : c.write
    · simp [hw] at hs ⊢; omega
    · simp [hw] at hs ⊢; omega
theorem cauK_lt (near : Nat) (L : List Nat) (start m : Nat) (hs : start < 2 ^ m) (hL : ∀ j, L.getD j 0 < 2 ^ m) : ∀ n, cauK near L start n < 2 ^ m
  | 0 => hs
  | n + 1 => by
    have ih := cauK_lt near L start m hs hL n
    rw [cauK]
    split
    · exact Nat.or_lt_two_pow ih (hL n)
    · exact ih
theorem cauN_lt (cs : List AccessD) : ∀ i, i ≤ cs.length → ∀ j, (cauN cs i).getD j 0 < 2 ^ wrN cs i
  | 0, _, j => by simp [cauN, wrN]
  | i + 1, h, j => by
    have ih := cauN_lt cs i (by omega)
    have hlen := cauN_len cs i (by omega)
    have hc : cs[i]? = some (cs[i]'(by omega)) := List.getElem?_eq_getElem _
    have hs := wrN_succ hc
    rw [cauN, aAt_eq hc]
    generalize cs[i] = c at *
    cases hw : c.write
    · simp [hw] at hs ⊢
      rw [hs]; simpa using ih j
    · have hs' : wrN cs (i + 1) = wrN cs i + 1 := by simp [hw] at hs; exact hs
      rw [if_pos rfl, hs']
      have hup : 2 ^ wrN cs i < 2 ^ (wrN cs i + 1) := Nat.pow_lt_pow_right (by omega) (by omega)
      by_cases hj : j < wrN cs i
      · rw [List.getD, List.getElem?_append_left (by omega)]
        exact Nat.lt_trans (ih j) hup
      · by_cases hj2 : j = wrN cs i
        · rw [List.getD, List.getElem?_append_right (by omega), hlen, hj2]
          simp
          exact cauK_lt _ _ _ _ hup (fun k => Nat.lt_trans (ih k) hup) _
        · rw [List.getD, List.getElem?_eq_none (by simp [hlen]; omega)]
          simp
          exact Nat.two_pow_pos _
def cauI (cs : List AccessD) (i : Nat) : List Int := (cauN cs i).map Int.ofNat
theorem cauI_len {cs : List AccessD} {i : Nat} (h : i ≤ cs.length) : (cauI cs i).length = wrN cs i := by simp [cauI, cauN_len cs i h]
theorem cauI_get {cs : List AccessD} {i k : Nat} (h : i ≤ cs.length) (hk : k < wrN cs i) : (cauI cs i)[k]? = some (((cauN cs i).getD k 0 : Nat) : Int) := by
  rw [cauI, List.getElem?_map, List.getD]
  have : (cauN cs i)[k]? = some ((cauN cs i)[k]'(by rw [cauN_len cs i h]; exact hk)) := List.getElem?_eq_getElem _
  rw [this]; rfl
theorem cauI_write {cs : List AccessD} {i : Nat} {c : AccessD} (hc : cs[i]? = some c) (hw : c.write = true) : cauI cs (i + 1) = cauI cs i ++ [((cauK (nearN cs i) (cauN cs i) (2 ^ wrN cs i) (wrN cs i) : Nat) : Int)] := by
  rw [cauI, cauN, aAt_eq hc, if_pos hw]; simp [cauI]
theorem cauI_read {cs : List AccessD} {i : Nat} {c : AccessD} (hc : cs[i]? = some c) (hw : c.write = false) : cauI cs (i + 1) = cauI cs i := by
  rw [cauI, cauN, aAt_eq hc, if_neg (by simp [hw])]; rfl
theorem nearN_eq {cs : List AccessD} {i : Nat} {c : AccessD} (hc : cs[i]? = some c) : nearN cs i = mineK cs c.session i ||| seenK cs c.session i := by rw [nearN, aAt_eq hc]
theorem nearN_lt {cs : List AccessD} (hv : accB cs = true) {i : Nat} (hi : i ≤ cs.length) : nearN cs i < 2 ^ wrN cs i := Nat.or_lt_two_pow (mineK_lt _ _ _ hi) (seenK_lt hv _ _ hi)
end Go.Proofs.Ytooigcfdkmgjnaa
