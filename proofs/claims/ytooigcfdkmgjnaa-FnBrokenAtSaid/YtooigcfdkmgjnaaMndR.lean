/-
  Mended reads, access by access: what the program and the reference add up to is the same. No condition.
-/
import Derived.Test.YtooigcfdkmgjnaaBrkQ
namespace Go.Proofs.Ytooigcfdkmgjnaa
open Go.RowKit

theorem mendTo_set {cs : List AccessD} {i : Nat} {c : AccessD} (hc : cs[i]? = some c) : (mendTo cs i).set i (mendOne (mendK cs i) c) = mendTo cs (i + 1) := by
  obtain ⟨hi, e⟩ := List.getElem?_eq_some_iff.1 hc
  rw [mendTo, mendTo, List.set_append, if_neg (by rw [mendK_len]; omega), mendK_len, Nat.sub_self, List.drop_eq_getElem_cons hi, List.set_cons_zero, mendK, aAt_eq hc, List.append_assoc]
  rfl
theorem mendTo_write {cs : List AccessD} {i : Nat} {c : AccessD} (hc : cs[i]? = some c) (hw : c.write = true) : mendTo cs (i + 1) = mendTo cs i := by
  obtain ⟨hi, e⟩ := List.getElem?_eq_some_iff.1 hc
  rw [mendTo, mendTo, mendK, aAt_eq hc, mendOne, if_pos hw, List.append_assoc, List.drop_eq_getElem_cons hi, e]
  rfl
theorem mendTo_here {cs : List AccessD} {i : Nat} {c : AccessD} (hc : cs[i]? = some c) : (mendTo cs i)[i]? = some c := by
  rw [mendTo_hi cs (Nat.le_refl i)]; exact hc
theorem due_prog {cs : List AccessD} {i : Nat} {c : AccessD} (hc : cs[i]? = some c) {k : Nat} (hk : i ≤ k) :
    cauK ((c.seen.toNat ||| mineK (mendK cs k) c.session i) ||| seenK (mendK cs k) c.session i) (cauN (mendK cs k) i) ((c.seen.toNat ||| mineK (mendK cs k) c.session i) ||| seenK (mendK cs k) c.session i) (wrN (mendK cs k) i) = dueN (mendK cs i) c := by
  have e1 := cauN_take (cs := mendK cs k) (k := i) i (Nat.le_refl _)
  have e2 := wrN_take (cs := mendK cs k) (k := i) (i := i) (Nat.le_refl _)
  have e3 := mineK_take (cs := mendK cs k) (k := i) c.session i (Nat.le_refl _)
  have e4 := seenK_take (cs := mendK cs k) (k := i) c.session i (Nat.le_refl _)
  rw [mendK_take cs hk] at e1 e2 e3 e4
  rw [dueN, mendK_len, e1, e2, e3, e4, Nat.or_assoc]
theorem due_ref {cs : List AccessD} (hv : accB cs = true) {i : Nat} {c : AccessD} (hc : cs[i]? = some c) :
    needK 0 (cauN (mendK cs i) i) ((mineK (mendTo cs i) c.session i ||| seenK (mendTo cs i) c.session i) ||| c.seen.toNat) (wrN (mendK cs i) i) = dueN (mendK cs i) c := by
  have hi := (List.getElem?_eq_some_iff.1 hc).1
  have hM := mendK_valid hv i (by omega)
  have e3 := mineK_take (cs := mendTo cs i) (k := i) c.session i (Nat.le_refl _)
  have e4 := seenK_take (cs := mendTo cs i) (k := i) c.session i (Nat.le_refl _)
  rw [mendTo_take cs i] at e3 e4
  rw [needK_eq 0 _ _ (cauN_low (mendK cs i) (near_all hM) (by rw [mendK_len]; exact Nat.le_refl _)), Nat.zero_or, dueN, mendK_len, ← e3, ← e4, Nat.or_comm (mineK (mendK cs i) c.session i ||| seenK (mendK cs i) c.session i)]
theorem due_lt {cs : List AccessD} (hv : accB cs = true) {i : Nat} {c : AccessD} (hc : cs[i]? = some c) : dueN (mendK cs i) c < 2 ^ 10 := by
  have hi := (List.getElem?_eq_some_iff.1 hc).1
  have hM := mendK_valid hv i (by omega)
  have hten := wrN_ten hM (mendK cs i).length
  obtain ⟨s, h1, h2⟩ := acc_seen hv hc
  have hten2 := wrN_ten hv i
  have e1 : 2 ^ wrN (mendK cs i) (mendK cs i).length ≤ 2 ^ 10 := Nat.pow_le_pow_right (by omega) hten
  have e2 : 2 ^ wrN cs i ≤ 2 ^ 10 := Nat.pow_le_pow_right (by omega) hten2
  have hS : c.seen.toNat ||| (mineK (mendK cs i) c.session (mendK cs i).length ||| seenK (mendK cs i) c.session (mendK cs i).length) < 2 ^ 10 :=
    Nat.or_lt_two_pow (by rw [h1]; simp; omega) (Nat.or_lt_two_pow (Nat.lt_of_lt_of_le (mineK_lt _ _ _ (Nat.le_refl _)) e1) (Nat.lt_of_lt_of_le (seenK_lt hM _ _ (Nat.le_refl _)) e1))
  exact cauK_lt _ _ _ _ hS (fun j => Nat.lt_of_lt_of_le (cauN_lt _ _ (Nat.le_refl _) j) e1) _
theorem mendOne_read {M : List AccessD} {c : AccessD} (hw : c.write = false) : mendOne M c = ⟨c.session, false, (dueN M c : Int)⟩ := by
  rw [mendOne, hw]; rfl
theorem mendOne_wr {M : List AccessD} {c : AccessD} (hw : c.write = true) : mendOne M c = c := by
  rw [mendOne, if_pos hw]
theorem mendK_here {cs : List AccessD} {i k : Nat} {c : AccessD} (hc : cs[i]? = some c) (hk : i < k) : (mendK cs k)[i]? = some (mendOne (mendK cs i) c) := by
  rw [mendK_get cs hk, aAt_eq hc]
theorem mendK_snoc {cs : List AccessD} {i : Nat} {c : AccessD} (hc : cs[i]? = some c) : mendK cs (i + 1) = mendK cs i ++ [mendOne (mendK cs i) c] := by
  rw [mendK, aAt_eq hc]
end Go.Proofs.Ytooigcfdkmgjnaa
