/-
  Causal accesses and mended ones, as Lean functions on a list. No condition.
-/
import Derived.Test.YtooigcfdkmgjnaaMndP
namespace Go.Proofs.Ytooigcfdkmgjnaa
open Go.RowKit

/-! ### causal -/
def seenN (cs : List AccessD) (i : Nat) : Nat := (aAt cs i).seen.toNat
def causRow (cs : List AccessD) (i : Nat) : Bool := (aAt cs i).write || subN (nearN cs i ||| cauK (seenN cs i) (cauN cs i) (seenN cs i) (wrN cs i)) (seenN cs i)
def causalB (cs : List AccessD) : Bool := accB cs && (List.range cs.length).all (causRow cs)
theorem seenN_lt {cs : List AccessD} (hv : accB cs = true) {i : Nat} (hi : i < cs.length) : seenN cs i < 2 ^ wrN cs i := by
  have hc : cs[i]? = some (cs[i]'(by omega)) := List.getElem?_eq_getElem _
  obtain ⟨s, h1, h2⟩ := acc_seen hv hc
  rw [seenN, aAt_eq hc, h1]
  simpa using h2
/-- What the reference asks of a read is what the program asks. -/
theorem caus_same {cs : List AccessD} (hv : accB cs = true) {i : Nat} (hi : i < cs.length) :
    subN (needK (seenN cs i) (cauN cs cs.length) (nearN cs i) (wrN cs cs.length)) (seenN cs i) = subN (nearN cs i ||| cauK (seenN cs i) (cauN cs i) (seenN cs i) (wrN cs i)) (seenN cs i) := by
  have hs := seenN_lt hv hi
  have hw := wrN_mono cs (show i ≤ cs.length by omega)
  rw [needK_eq _ _ _ (cauN_low cs (near_all hv) (Nat.le_refl _)), Bool.eq_iff_iff, subN_iff, subN_iff]
  constructor
  · intro h t ht
    rw [Nat.testBit_or, Bool.or_eq_true, cauK_test] at ht
    rcases ht with ht | ht | ⟨j, hj, h1, h2⟩
    · exact h t (by rw [cauK_test]; exact .inl ht)
    · exact ht
    · refine h t ?_
      rw [cauK_test]
      refine .inr ⟨j, by omega, by rw [Nat.testBit_or, h1]; rfl, ?_⟩
      rw [cauN_pre_le cs (by omega) (Nat.le_refl _) hj]
      exact h2
  · intro h t ht
    rw [cauK_test] at ht
    have hnear : ∀ t, (nearN cs i).testBit t = true → (seenN cs i).testBit t = true := fun t ht => h t (by rw [Nat.testBit_or, ht]; rfl)
    rcases ht with ht | ⟨j, hj, h1, h2⟩
    · exact hnear t ht
    · have hj1 : (seenN cs i).testBit j = true := by
        rw [Nat.testBit_or, Bool.or_eq_true] at h1
        rcases h1 with h1 | h1
        · exact h1
        · exact hnear j h1
      have hjl := testBit_hi hs hj1
      refine h t ?_
      rw [Nat.testBit_or, Bool.or_eq_true, cauK_test]
      refine .inr (.inr ⟨j, hjl, hj1, ?_⟩)
      rw [← cauN_pre_le cs (show i ≤ cs.length by omega) (Nat.le_refl _) hjl]
      exact h2
theorem causalB_row {cs : List AccessD} {i : Nat} (hi : i < cs.length) (hr : causRow cs i = false) : causalB cs = false := by
  simp only [causalB, Bool.and_eq_false_iff]
  exact .inr (all_range_false hi hr)

/-! ### mended -/
def dueN (M : List AccessD) (x : AccessD) : Nat := cauK (x.seen.toNat ||| (mineK M x.session M.length ||| seenK M x.session M.length)) (cauN M M.length) (x.seen.toNat ||| (mineK M x.session M.length ||| seenK M x.session M.length)) (wrN M M.length)
def mendOne (M : List AccessD) (x : AccessD) : AccessD := if x.write then x else ⟨x.session, x.write, (dueN M x : Int)⟩
theorem mendOne_session (M : List AccessD) (x : AccessD) : (mendOne M x).session = x.session := by unfold mendOne; split <;> rfl
theorem mendOne_write (M : List AccessD) (x : AccessD) : (mendOne M x).write = x.write := by unfold mendOne; split <;> rfl
def mendK (cs : List AccessD) : Nat → List AccessD
  | 0 => []
  | k + 1 => mendK cs k ++ [mendOne (mendK cs k) (aAt cs k)]
theorem mendK_len (cs : List AccessD) : ∀ k, (mendK cs k).length = k
  | 0 => rfl
  | k + 1 => by simp [mendK, mendK_len cs k]
theorem mendK_get (cs : List AccessD) {i : Nat} : ∀ {k}, i < k → (mendK cs k)[i]? = some (mendOne (mendK cs i) (aAt cs i))
  | 0, h => by omega
  | k + 1, h => by
    rw [mendK]
    by_cases hik : i < k
    · rw [List.getElem?_append_left (by rw [mendK_len]; exact hik)]
      exact mendK_get cs hik
    · obtain rfl : i = k := by omega
      rw [List.getElem?_append_right (by rw [mendK_len]; omega), mendK_len]; simp
def mendTo (cs : List AccessD) (k : Nat) : List AccessD := mendK cs k ++ cs.drop k
theorem mendTo_len {cs : List AccessD} {k : Nat} (h : k ≤ cs.length) : (mendTo cs k).length = cs.length := by
  simp [mendTo, mendK_len]; omega
theorem mendTo_lo (cs : List AccessD) {i k : Nat} (h : i < k) : (mendTo cs k)[i]? = some (mendOne (mendK cs i) (aAt cs i)) := by
  rw [mendTo, List.getElem?_append_left (by rw [mendK_len]; exact h), mendK_get cs h]
theorem mendTo_hi (cs : List AccessD) {i k : Nat} (h : k ≤ i) : (mendTo cs k)[i]? = cs[i]? := by
  rw [mendTo, List.getElem?_append_right (by rw [mendK_len]; exact h), mendK_len, List.getElem?_drop]
  congr 1; omega
theorem mendTo_take (cs : List AccessD) (k : Nat) : (mendTo cs k).take k = mendK cs k := by
  rw [mendTo]
  exact List.take_left' (mendK_len cs k)
theorem mendTo_zero (cs : List AccessD) : mendTo cs 0 = cs := by simp [mendTo, mendK]
theorem mendTo_all (cs : List AccessD) : mendTo cs cs.length = mendK cs cs.length := by simp [mendTo]
theorem mendTo_at_write (cs : List AccessD) (k i : Nat) : (aAt (mendTo cs k) i).write = (aAt cs i).write := by
  by_cases h : i < k
  · rw [aAt_eq (mendTo_lo cs h), mendOne_write]
  · have e := mendTo_hi cs (show k ≤ i by omega)
    unfold aAt
    rw [List.getD, e, List.getD]
theorem mendTo_at_session (cs : List AccessD) (k i : Nat) : (aAt (mendTo cs k) i).session = (aAt cs i).session := by
  by_cases h : i < k
  · rw [aAt_eq (mendTo_lo cs h), mendOne_session]
  · have e := mendTo_hi cs (show k ≤ i by omega)
    unfold aAt
    rw [List.getD, e, List.getD]
/-- Lists that agree on what is written. -/
theorem wrN_congr {a b : List AccessD} : ∀ k, k ≤ a.length → k ≤ b.length → (∀ j, j < k → (aAt a j).write = (aAt b j).write) → wrN a k = wrN b k
  | 0, _, _, _ => by simp [wrN]
  | k + 1, ha, hb, h => by
    have ih := wrN_congr k (by omega) (by omega) (fun j hj => h j (by omega))
    have h1 : a[k]? = some (a[k]'(by omega)) := List.getElem?_eq_getElem _
    have h2 : b[k]? = some (b[k]'(by omega)) := List.getElem?_eq_getElem _
    have e := h k (by omega)
    rw [aAt_eq h1, aAt_eq h2] at e
    rw [wrN_succ h1, wrN_succ h2, ih, e]
theorem mineK_congr {a b : List AccessD} {s : Int} : ∀ k, k ≤ a.length → k ≤ b.length → (∀ j, j < k → (aAt a j).write = (aAt b j).write ∧ (aAt a j).session = (aAt b j).session) → mineK a s k = mineK b s k
  | 0, _, _, _ => rfl
  | k + 1, ha, hb, h => by
    have ih := mineK_congr (s := s) k (by omega) (by omega) (fun j hj => h j (by omega))
    have hw := wrN_congr k (by omega) (by omega) (fun j hj => (h j (by omega)).1)
    rw [mineK, mineK, ih, hw, (h k (by omega)).1, (h k (by omega)).2]
theorem seenK_congr {a b : List AccessD} {s : Int} : ∀ k, (∀ j, j < k → aAt a j = aAt b j) → seenK a s k = seenK b s k
  | 0, _ => rfl
  | k + 1, h => by
    have ih := seenK_congr (s := s) k (fun j hj => h j (by omega))
    rw [seenK, seenK, ih, h k (by omega)]
theorem cauN_congr {a b : List AccessD} : ∀ k, k ≤ a.length → k ≤ b.length → (∀ j, j < k → aAt a j = aAt b j) → cauN a k = cauN b k
  | 0, _, _, _ => rfl
  | k + 1, ha, hb, h => by
    have ih := cauN_congr k (by omega) (by omega) (fun j hj => h j (by omega))
    have hw : wrN a k = wrN b k := wrN_congr k (by omega) (by omega) (fun j hj => by rw [h j (by omega)])
    have hm : ∀ s, mineK a s k = mineK b s k := fun s => mineK_congr k (by omega) (by omega) (fun j hj => by rw [h j (by omega)]; exact ⟨rfl, rfl⟩)
    have hs : ∀ s, seenK a s k = seenK b s k := fun s => seenK_congr k (fun j hj => h j (by omega))
    rw [cauN, cauN, ih, hw, h k (by omega), nearN, nearN, h k (by omega), hm, hs]
theorem mendTo_at_lo (cs : List AccessD) {i k : Nat} (h : i < k) : aAt (mendTo cs k) i = aAt (mendK cs k) i := by
  rw [aAt_eq (mendTo_lo cs h), aAt_eq (mendK_get cs h)]
theorem mendTo_wr (cs : List AccessD) (k i : Nat) (hk : k ≤ cs.length) (hi : i ≤ cs.length) : wrN (mendTo cs k) i = wrN cs i :=
  wrN_congr i (by rw [mendTo_len hk]; exact hi) hi (fun j hj => mendTo_at_write cs k j)
theorem mendK_wr (cs : List AccessD) (k i : Nat) (hk : k ≤ cs.length) (hi : i ≤ k) : wrN (mendK cs k) i = wrN cs i := by
  rw [← mendTo_wr cs k i hk (by omega)]
  exact wrN_congr i (by rw [mendK_len]; exact hi) (by rw [mendTo_len hk]; omega) (fun j hj => by rw [mendTo_at_lo cs (show j < k by omega)])
theorem accB_of {L : List AccessD} (hl : L.length ≤ 10) (h : ∀ i c, L[i]? = some c → okAcc (wrN L i) c = true) : accB L = true := by
  refine accB_true hl ?_
  rw [List.all_eq_true]
  intro i hi
  rw [List.mem_range] at hi
  have hc : L[i]? = some (L[i]'hi) := List.getElem?_eq_getElem _
  rw [accRow, aAt_eq hc]
  exact h i _ hc
theorem accB_take {L : List AccessD} (h : accB L = true) (k : Nat) : accB (L.take k) = true := by
  refine accB_of (Nat.le_trans (by rw [List.length_take]; omega) (accB_len h)) (fun i c hc => ?_)
  rw [List.getElem?_take] at hc
  split at hc
  · rename_i hi
    have := accB_at h hc
    have e : wrN (L.take k) i = wrN L i := by unfold wrN; rw [List.take_take, Nat.min_eq_left (by omega)]
    rw [e]; exact this
  · cases hc
theorem mendOne_ok {M : List AccessD} (hM : accB M = true) {x : AccessD} (hx : okAcc (wrN M M.length) x = true) : okAcc (wrN M M.length) (mendOne M x) = true := by
  unfold mendOne
  cases hw : x.write
  · simp only [Bool.false_eq_true, if_false]
    simp only [okAcc, inB, Bool.and_eq_true, decide_eq_true_eq, hw] at hx ⊢
    refine ⟨⟨hx.1.1, by simp⟩, by omega, ?_⟩
    have h2 := hx.2
    rw [← two_cast] at h2
    have hS : x.seen.toNat ||| (mineK M x.session M.length ||| seenK M x.session M.length) < 2 ^ wrN M M.length :=
      Nat.or_lt_two_pow (by omega) (Nat.or_lt_two_pow (mineK_lt M _ _ (Nat.le_refl _)) (seenK_lt hM _ _ (Nat.le_refl _)))
    have hd : dueN M x < 2 ^ wrN M M.length := cauK_lt _ _ _ _ hS (fun j => cauN_lt M M.length (Nat.le_refl _) j) _
    rw [← two_cast]
    omega
  · simpa using hx
theorem mendTo_valid {cs : List AccessD} (hv : accB cs = true) : ∀ k, k ≤ cs.length → accB (mendTo cs k) = true
  | 0, _ => by rw [mendTo_zero]; exact hv
  | k + 1, hk => by
    have ih := mendTo_valid hv k (by omega)
    have hM : accB (mendK cs k) = true := by rw [← mendTo_take]; exact accB_take ih k
    refine accB_of (by rw [mendTo_len hk]; exact accB_len hv) (fun i c hc => ?_)
    have hi : i < cs.length := by
      have := (List.getElem?_eq_some_iff.1 hc).1
      rw [mendTo_len hk] at this; exact this
    rw [mendTo_wr cs (k + 1) i hk (by omega)]
    by_cases h : i < k
    · have h1 := accB_at ih (mendTo_lo cs h)
      rw [mendTo_wr cs k i (by omega) (by omega)] at h1
      rw [mendTo_lo cs (by omega)] at hc
      simp only [Option.some.injEq] at hc
      rw [← hc]; exact h1
    · by_cases h2 : i = k
      · subst h2
        have hc0 : cs[i]? = some (cs[i]'hi) := List.getElem?_eq_getElem _
        have h1 := accB_at hv hc0
        rw [mendTo_lo cs (by omega), aAt_eq hc0] at hc
        simp only [Option.some.injEq] at hc
        rw [← hc]
        have e : wrN (mendK cs i) (mendK cs i).length = wrN cs i := by rw [mendK_len]; exact mendK_wr cs i i (by omega) (Nat.le_refl _)
        have h3 := mendOne_ok hM (x := cs[i]) (by rw [e]; exact h1)
        rw [e] at h3
        exact h3
      · rw [mendTo_hi cs (by omega)] at hc
        exact accB_at hv hc
theorem mendK_valid {cs : List AccessD} (hv : accB cs = true) (k : Nat) (hk : k ≤ cs.length) : accB (mendK cs k) = true := by
  rw [← mendTo_take]; exact accB_take (mendTo_valid hv k hk) k
def mendB (cs : List AccessD) : List AccessD := if accB cs then mendK cs cs.length else []
theorem mendB_len (cs : List AccessD) : (mendB cs).length ≤ 1048576 := by
  unfold mendB
  split
  · rename_i h; have := accB_len h; rw [mendK_len]; omega
  · simp
end Go.Proofs.Ytooigcfdkmgjnaa
