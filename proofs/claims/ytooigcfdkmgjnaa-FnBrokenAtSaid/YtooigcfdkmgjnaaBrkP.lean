/-
  Which access is the first one that breaks a promise, as Lean functions on a list; four promises are causes. No condition.
-/
import Derived.Test.YtooigcfdkmgjnaaMndQ
namespace Go.Proofs.Ytooigcfdkmgjnaa
open Go.RowKit

/-- What was made, and what was had, by its session ahead of each write. -/
def rowN (cs : List AccessD) : Nat → List Nat
  | 0 => []
  | i + 1 => if (aAt cs i).write then rowN cs i ++ [mineK cs (aAt cs i).session i] else rowN cs i
def folN (cs : List AccessD) : Nat → List Nat
  | 0 => []
  | i + 1 => if (aAt cs i).write then folN cs i ++ [seenK cs (aAt cs i).session i] else folN cs i
theorem rowN_len (cs : List AccessD) : ∀ i, i ≤ cs.length → (rowN cs i).length = wrN cs i
  | 0, _ => by simp [rowN, wrN]
  | i + 1, h => by
    have ih := rowN_len cs i (by omega)
    have hc : cs[i]? = some (cs[i]'(by omega)) := List.getElem?_eq_getElem _
    have hs := wrN_succ hc
    rw [rowN, aAt_eq hc]
    generalize cs[i] = c at *
    cases hw : c.write <;> simp [hw] at hs ⊢ <;> omega
theorem folN_len (cs : List AccessD) : ∀ i, i ≤ cs.length → (folN cs i).length = wrN cs i
  | 0, _ => by simp [folN, wrN]
  | i + 1, h => by
    have ih := folN_len cs i (by omega)
    have hc : cs[i]? = some (cs[i]'(by omega)) := List.getElem?_eq_getElem _
    have hs := wrN_succ hc
    rw [folN, aAt_eq hc]
    generalize cs[i] = c at *
    cases hw : c.write <;> simp [hw] at hs ⊢ <;> omega

theorem acc_session {cs : List AccessD} (hv : accB cs = true) {i : Nat} {c : AccessD} (hc : cs[i]? = some c) : ∃ s : Nat, c.session = s ∧ s < 3 := by
  have hok := accB_at hv hc
  simp only [okAcc, inB, Bool.and_eq_true, decide_eq_true_eq] at hok
  exact ⟨c.session.toNat, by omega, by omega⟩

/-! ### the promises -/
inductive Pr where
  | own | steady | row | follow
/-- Of the writes that a read has, one without what was ahead of it. -/
def lacks (L : List Nat) (seen : Nat) : Bool := (List.range L.length).any fun n => bitN seen n == 1 && !subN (L.getD n 0) seen
def brk (p : Pr) (cs : List AccessD) (i : Nat) : Bool :=
  match p with
  | .own => !subN (mineK cs (aAt cs i).session i) (seenN cs i)
  | .steady => !subN (seenK cs (aAt cs i).session i) (seenN cs i)
  | .row => lacks (rowN cs i) (seenN cs i)
  | .follow => lacks (folN cs i) (seenN cs i)
def brkB (p : Pr) (cs : List AccessD) (i : Nat) : Bool := !(aAt cs i).write && brk p cs i
def firstB (p : Pr) (cs : List AccessD) : Option Nat := (List.range cs.length).find? (brkB p cs)
def brokeV (p : Option Pr) (cs : List AccessD) : Int × Bool :=
  match p with
  | none => (-1, false)
  | some p => if accB cs then (match firstB p cs with | some i => ((i : Int), true) | none => (-1, true)) else (-1, false)
theorem find_range {p : Nat → Bool} {n k : Nat} (hk : k < n) (ha : (List.range k).all (fun j => !p j) = true) (hp : p k = true) : (List.range n).find? p = some k := by
  rw [List.find?_range_eq_some]
  refine ⟨hp, List.mem_range.2 hk, fun j hj => ?_⟩
  exact List.all_eq_true.1 ha j (List.mem_range.2 hj)
theorem find_range_none {p : Nat → Bool} {n : Nat} (ha : (List.range n).all (fun j => !p j) = true) : (List.range n).find? p = none := by
  rw [List.find?_eq_none]
  intro j hj
  have := List.all_eq_true.1 ha j hj
  simpa using this
theorem brokeV_hit {p : Pr} {cs : List AccessD} (hv : accB cs = true) {i : Nat} (hi : i < cs.length) (ha : (List.range i).all (fun j => !brkB p cs j) = true) (hb : brkB p cs i = true) : brokeV (some p) cs = ((i : Int), true) := by
  simp only [brokeV, hv, if_true, firstB, find_range hi ha hb]
theorem brokeV_none {p : Pr} {cs : List AccessD} (hv : accB cs = true) (ha : (List.range cs.length).all (fun j => !brkB p cs j) = true) : brokeV (some p) cs = (-1, true) := by
  simp only [brokeV, hv, if_true, firstB, find_range_none ha]
theorem brokeV_bad {p : Option Pr} {cs : List AccessD} (hv : accB cs = false) : brokeV p cs = (-1, false) := by
  cases p <;> simp [brokeV, hv]

/-! ### as the reference asks it, access by access -/
def needP (follow : Bool) (cs : List AccessD) (k : Nat) : Nat := if follow then seenK cs (aAt cs k).session k else mineK cs (aAt cs k).session k
def listP (follow : Bool) (cs : List AccessD) (i : Nat) : List Nat := if follow then folN cs i else rowN cs i
def lackK (follow : Bool) (cs : List AccessD) (seen : Nat) (k : Nat) : Bool := (aAt cs k).write && (bitN seen (wrN cs k) == 1 && !subN (needP follow cs k) seen)
theorem listP_len (follow : Bool) (cs : List AccessD) {i : Nat} (hi : i ≤ cs.length) : (listP follow cs i).length = wrN cs i := by
  cases follow
  · exact rowN_len cs i hi
  · exact folN_len cs i hi
theorem listP_succ (follow : Bool) (cs : List AccessD) (i : Nat) : listP follow cs (i + 1) = if (aAt cs i).write then listP follow cs i ++ [needP follow cs i] else listP follow cs i := by
  cases follow <;> rfl
theorem lacks_snoc (L : List Nat) (x seen : Nat) : lacks (L ++ [x]) seen = (lacks L seen || (bitN seen L.length == 1 && !subN x seen)) := by
  have e : ∀ n, n < L.length → (L ++ [x]).getD n 0 = L.getD n 0 := fun n hn => by rw [List.getD, List.getElem?_append_left hn]; rfl
  have e2 : (L ++ [x]).getD L.length 0 = x := by rw [List.getD, List.getElem?_append_right (Nat.le_refl _)]; simp
  unfold lacks
  rw [List.length_append, List.length_singleton, List.range_succ, List.any_append, List.any_cons, List.any_nil, Bool.or_false, e2]
  congr 1
  rw [Bool.eq_iff_iff, List.any_eq_true, List.any_eq_true]
  constructor
  · rintro ⟨n, hn, h⟩; exact ⟨n, hn, by rw [e n (List.mem_range.1 hn)] at h; exact h⟩
  · rintro ⟨n, hn, h⟩; exact ⟨n, hn, by rw [e n (List.mem_range.1 hn)]; exact h⟩
theorem lacks_ref (follow : Bool) (cs : List AccessD) (seen : Nat) : ∀ i, i ≤ cs.length → lacks (listP follow cs i) seen = (List.range i).any (lackK follow cs seen)
  | 0, _ => by cases follow <;> rfl
  | i + 1, hi => by
    have ih := lacks_ref follow cs seen i (by omega)
    rw [listP_succ, List.range_succ, List.any_append, List.any_cons, List.any_nil, Bool.or_false, ← ih]
    unfold lackK
    cases hw : (aAt cs i).write
    · simp
    · rw [if_pos rfl, lacks_snoc, listP_len follow cs (by omega), Bool.true_and]
theorem brk_row (cs : List AccessD) {i : Nat} (hi : i ≤ cs.length) : brk .row cs i = (List.range i).any (lackK false cs (seenN cs i)) := lacks_ref false cs _ i hi
theorem brk_follow (cs : List AccessD) {i : Nat} (hi : i ≤ cs.length) : brk .follow cs i = (List.range i).any (lackK true cs (seenN cs i)) := lacks_ref true cs _ i hi
end Go.Proofs.Ytooigcfdkmgjnaa
