/-
  What valid events are, as a Lean function on a list, and what its tests tell, round by round. No condition.
-/
import Derived.Test.YtmeehfiekhdbkaaIn
namespace Go.Proofs.Ytmeehfiekhdbkaa
open Go.RowKit

def ev0 : EventD := ⟨0, 0, 0⟩
def evAt (cs : List EventD) (i : Nat) : EventD := cs.getD i ev0
theorem evAt_eq {cs : List EventD} {i : Nat} {c : EventD} (hi : cs[i]? = some c) : evAt cs i = c := by simp [evAt, hi]
def evIs (kind msg : Int) (o : EventD) : Bool := o.kind == kind && o.msg == msg
/-- The first place, -1 if there is none. -/
def evPlace (cs : List EventD) (n : Nat) (kind msg : Int) : Int := match (List.range n).find? (fun k => evIs kind msg (evAt cs k)) with | some k => (k : Int) | none => -1
theorem evPlace_none {cs : List EventD} {n : Nat} {kind msg : Int} (h : ∀ k, k < n → evIs kind msg (evAt cs k) = false) : evPlace cs n kind msg = -1 := by
  have : (List.range n).find? (fun k => evIs kind msg (evAt cs k)) = none := by
    rw [List.find?_eq_none]
    intro k hk
    simp [h k (List.mem_range.1 hk)]
  rw [evPlace, this]
theorem evPlace_some {cs : List EventD} {n k : Nat} {kind msg : Int} (hk : k < n) (h1 : evIs kind msg (evAt cs k) = true) (h : ∀ j, j < k → evIs kind msg (evAt cs j) = false) : evPlace cs n kind msg = k := by
  have : (List.range n).find? (fun k => evIs kind msg (evAt cs k)) = some k := by
    rw [List.find?_eq_some_iff_getElem]
    refine ⟨by simp [h1], k, by simp [hk], by simp, fun j hj => ?_⟩
    simp [h j hj]
  rw [evPlace, this]
theorem evPlace_cases (cs : List EventD) (kind msg : Int) : ∀ n : Nat, (evPlace cs n kind msg = -1 ∧ ∀ k, k < n → evIs kind msg (evAt cs k) = false) ∨ ∃ k, k < n ∧ evPlace cs n kind msg = k ∧ evIs kind msg (evAt cs k) = true ∧ ∀ j, j < k → evIs kind msg (evAt cs j) = false := by
  intro n
  have key : ∀ m, m ≤ n → (∀ k, k < m → evIs kind msg (evAt cs k) = false) ∨ ∃ k, k < m ∧ evIs kind msg (evAt cs k) = true ∧ ∀ j, j < k → evIs kind msg (evAt cs j) = false := by
    intro m
    induction m with
    | zero => exact fun _ => .inl (fun k hk => by omega)
    | succ m ih =>
      intro hm
      rcases ih (by omega) with h | ⟨k, hk, h1, h2⟩
      · cases hq : evIs kind msg (evAt cs m)
        · refine .inl fun k hk => ?_
          by_cases hkm : k = m
          · subst hkm; exact hq
          · exact h k (by omega)
        · exact .inr ⟨m, by omega, hq, h⟩
      · exact .inr ⟨k, by omega, h1, h2⟩
  rcases key n (Nat.le_refl _) with h | ⟨k, hk, h1, h2⟩
  · exact .inl ⟨evPlace_none h, h⟩
  · exact .inr ⟨k, hk, evPlace_some hk h1 h2, h1, h2⟩

/-- One event by itself. -/
def evOk (x : EventD) : Bool := inB x.proc 0 2 && inB x.kind 0 2 && inB x.msg 0 6 && !(x.kind == 0 && x.msg != 0)
/-- o, ahead of x, bars x. -/
def evBar (x o : EventD) : Bool := o.kind != 0 && x.kind != 0 && o.msg == x.msg && (o.kind == x.kind || x.kind == 1)
/-- o, ahead of x, is x's sending. -/
def evSent (x o : EventD) : Bool := o.kind != 0 && x.kind != 0 && o.msg == x.msg && (o.kind == 1 && o.proc != x.proc)
def evRow (cs : List EventD) (i : Nat) : Bool := evOk (evAt cs i) && (List.range i).all (fun k => !evBar (evAt cs i) (evAt cs k)) && !((evAt cs i).kind == 2 && !(List.range i).any (fun k => evSent (evAt cs i) (evAt cs k)))
def evB (cs : List EventD) : Bool := decide (cs.length ≤ 7) && (List.range cs.length).all (evRow cs)
theorem evB_row {cs : List EventD} {i : Nat} (hi : i < cs.length) (hr : evRow cs i = false) : evB cs = false := by
  simp only [evB, Bool.and_eq_false_iff]
  exact .inr (all_range_false hi hr)
theorem evB_long {cs : List EventD} (hl : 7 < cs.length) : evB cs = false := by
  simp only [evB, Bool.and_eq_false_iff]
  exact .inl (by simpa using hl)
theorem evB_true {cs : List EventD} (hl : cs.length ≤ 7) (ha : (List.range cs.length).all (evRow cs) = true) : evB cs = true := by
  simp only [evB, ha, decide_eq_true hl]; rfl
theorem evB_len {cs : List EventD} (hh : evB cs = true) : cs.length ≤ 7 := by
  simp only [evB, Bool.and_eq_true, decide_eq_true_eq] at hh
  exact hh.1
theorem evB_at {cs : List EventD} (hh : evB cs = true) {i : Nat} {c : EventD} (hi : cs[i]? = some c) : evOk c = true := by
  simp only [evB, Bool.and_eq_true] at hh
  have h1 := List.all_eq_true.1 hh.2 i (List.mem_range.2 (List.getElem?_eq_some_iff.1 hi).1)
  simp only [evRow, evAt_eq hi, Bool.and_eq_true] at h1
  exact h1.1.1
theorem any_range_succ (p : Nat → Bool) (k : Nat) : (List.range (k + 1)).any p = ((List.range k).any p || p k) := by
  rw [List.range_succ, List.any_append]; simp

theorem evRow_fails_ok {cs : List EventD} {i : Nat} (h : evOk (evAt cs i) = false) : evRow cs i = false := by simp [evRow, h]
theorem evRow_fails_bar {cs : List EventD} {i k : Nat} (hk : k < i) (h : evBar (evAt cs i) (evAt cs k) = true) : evRow cs i = false := by
  simp only [evRow, Bool.and_eq_false_iff]
  exact .inl (.inr (all_range_false hk (by simp [h])))

/-- A valid row of a taking has a sending of its message ahead. -/
theorem evRow_take {cs : List EventD} {k : Nat} (h : evRow cs k = true) (hk2 : (evAt cs k).kind = 2) : ∃ j, j < k ∧ (evAt cs j).kind = 1 ∧ (evAt cs j).msg = (evAt cs k).msg ∧ (evAt cs j).proc ≠ (evAt cs k).proc := by
  simp only [evRow, Bool.and_eq_true, hk2, beq_self_eq_true, Bool.true_and, Bool.not_not, List.any_eq_true, List.mem_range] at h
  obtain ⟨_, j, hj, h1⟩ := h
  simp only [evSent, Bool.and_eq_true, beq_iff_eq, bne_iff_ne] at h1
  exact ⟨j, hj, h1.2.1, h1.1.2, h1.2.2⟩
/-- Two sendings of one message do not both stand ahead. -/
theorem evRow_send_one {cs : List EventD} {i j : Nat} (hi : evRow cs i = true) (hj : j < i) (h1 : (evAt cs i).kind = 1) (h2 : (evAt cs j).kind = 1) (h3 : (evAt cs j).msg = (evAt cs i).msg) : False := by
  simp only [evRow, Bool.and_eq_true] at hi
  have h4 := List.all_eq_true.1 hi.1.2 j (List.mem_range.2 hj)
  simp [evBar, h1, h2, h3] at h4

/-! The program's test of one event, the ones ahead of it being valid, says the same. -/
theorem evRow_own {cs : List EventD} {i : Nat} (hk : (evAt cs i).kind = 0) (hp : inB (evAt cs i).proc 0 2 = true) : evRow cs i = ((evAt cs i).msg == 0) := by
  have h1 : (List.range i).all (fun k => !evBar (evAt cs i) (evAt cs k)) = true := by
    rw [List.all_eq_true]; intro k _; simp [evBar, hk]
  simp only [evRow, h1, hk, evOk, hp]
  cases hm : (evAt cs i).msg == 0
  · have : (evAt cs i).msg ≠ 0 := by simpa using hm
    simp [this]
  · have : (evAt cs i).msg = 0 := by simpa using hm
    simp [this, inB]
theorem evRow_dup {cs : List EventD} {i k : Nat} (hk : k < i) (h0 : (evAt cs i).kind ≠ 0) (h1 : evIs (evAt cs i).kind (evAt cs i).msg (evAt cs k) = true) : evRow cs i = false := by
  refine evRow_fails_bar hk ?_
  simp only [evIs, Bool.and_eq_true, beq_iff_eq] at h1
  simp [evBar, h1.1, h1.2, h0]
theorem evRow_send {cs : List EventD} {i : Nat} (hg : (List.range i).all (evRow cs) = true) (hok : evOk (evAt cs i) = true) (h1 : (evAt cs i).kind = 1) (hn : ∀ k, k < i → evIs 1 (evAt cs i).msg (evAt cs k) = false) : evRow cs i = true := by
  have hall : (List.range i).all (fun k => !evBar (evAt cs i) (evAt cs k)) = true := by
    rw [List.all_eq_true]
    intro k hk
    have hk := List.mem_range.1 hk
    cases hb : evBar (evAt cs i) (evAt cs k)
    · rfl
    exfalso
    simp only [evBar, Bool.and_eq_true, bne_iff_ne, beq_iff_eq] at hb
    obtain ⟨⟨⟨q0, _⟩, q1⟩, _⟩ := hb
    have hrk := List.all_eq_true.1 hg k (List.mem_range.2 hk)
    have hkr : inB (evAt cs k).kind 0 2 = true := by
      have := hrk
      simp only [evRow, evOk, Bool.and_eq_true] at this
      exact this.1.1.1.1.2
    simp only [inB, decide_eq_true_eq] at hkr
    by_cases hk1 : (evAt cs k).kind = 1
    · have := hn k hk
      simp [evIs, hk1, q1] at this
    · have hk2 : (evAt cs k).kind = 2 := by omega
      obtain ⟨j, hj, r1, r2, _⟩ := evRow_take hrk hk2
      have := hn j (by omega)
      simp [evIs, r1, r2, q1] at this
  simp [evRow, hok, hall, h1]
theorem evRow_take_none {cs : List EventD} {i : Nat} (h2 : (evAt cs i).kind = 2) (hn : ∀ k, k < i → evIs 1 (evAt cs i).msg (evAt cs k) = false) : evRow cs i = false := by
  have : (List.range i).any (fun k => evSent (evAt cs i) (evAt cs k)) = false := by
    rw [List.any_eq_false]
    intro k hk
    have := hn k (List.mem_range.1 hk)
    simp only [evIs, Bool.and_eq_false_iff] at this
    simp only [evSent, Bool.and_eq_true, Bool.not_eq_true, beq_iff_eq, bne_iff_ne]
    intro ⟨⟨_, q1⟩, q2, _⟩
    rcases this with h | h
    · simp [q2] at h
    · simp [q1] at h
  simp [evRow, this, h2]
theorem evRow_take_some {cs : List EventD} {i k : Nat} (hg : (List.range i).all (evRow cs) = true) (hok : evOk (evAt cs i) = true) (h2 : (evAt cs i).kind = 2) (hn : ∀ k, k < i → evIs 2 (evAt cs i).msg (evAt cs k) = false) (hk : k < i) (h1 : evIs 1 (evAt cs i).msg (evAt cs k) = true) (hf : ∀ j, j < k → evIs 1 (evAt cs i).msg (evAt cs j) = false) : evRow cs i = !((evAt cs k).proc == (evAt cs i).proc) := by
  simp only [evIs, Bool.and_eq_true, beq_iff_eq] at h1
  have hall : (List.range i).all (fun k => !evBar (evAt cs i) (evAt cs k)) = true := by
    rw [List.all_eq_true]
    intro j hj
    have hj := List.mem_range.1 hj
    have := hn j hj
    simp only [evIs, Bool.and_eq_false_iff] at this
    simp only [evBar, h2, Bool.not_eq_true', Bool.and_eq_false_iff]
    rcases this with h | h
    · right; simp; simpa using h
    · left; right; simpa using h
  cases hp : (evAt cs k).proc == (evAt cs i).proc
  · have : (List.range i).any (fun k => evSent (evAt cs i) (evAt cs k)) = true := by
      rw [List.any_eq_true]
      refine ⟨k, List.mem_range.2 hk, ?_⟩
      have : (evAt cs k).proc ≠ (evAt cs i).proc := by simpa using hp
      simp [evSent, h1.1, h1.2, h2, this]
    simp [evRow, hok, hall, this]
  · have : (List.range i).any (fun k => evSent (evAt cs i) (evAt cs k)) = false := by
      rw [List.any_eq_false]
      intro j hj
      have hj := List.mem_range.1 hj
      simp only [evSent, Bool.and_eq_true, Bool.not_eq_true, beq_iff_eq, bne_iff_ne]
      intro ⟨⟨_, q1⟩, q2, q3⟩
      have hp' : (evAt cs k).proc = (evAt cs i).proc := by simpa using hp
      by_cases hjk : j = k
      · subst hjk; exact q3 hp'
      · by_cases hlt : j < k
        · have := hf j hlt
          simp [evIs, q1, q2] at this
        · have hrj := List.all_eq_true.1 hg j (List.mem_range.2 hj)
          exact evRow_send_one hrj (show k < j by omega) q2 h1.1 (by rw [h1.2, q1])
    simp [evRow, this, h2]
end Go.Proofs.Ytmeehfiekhdbkaa
