/-
  Parts of a history are histories; calls one by one are a width of at most one. No condition.
-/
import Derived.Test.YtooojfdjpmfalaaWidthP
import Derived.Test.YtooojfdjpmfalaaOneB
import Derived.Test.YtooojfdjpmfalaaPart
namespace Go.Proofs.Ytooojfdjpmfalaa
open Go.RowKit

theorem pairwise_of {h : List CallD} (hp : ∀ (i k : Nat) (c o : CallD), h[i]? = some c → h[k]? = some o → k < i → pairB o c = true) : h.Pairwise fun o c => pairB o c = true := by
  rw [List.pairwise_iff_getElem]
  intro i j hi hj hij
  exact hp j i _ _ (List.getElem?_eq_getElem hj) (List.getElem?_eq_getElem hi) hij
theorem histB_iff {h : List CallD} : histB h = true ↔ (h.length ≤ 6 ∧ (∀ c ∈ h, callB c = true) ∧ h.Pairwise fun o c => pairB o c = true) := by
  constructor
  · intro hh
    refine ⟨histB_len hh, fun c hc => ?_, pairwise_of fun i k c o hi hk hlt => histB_pair hh hi hk hlt⟩
    obtain ⟨i, hi⟩ := List.getElem?_of_mem hc
    exact histB_call hh hi
  · rintro ⟨h1, h2, h3⟩
    refine histB_of h1 (fun i c hi => h2 c (List.mem_of_getElem? hi)) (fun i k c o hi hk hlt => ?_)
    rw [List.pairwise_iff_getElem] at h3
    obtain ⟨hi', rfl⟩ := List.getElem?_eq_some_iff.1 hi
    obtain ⟨hk', rfl⟩ := List.getElem?_eq_some_iff.1 hk
    exact h3 k i hk' hi' hlt
theorem histB_sub {h h' : List CallD} (hs : h'.Sublist h) (hh : histB h = true) : histB h' = true := by
  rw [histB_iff] at *
  exact ⟨Nat.le_trans hs.length_le hh.1, fun c hc => hh.2.1 c (hs.subset hc), hh.2.2.sublist hs⟩
theorem part_len {h : List CallD} (hh : ∀ c ∈ h, c.obj = 0 ∨ c.obj = 1) : (h.filter (objB 0)).length + (h.filter (objB 1)).length = h.length := by
  induction h with
  | nil => rfl
  | cons c h ih =>
    have h1 := ih (fun c hc => hh c (by simp [hc]))
    rcases hh c (by simp) with e | e
    · simp [objB, e] at h1 ⊢; omega
    · simp [objB, e] at h1 ⊢; omega
theorem hist_obj {h : List CallD} (hh : histB h = true) : ∀ c ∈ h, c.obj = 0 ∨ c.obj = 1 := by
  intro c hc
  have h1 := (histB_iff.1 hh).2.1 c hc
  simp only [callB, inB, Bool.and_eq_true, decide_eq_true_eq] at h1
  omega
theorem filter_twice (h : List CallD) (x : Int) : (h.filter (objB x)).filter (objB x) = h.filter (objB x) := by simp

/-! ### one by one is a width of at most one -/
theorem oneB_pair {h : List CallD} (ho : oneB h = true) {i k : Nat} (hi : i < h.length) (hk : k < i) : lapB (hAt h i) (hAt h k) = false := by
  simp only [oneB, List.all_eq_true, List.mem_range] at ho
  have h1 := ho i hi
  simp only [rowO, List.all_eq_true, List.mem_range] at h1
  simpa using h1 k hk
theorem countP_two {α : Type} {p : α → Bool} {l : List α} {i k : Nat} {a b : α} (hi : l[i]? = some a) (hk : l[k]? = some b) (hlt : k < i) (ha : p a = true) (hb : p b = true) : 2 ≤ l.countP p := by
  induction l generalizing i k with
  | nil => simp at hi
  | cons x l ih =>
    cases i with
    | zero => omega
    | succ i =>
      simp only [List.getElem?_cons_succ] at hi
      cases k with
      | zero =>
        simp only [List.getElem?_cons_zero, Option.some.injEq] at hk
        subst hk
        have : 0 < l.countP p := List.countP_pos_iff.2 ⟨a, List.mem_of_getElem? hi, ha⟩
        rw [List.countP_cons, if_pos hb]; omega
      | succ k =>
        simp only [List.getElem?_cons_succ] at hk
        have := ih hi hk (by omega)
        rw [List.countP_cons]; omega
theorem two_of_countP {α : Type} {p : α → Bool} {l : List α} (h : 2 ≤ l.countP p) : ∃ (i k : Nat) (a b : α), l[i]? = some a ∧ l[k]? = some b ∧ k < i ∧ p a = true ∧ p b = true := by
  induction l with
  | nil => simp at h
  | cons x l ih =>
    by_cases hx : p x = true
    · rw [List.countP_cons, if_pos hx] at h
      have : 0 < l.countP p := by omega
      obtain ⟨a, ha, hpa⟩ := List.countP_pos_iff.1 this
      obtain ⟨i, hi⟩ := List.getElem?_of_mem ha
      exact ⟨i + 1, 0, a, x, by simpa using hi, by simp, by omega, hpa, hx⟩
    · rw [List.countP_cons, if_neg hx] at h
      obtain ⟨i, k, a, b, h1, h2, h3, h4, h5⟩ := ih (by omega)
      exact ⟨i + 1, k + 1, a, b, by simpa using h1, by simpa using h2, by omega, h4, h5⟩
theorem widthAt_le_of {h : List CallD} {m : Nat} : ∀ k, (∀ i, i < k → openN h (hAt h i).fr ≤ m) → widthAt h k ≤ m
  | 0, _ => by simp [widthAt]
  | k + 1, hk => by
    have ih := widthAt_le_of k (fun i hi => hk i (by omega))
    have := hk k (by omega)
    rw [widthAt]; omega
theorem one_width {h : List CallD} (hh : histB h = true) : oneB h = decide (widthI h ≤ 1) := by
  rw [Bool.eq_iff_iff, decide_eq_true_eq, widthI, if_pos hh]
  constructor
  · intro ho
    have : widthAt h h.length ≤ 1 := widthAt_le_of _ fun j hj => by
      by_cases h2 : 2 ≤ openN h (hAt h j).fr
      · exfalso
        obtain ⟨i, k, a, b, ha, hb, hlt, pa, pb⟩ := two_of_countP h2
        have h1 := oneB_pair ho (List.getElem?_eq_some_iff.1 ha).1 hlt
        rw [hAt_eq ha, hAt_eq hb] at h1
        simp only [openB, Bool.and_eq_true, decide_eq_true_eq] at pa pb
        have e1 : befB a b = false := by simp [befB]; omega
        have e2 : befB b a = false := by simp [befB]; omega
        simp [lapB, e1, e2] at h1
      · omega
    omega
  · intro hw
    rw [oneB, List.all_eq_true]
    intro i hi
    rw [List.mem_range] at hi
    rw [rowO, List.all_eq_true]
    intro k hk
    rw [List.mem_range] at hk
    cases hl : lapB (hAt h i) (hAt h k)
    · rfl
    · exfalso
      have hc : h[i]? = some (h[i]'hi) := List.getElem?_eq_getElem _
      have ho : h[k]? = some (h[k]'(by omega)) := List.getElem?_eq_getElem _
      have hp := histB_pair hh hc ho hk
      have c1 := histB_call hh hc
      have c2 := histB_call hh ho
      rw [hAt_eq hc, hAt_eq ho] at hl
      have hge : ∀ j, j < h.length → openN h (hAt h j).fr ≤ 1 := fun j hj => by
        have := widthAt_ge (h := h) (i := j) hj
        omega
      have g1 := hge i hi
      have g2 := hge k (by omega)
      rw [hAt_eq hc] at g1
      rw [hAt_eq ho] at g2
      generalize h[i] = c at *
      generalize h[k] = o at *
      simp only [pairB, Bool.and_eq_true, Bool.not_eq_true', beq_eq_false_iff_ne] at hp
      simp only [callB, inB, Bool.and_eq_true, decide_eq_true_eq] at c1 c2
      simp only [lapB, befB, Bool.and_eq_true, Bool.not_eq_true', decide_eq_false_iff_not] at hl
      by_cases hle : o.fr ≤ c.fr
      · have := countP_two (p := openB c.fr) hc ho hk (by simp [openB]; omega) (by simp [openB]; omega)
        unfold openN at g1; omega
      · have := countP_two (p := openB o.fr) hc ho hk (by simp [openB]; omega) (by simp [openB]; omega)
        unfold openN at g2; omega
end Go.Proofs.Ytooojfdjpmfalaa
