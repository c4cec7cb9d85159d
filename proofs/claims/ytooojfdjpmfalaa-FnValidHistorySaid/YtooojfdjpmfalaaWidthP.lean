/-
  How many calls are open at a time, and the greatest such number: by times and by beginnings the same, for a history. No program here; the condition is that the calls are a history.
-/
import Derived.Test.YtooojfdjpmfalaaHistP
namespace Go.Proofs.Ytooojfdjpmfalaa

def openB (t : Int) (c : CallD) : Bool := decide (c.fr ≤ t) && decide (t < c.till)
def openTo (h : List CallD) (t : Int) (k : Nat) : Nat := (h.take k).countP (openB t)
def openN (h : List CallD) (t : Int) : Nat := h.countP (openB t)
theorem openTo_all {h : List CallD} {t : Int} {n : Nat} (hn : h.length ≤ n) : openTo h t n = openN h t := by
  rw [openTo, List.take_of_length_le hn]; rfl
theorem openTo_succ {h : List CallD} {t : Int} {k : Nat} {c : CallD} (hc : h[k]? = some c) : openTo h t (k + 1) = openTo h t k + if openB t c then 1 else 0 := by
  rw [openTo, List.take_add_one, hc, List.countP_append]
  cases hb : openB t c <;> simp [openTo, hb]
theorem openTo_le {h : List CallD} {t : Int} {k : Nat} : openTo h t k ≤ k := by
  have := List.countP_le_length (p := openB t) (l := h.take k)
  rw [List.length_take] at this
  unfold openTo
  omega
/-- The greatest number by times below k. -/
def widthTo (h : List CallD) : Nat → Nat
  | 0 => 0
  | k + 1 => max (widthTo h k) (openN h k)
/-- The greatest number at the beginnings of the first k calls. -/
def widthAt (h : List CallD) : Nat → Nat
  | 0 => 0
  | k + 1 => max (widthAt h k) (openN h (hAt h k).fr)
theorem openN_le {h : List CallD} {t : Int} : openN h t ≤ h.length := List.countP_le_length
theorem widthTo_le {h : List CallD} : ∀ k, widthTo h k ≤ h.length
  | 0 => Nat.zero_le _
  | k + 1 => by have := widthTo_le (h := h) k; have := openN_le (h := h) (t := k); simp only [widthTo]; omega
theorem widthAt_le {h : List CallD} : ∀ k, widthAt h k ≤ h.length
  | 0 => Nat.zero_le _
  | k + 1 => by have := widthAt_le (h := h) k; have := openN_le (h := h) (t := (hAt h k).fr); simp only [widthAt]; omega
theorem widthTo_ge {h : List CallD} {t : Nat} : ∀ {k : Nat}, t < k → openN h t ≤ widthTo h k
  | 0, ht => absurd ht (by omega)
  | k + 1, ht => by
    simp only [widthTo]
    by_cases e : t = k
    · subst e; exact Nat.le_max_right ..
    · exact Nat.le_trans (widthTo_ge (by omega)) (Nat.le_max_left ..)
theorem widthAt_ge {h : List CallD} {i : Nat} : ∀ {k : Nat}, i < k → openN h (hAt h i).fr ≤ widthAt h k
  | 0, ht => absurd ht (by omega)
  | k + 1, ht => by
    simp only [widthAt]
    by_cases e : i = k
    · subst e; exact Nat.le_max_right ..
    · exact Nat.le_trans (widthAt_ge (by omega)) (Nat.le_max_left ..)
/-- Of the calls that are open at a time, one that begins last. -/
theorem last_open {t : Int} : ∀ (h : List CallD), 0 < h.countP (openB t) → ∃ c ∈ h, openB t c = true ∧ ∀ d ∈ h, openB t d = true → d.fr ≤ c.fr
  | [], h => by simp at h
  | x :: xs, h => by
    by_cases hp : 0 < xs.countP (openB t)
    · obtain ⟨c, hc, ho, hm⟩ := last_open xs hp
      by_cases hx : openB t x = true ∧ c.fr < x.fr
      · refine ⟨x, by simp, hx.1, fun d hd hod => ?_⟩
        rcases List.mem_cons.1 hd with rfl | hd
        · omega
        · have := hm d hd hod; omega
      · refine ⟨c, by simp [hc], ho, fun d hd hod => ?_⟩
        rcases List.mem_cons.1 hd with rfl | hd
        · have : ¬ c.fr < d.fr := fun hlt => hx ⟨hod, hlt⟩
          omega
        · exact hm d hd hod
    · have h0 : xs.countP (openB t) = 0 := by omega
      have hx : openB t x = true := by
        rw [List.countP_cons, h0] at h
        split at h
        · assumption
        · omega
      refine ⟨x, by simp, hx, fun d hd hod => ?_⟩
      rcases List.mem_cons.1 hd with rfl | hd
      · omega
      · have := List.countP_eq_zero.1 h0 d hd
        exact absurd hod this
theorem openN_at {h : List CallD} {t : Int} (hp : 0 < openN h t) : ∃ c ∈ h, openN h t ≤ openN h c.fr := by
  obtain ⟨c, hc, ho, hm⟩ := last_open h hp
  refine ⟨c, hc, ?_⟩
  unfold openN
  refine List.countP_mono_left fun d hd hod => ?_
  have h1 := hm d hd hod
  simp only [openB, Bool.and_eq_true, decide_eq_true_eq] at ho hod ⊢
  omega
theorem width_eq {h : List CallD} (hh : histB h = true) : widthTo h 31 = widthAt h h.length := by
  apply Nat.le_antisymm
  · have key : ∀ k, widthTo h k ≤ widthAt h h.length := by
      intro k
      induction k with
      | zero => exact Nat.zero_le _
      | succ k ih =>
        simp only [widthTo]
        refine Nat.max_le.2 ⟨ih, ?_⟩
        rcases Nat.eq_zero_or_pos (openN h k) with h0 | hp
        · omega
        · obtain ⟨c, hc, hle⟩ := openN_at hp
          obtain ⟨i, hi⟩ := List.getElem?_of_mem hc
          have hil := (List.getElem?_eq_some_iff.1 hi).1
          have := widthAt_ge (h := h) hil
          rw [hAt_eq hi] at this
          omega
    exact key 31
  · have key : ∀ k, k ≤ h.length → widthAt h k ≤ widthTo h 31 := by
      intro k
      induction k with
      | zero => intro _; exact Nat.zero_le _
      | succ k ih =>
        intro hk
        simp only [widthAt]
        refine Nat.max_le.2 ⟨ih (by omega), ?_⟩
        have hi : h[k]? = some (h[k]'(by omega)) := List.getElem?_eq_getElem (by omega)
        have hc := histB_call hh hi
        rw [hAt_eq hi]
        simp only [callB, inB, Bool.and_eq_true, decide_eq_true_eq] at hc
        obtain ⟨n, hn⟩ := Int.eq_ofNat_of_zero_le (show 0 ≤ (h[k]'(by omega)).fr by omega)
        rw [hn]
        exact widthTo_ge (by omega)
    exact key _ (Nat.le_refl _)
/-- What both answer. -/
def widthI (h : List CallD) : Int := if histB h then (widthAt h h.length : Int) else -1
end Go.Proofs.Ytooojfdjpmfalaa
