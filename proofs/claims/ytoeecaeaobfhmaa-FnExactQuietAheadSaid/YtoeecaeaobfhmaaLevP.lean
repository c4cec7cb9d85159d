/-
  The levels of calls: what the reference's rounds and the program's times compute is one and the same list. No condition.
-/
import Derived.Test.YtoeecaeaobfhmaaHistP
namespace Go.Proofs.Ytoeecaeaobfhmaa
open Go.RowKit

def pbef (cs : List CallD) (k i : Nat) : Bool := befB (hAt cs k) (hAt cs i)
def lvStep (cs : List CallD) (L : List Nat) (i k : Nat) : List Nat := if pbef cs k i then L.set i (max (L.getD i 0) (L.getD k 0 + 1)) else L
def lvK (cs : List CallD) (L : List Nat) (i : Nat) : Nat → List Nat
  | 0 => L
  | k + 1 => lvStep cs (lvK cs L i k) i k
def lvI (cs : List CallD) (L : List Nat) : Nat → List Nat
  | 0 => L
  | i + 1 => lvK cs (lvI cs L i) i cs.length
/-- The reference: r rounds. -/
def lvR (cs : List CallD) : Nat → List Nat
  | 0 => List.replicate cs.length 0
  | r + 1 => lvI cs (lvR cs r) cs.length
def tmI (cs : List CallD) (t : Nat) (L : List Nat) : Nat → List Nat
  | 0 => L
  | i + 1 => if (hAt cs i).fr == (t : Int) then lvK cs (tmI cs t L i) i cs.length else tmI cs t L i
/-- The program: t times. -/
def tmT (cs : List CallD) : Nat → List Nat
  | 0 => List.replicate cs.length 0
  | t + 1 => tmI cs t (tmT cs t) cs.length

theorem lvStep_len (cs : List CallD) (L : List Nat) (i k : Nat) : (lvStep cs L i k).length = L.length := by
  unfold lvStep; split <;> simp
theorem lvK_len (cs : List CallD) (L : List Nat) (i : Nat) : ∀ k, (lvK cs L i k).length = L.length
  | 0 => rfl
  | k + 1 => by rw [lvK, lvStep_len, lvK_len cs L i k]
theorem lvI_len (cs : List CallD) (L : List Nat) : ∀ k, (lvI cs L k).length = L.length
  | 0 => rfl
  | k + 1 => by rw [lvI, lvK_len, lvI_len cs L k]
theorem lvR_len (cs : List CallD) : ∀ k, (lvR cs k).length = cs.length
  | 0 => by simp [lvR]
  | k + 1 => by rw [lvR, lvI_len, lvR_len cs k]
theorem tmI_len (cs : List CallD) (t : Nat) (L : List Nat) : ∀ k, (tmI cs t L k).length = L.length
  | 0 => rfl
  | k + 1 => by rw [tmI]; split <;> simp [lvK_len, tmI_len cs t L k]
theorem tmT_len (cs : List CallD) : ∀ k, (tmT cs k).length = cs.length
  | 0 => by simp [tmT]
  | k + 1 => by rw [tmT, tmI_len, tmT_len cs k]

theorem lvK_other (cs : List CallD) (L : List Nat) (i : Nat) {j : Nat} (hj : j ≠ i) : ∀ k, (lvK cs L i k).getD j 0 = L.getD j 0
  | 0 => rfl
  | k + 1 => by
    rw [lvK, lvStep]
    split
    · rw [List.getD, List.getElem?_set_ne (by omega)]
      exact lvK_other cs L i hj k
    · exact lvK_other cs L i hj k
/-- What the inner loop leaves at its own place. -/
def topK (cs : List CallD) (L : List Nat) (i : Nat) : Nat → Nat
  | 0 => L.getD i 0
  | k + 1 => if pbef cs k i then max (topK cs L i k) (L.getD k 0 + 1) else topK cs L i k
theorem lvK_own (cs : List CallD) (L : List Nat) (i : Nat) (hi : i < L.length) (hne : pbef cs i i = false) : ∀ k, (lvK cs L i k).getD i 0 = topK cs L i k
  | 0 => rfl
  | k + 1 => by
    have ih := lvK_own cs L i hi hne k
    rw [lvK, lvStep, topK]
    by_cases h : pbef cs k i = true
    · have hk : k ≠ i := fun e => by subst e; rw [hne] at h; cases h
      rw [if_pos h, if_pos h, List.getD, List.getElem?_set_self (by rw [lvK_len]; exact hi), Option.getD_some, ih, lvK_other cs L i hk]
    · rw [if_neg h, if_neg h, ih]
theorem topK_ge_own (cs : List CallD) (L : List Nat) (i : Nat) : ∀ k, L.getD i 0 ≤ topK cs L i k
  | 0 => Nat.le_refl _
  | k + 1 => by
    have ih := topK_ge_own cs L i k
    rw [topK]; split <;> omega
theorem topK_ge (cs : List CallD) (L : List Nat) (i : Nat) {j : Nat} (hp : pbef cs j i = true) : ∀ {k}, j < k → L.getD j 0 + 1 ≤ topK cs L i k
  | 0, h => by omega
  | k + 1, h => by
    rw [topK]
    by_cases e : j = k
    · subst e; rw [if_pos hp]; omega
    · have := topK_ge cs L i hp (show j < k by omega)
      split <;> omega
theorem topK_le (cs : List CallD) (L : List Nat) (i m : Nat) (h0 : L.getD i 0 ≤ m) : ∀ k, (∀ j, j < k → pbef cs j i = true → L.getD j 0 + 1 ≤ m) → topK cs L i k ≤ m
  | 0, _ => h0
  | k + 1, h => by
    have ih := topK_le cs L i m h0 k (fun j hj => h j (by omega))
    rw [topK]
    split
    · rename_i hp
      have := h k (by omega) hp
      omega
    · exact ih

/-! ### the level of a call -/
def lev (cs : List CallD) : Nat → Nat → Nat
  | 0, _ => 0
  | f + 1, i => ((List.range cs.length).map fun k => if pbef cs k i then lev cs f k + 1 else 0).foldl max 0
theorem foldl_max_ge : ∀ (l : List Nat) (a : Nat), a ≤ l.foldl max a
  | [], a => Nat.le_refl a
  | x :: l, a => by
    rw [List.foldl_cons]
    exact Nat.le_trans (by omega) (foldl_max_ge l (max a x))
theorem foldl_max_mem : ∀ (l : List Nat) (a : Nat) {x : Nat}, x ∈ l → x ≤ l.foldl max a
  | y :: l, a, x, h => by
    rw [List.foldl_cons]
    rcases List.mem_cons.1 h with e | e
    · subst e; exact Nat.le_trans (by omega) (foldl_max_ge l (max a x))
    · exact foldl_max_mem l _ e
theorem foldl_max_le : ∀ (l : List Nat) (a m : Nat), a ≤ m → (∀ x ∈ l, x ≤ m) → l.foldl max a ≤ m
  | [], _, _, h, _ => h
  | y :: l, a, m, h, hl => by
    rw [List.foldl_cons]
    exact foldl_max_le l _ m (by have := hl y (by simp); omega) (fun x hx => hl x (by simp [hx]))
theorem lev_ge (cs : List CallD) (f i k : Nat) (hk : k < cs.length) (hp : pbef cs k i = true) : lev cs f k + 1 ≤ lev cs (f + 1) i := by
  rw [lev]
  refine foldl_max_mem _ _ (List.mem_map.2 ⟨k, List.mem_range.2 hk, by simp [hp]⟩)
theorem lev_le (cs : List CallD) (f i m : Nat) (h : ∀ k, k < cs.length → pbef cs k i = true → lev cs f k + 1 ≤ m) : lev cs (f + 1) i ≤ m := by
  rw [lev]
  refine foldl_max_le _ _ _ (by omega) (fun x hx => ?_)
  obtain ⟨k, hk, rfl⟩ := List.mem_map.1 hx
  by_cases hp : pbef cs k i = true
  · simp only [hp, if_true]; exact h k (List.mem_range.1 hk) hp
  · simp [hp]

theorem countP_lt {α : Type} {p q : α → Bool} : ∀ {l : List α}, (∀ x ∈ l, p x = true → q x = true) → (∃ x ∈ l, q x = true ∧ p x = false) → l.countP p < l.countP q
  | [], _, h => by obtain ⟨x, hx, _⟩ := h; simp at hx
  | y :: l, h1, h2 => by
    rw [List.countP_cons, List.countP_cons]
    have hm : l.countP p ≤ l.countP q := List.countP_mono_left (fun x hx hp => h1 x (by simp [hx]) hp)
    obtain ⟨x, hx, hq, hp⟩ := h2
    rcases List.mem_cons.1 hx with e | e
    · subst e; simp [hq, hp]; omega
    · have ih := countP_lt (fun x hx => h1 x (by simp [hx])) ⟨x, e, hq, hp⟩
      have := h1 y (by simp)
      by_cases hy : p y = true
      · simp [hy, this hy]; omega
      · simp [hy]; omega

section
variable {cs : List CallD} (hh : histB cs = true)
include hh
theorem call_at {i : Nat} (hi : i < cs.length) : 0 ≤ (hAt cs i).fr ∧ (hAt cs i).fr ≤ 30 ∧ (hAt cs i).fr < (hAt cs i).till := by
  have hc : cs[i]? = some (cs[i]'hi) := List.getElem?_eq_getElem _
  have h1 := histB_call hh hc
  rw [hAt_eq hc]
  simp only [callB, inB, Bool.and_eq_true, decide_eq_true_eq] at h1
  omega
theorem pbef_lt {k i : Nat} (hk : k < cs.length) (h : pbef cs k i = true) : (hAt cs k).fr < (hAt cs i).fr := by
  have := call_at hh hk
  simp only [pbef, befB, decide_eq_true_eq] at h
  omega
theorem pbef_self {i : Nat} (hi : i < cs.length) : pbef cs i i = false := by
  cases h : pbef cs i i
  · rfl
  · have := pbef_lt hh hi h; omega
theorem lev_fix : ∀ (f i : Nat), i < cs.length → (hAt cs i).fr ≤ f → lev cs (f + 1) i = lev cs f i
  | 0, i, hi, hf => by
    have h1 : lev cs 1 i ≤ 0 := lev_le cs 0 i 0 (fun k hk hp => by have := pbef_lt hh hk hp; have := call_at hh hk; omega)
    rw [lev]; simp only [lev] at h1 ⊢; omega
  | f + 1, i, hi, hf => by
    apply Nat.le_antisymm
    · refine lev_le cs (f + 1) i _ (fun k hk hp => ?_)
      have := pbef_lt hh hk hp
      rw [lev_fix f k hk (by omega)]
      exact lev_ge cs f i k hk hp
    · refine lev_le cs f i _ (fun k hk hp => ?_)
      have := pbef_lt hh hk hp
      rw [← lev_fix f k hk (by omega)]
      exact lev_ge cs (f + 1) i k hk hp
theorem levL_ge {i k : Nat} (hi : i < cs.length) (hk : k < cs.length) (hp : pbef cs k i = true) : lev cs 31 k + 1 ≤ lev cs 31 i := by
  have := lev_ge cs 31 i k hk hp
  rw [lev_fix hh 31 i hi (by have := call_at hh hi; omega)] at this
  exact this
theorem levL_le {i m : Nat} (h : ∀ k, k < cs.length → pbef cs k i = true → lev cs 31 k + 1 ≤ m) : lev cs 31 i ≤ m := by
  refine lev_le cs 30 i m (fun k hk hp => ?_)
  by_cases hi : i < cs.length
  · have := h k hk hp
    rw [lev_fix hh 30 k hk (by have := pbef_lt hh hk hp; have := call_at hh hi; omega)] at this
    exact this
  · have := h k hk hp
    rw [lev_fix hh 30 k hk (by have := call_at hh hk; omega)] at this
    exact this
theorem lev_count : ∀ (f i : Nat), i < cs.length → lev cs f i ≤ (List.range cs.length).countP fun j => decide ((hAt cs j).fr < (hAt cs i).fr)
  | 0, i, _ => by simp [lev]
  | f + 1, i, hi => by
    refine lev_le cs f i _ (fun k hk hp => ?_)
    have ih := lev_count f k hk
    have hlt := pbef_lt hh hk hp
    have : ((List.range cs.length).countP fun j => decide ((hAt cs j).fr < (hAt cs k).fr)) < (List.range cs.length).countP fun j => decide ((hAt cs j).fr < (hAt cs i).fr) :=
      countP_lt (fun x _ hx => by simp only [decide_eq_true_eq] at hx ⊢; omega) ⟨k, List.mem_range.2 hk, by simpa using hlt, by simp⟩
    omega
theorem lev_len {i : Nat} (hi : i < cs.length) : lev cs 31 i ≤ cs.length := by
  have h1 := lev_count hh 31 i hi
  have h2 := List.countP_le_length (p := fun j => decide ((hAt cs j).fr < (hAt cs i).fr)) (l := List.range cs.length)
  rw [List.length_range] at h2
  omega

/-! ### the program -/
theorem tmI_at (t : Nat) (L : List Nat) (hl : L.length = cs.length) (hL : ∀ j, j < cs.length → L.getD j 0 = if (hAt cs j).fr < t then lev cs 31 j else 0) : ∀ i, i ≤ cs.length → ∀ j, j < cs.length → (tmI cs t L i).getD j 0 = if (hAt cs j).fr < t ∨ ((hAt cs j).fr = t ∧ j < i) then lev cs 31 j else 0
  | 0, _, j, hj => by
    rw [tmI, hL j hj]
    simp
  | i + 1, hi, j, hj => by
    have ih := tmI_at t L hl hL i (by omega)
    rw [tmI]
    by_cases hf : (hAt cs i).fr = (t : Int)
    · rw [if_pos (by simpa using hf)]
      by_cases hji : j = i
      · subst hji
        rw [lvK_own cs _ j (by rw [tmI_len, hl]; exact hj) (pbef_self hh hj), if_pos (.inr ⟨hf, by omega⟩)]
        apply Nat.le_antisymm
        · refine topK_le cs _ j _ ?_ _ (fun k hk hp => ?_)
          · rw [ih j hj, if_neg (by omega)]; omega
          · have h1 := pbef_lt hh hk hp
            rw [ih k hk, if_pos (.inl (by omega))]
            exact levL_ge hh hj hk hp
        · refine levL_le hh (fun k hk hp => ?_)
          have h1 := pbef_lt hh hk hp
          have := topK_ge cs (tmI cs t L j) j hp hk
          rw [ih k hk, if_pos (.inl (by omega))] at this
          exact this
      · rw [lvK_other cs _ i hji, ih j hj]
        by_cases hc : (hAt cs j).fr < t ∨ ((hAt cs j).fr = t ∧ j < i)
        · rw [if_pos hc, if_pos (by omega)]
        · rw [if_neg hc, if_neg (by omega)]
    · rw [if_neg (by simpa using hf), ih j hj]
      by_cases hc : (hAt cs j).fr < t ∨ ((hAt cs j).fr = t ∧ j < i)
      · rw [if_pos hc, if_pos (by omega)]
      · rw [if_neg hc, if_neg]
        rintro (h | ⟨h1, h2⟩)
        · exact hc (.inl h)
        · by_cases e : j = i
          · subst e; exact hf h1
          · exact hc (.inr ⟨h1, by omega⟩)
theorem tmT_at : ∀ t j : Nat, j < cs.length → (tmT cs t).getD j 0 = if (hAt cs j).fr < t then lev cs 31 j else 0
  | 0, j, hj => by
    have := call_at hh hj
    rw [tmT, if_neg (by omega), List.getD, List.getElem?_replicate]
    simp [hj]
  | t + 1, j, hj => by
    rw [tmT, tmI_at hh t _ (tmT_len cs t) (tmT_at t) cs.length (Nat.le_refl _) j hj]
    by_cases hc : (hAt cs j).fr < t ∨ ((hAt cs j).fr = t ∧ j < cs.length)
    · rw [if_pos hc, if_pos (by omega)]
    · rw [if_neg hc, if_neg (by omega)]
theorem tmT_done {j : Nat} (hj : j < cs.length) : (tmT cs 31).getD j 0 = lev cs 31 j := by
  have := call_at hh hj
  rw [tmT_at hh 31 j hj, if_pos (by omega)]

/-! ### the reference -/
theorem lvI_at (r : Nat) (L : List Nat) (hl : L.length = cs.length) (hU : ∀ j, j < cs.length → L.getD j 0 ≤ lev cs 31 j) (hD : ∀ j, j < cs.length → min (lev cs 31 j) r ≤ L.getD j 0) : ∀ i, i ≤ cs.length → ∀ j, j < cs.length → (lvI cs L i).getD j 0 ≤ lev cs 31 j ∧ min (lev cs 31 j) r ≤ (lvI cs L i).getD j 0 ∧ (j < i → min (lev cs 31 j) (r + 1) ≤ (lvI cs L i).getD j 0)
  | 0, _, j, hj => ⟨hU j hj, hD j hj, fun h => by omega⟩
  | i + 1, hi, j, hj => by
    have ih := lvI_at r L hl hU hD i (by omega)
    rw [lvI]
    by_cases hji : j = i
    · subst hji
      rw [lvK_own cs _ j (by rw [lvI_len, hl]; exact hj) (pbef_self hh hj)]
      have h0 := topK_ge_own cs (lvI cs L j) j cs.length
      obtain ⟨a1, a2, a3⟩ := ih j hj
      refine ⟨topK_le cs _ j _ a1 _ (fun k hk hp => ?_), by omega, fun _ => ?_⟩
      · have h1 := levL_ge hh hj hk hp
        have := (ih k hk).1
        omega
      · by_cases hz : lev cs 31 j ≤ topK cs (lvI cs L j) j cs.length
        · omega
        · -- some call before it has the level below
          by_cases hr : r + 1 ≤ topK cs (lvI cs L j) j cs.length
          · omega
          · exfalso
            refine hz (levL_le hh (fun k hk hp => ?_))
            have h1 := topK_ge cs (lvI cs L j) j hp hk
            have h2 := (ih k hk).2.1
            omega
    · rw [lvK_other cs _ i hji]
      obtain ⟨a1, a2, a3⟩ := ih j hj
      exact ⟨a1, a2, fun h => a3 (by omega)⟩
theorem lvR_at : ∀ r j : Nat, j < cs.length → (lvR cs r).getD j 0 ≤ lev cs 31 j ∧ min (lev cs 31 j) r ≤ (lvR cs r).getD j 0
  | 0, j, hj => by
    rw [lvR, List.getD, List.getElem?_replicate]
    simp [hj]
  | r + 1, j, hj => by
    have := lvI_at hh r (lvR cs r) (lvR_len cs r) (fun j hj => (lvR_at r j hj).1) (fun j hj => (lvR_at r j hj).2) cs.length (Nat.le_refl _) j hj
    rw [lvR]
    exact ⟨this.1, this.2.2 hj⟩
theorem lvR_done {j : Nat} (hj : j < cs.length) : (lvR cs cs.length).getD j 0 = lev cs 31 j := by
  have h1 := lvR_at hh cs.length j hj
  have h2 := lev_len hh hj
  omega
theorem lev_same : lvR cs cs.length = tmT cs 31 := by
  apply List.ext_getElem
  · rw [lvR_len, tmT_len]
  · intro j h1 h2
    rw [lvR_len] at h1
    have e1 := lvR_done hh h1
    have e2 := tmT_done hh h1
    rw [List.getD, List.getElem?_eq_getElem (by rw [lvR_len]; exact h1)] at e1
    rw [List.getD, List.getElem?_eq_getElem (by rw [tmT_len]; exact h1)] at e2
    simp only [Option.getD_some] at e1 e2
    rw [e1, e2]
end
/-- No entry is greater than 31. -/
theorem lvStep_le {cs : List CallD} {L : List Nat} {i k m : Nat} (h : ∀ j, L.getD j 0 ≤ m) (j : Nat) : (lvStep cs L i k).getD j 0 ≤ m + 1 := by
  unfold lvStep
  split
  · rw [List.getD, List.getElem?_set]
    have h1 := h i
    have h2 := h k
    have h3 := h j
    split
    · split
      · show max (L.getD i 0) (L.getD k 0 + 1) ≤ m + 1
        omega
      · simp
    · rw [List.getD] at h3; omega
  · have := h j; omega
def levelsOfL (cs : List CallD) : List Int := if histB cs then (tmT cs 31).map Int.ofNat else []
theorem levelsOfL_len (cs : List CallD) : (levelsOfL cs).length ≤ 1048576 := by
  unfold levelsOfL
  split
  · rename_i h; have := histB_len h; rw [List.length_map, tmT_len]; omega
  · simp
end Go.Proofs.Ytoeecaeaobfhmaa
