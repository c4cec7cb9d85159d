/-
  Ways from no events to all of them by sets that are open: as many when they are counted forth, set by set, as when they are counted back; how many there are at most and at least. No condition.
-/
import Derived.Test.YtmeehfiekhdbkaaCutQ
namespace Go.Proofs.Ytmeehfiekhdbkaa

theorem add_bit (S i : Nat) (h : S.testBit i = false) (j : Nat) : (S + 2 ^ i).testBit j = (S.testBit j || j == i) := by
  induction i generalizing S j with
  | zero =>
    have h0 : S % 2 = 0 := by
      rw [Nat.testBit_zero] at h; simp at h; omega
    cases j with
    | zero => simp [Nat.testBit_zero]; omega
    | succ j =>
      rw [Nat.testBit_add_one, Nat.testBit_add_one]
      rw [show (S + 2 ^ 0) / 2 = S / 2 by omega]
      simp
  | succ i ih =>
    rw [Nat.testBit_add_one] at h
    cases j with
    | zero =>
      have hp : 2 ^ (i + 1) = 2 ^ i * 2 := Nat.pow_succ ..
      simp [Nat.testBit_zero]; omega
    | succ j =>
      rw [Nat.testBit_add_one, Nat.testBit_add_one]
      have hp : 2 ^ (i + 1) = 2 ^ i * 2 := Nat.pow_succ ..
      rw [show (S + 2 ^ (i + 1)) / 2 = S / 2 + 2 ^ i by omega, ih _ h]
      congr 1
      rw [Bool.eq_iff_iff]; simp
theorem bit_ge {S i : Nat} (h : S.testBit i = true) : 2 ^ i ≤ S := Nat.ge_two_pow_of_testBit h
theorem sub_bit (S i : Nat) (h : S.testBit i = true) (j : Nat) : (S - 2 ^ i).testBit j = (S.testBit j && j != i) := by
  have hge := bit_ge h
  have hf : (S - 2 ^ i).testBit i = false := by
    cases hb : (S - 2 ^ i).testBit i
    · rfl
    · exfalso
      have h1 := Nat.testBit_two_pow_add_eq (S - 2 ^ i) i
      rw [Nat.add_sub_cancel' hge, h, hb] at h1
      cases h1
  have h2 := add_bit (S - 2 ^ i) i hf j
  rw [Nat.sub_add_cancel hge] at h2
  by_cases e : j = i
  · subst e; rw [hf]; simp
  · rw [h2]
    have : (j == i) = false := by simpa using e
    simp [this, e]
theorem add_bit_lt {S i n : Nat} (hS : S < 2 ^ n) (hi : i < n) (h : S.testBit i = false) : S + 2 ^ i < 2 ^ n := by
  apply Nat.lt_pow_two_of_testBit
  intro j hj
  rw [add_bit S i h, Nat.testBit_lt_two_pow (Nat.lt_of_lt_of_le hS (Nat.pow_le_pow_right (by omega) hj))]
  simp; omega

/-! ### sums -/
def sm (N : Nat) (F : Nat → Nat) : Nat := ((List.range N).map F).sum
theorem sm_zero (F : Nat → Nat) : sm 0 F = 0 := rfl
theorem sm_succ (N : Nat) (F : Nat → Nat) : sm (N + 1) F = sm N F + F N := by simp [sm, List.range_succ]
theorem sm_congr {N : Nat} {F G : Nat → Nat} (h : ∀ i, i < N → F i = G i) : sm N F = sm N G := by
  induction N with
  | zero => rfl
  | succ N ih => rw [sm_succ, sm_succ, ih (fun i hi => h i (by omega)), h N (by omega)]
theorem sm_add (N : Nat) (F G : Nat → Nat) : sm N (fun i => F i + G i) = sm N F + sm N G := by
  induction N with
  | zero => rfl
  | succ N ih => rw [sm_succ, sm_succ, sm_succ, ih]; omega
theorem sm_mul (N c : Nat) (F : Nat → Nat) : sm N (fun i => c * F i) = c * sm N F := by
  induction N with
  | zero => rfl
  | succ N ih => rw [sm_succ, sm_succ, ih, Nat.mul_add]
theorem sm_none (N : Nat) {F : Nat → Nat} (h : ∀ i, i < N → F i = 0) : sm N F = 0 := by
  induction N with
  | zero => rfl
  | succ N ih => rw [sm_succ, ih (fun i hi => h i (by omega)), h N (by omega)]
theorem sm_swap (N M : Nat) (F : Nat → Nat → Nat) : sm N (fun i => sm M (F i)) = sm M (fun j => sm N (fun i => F i j)) := by
  induction N with
  | zero => rw [sm_zero]; exact (sm_none M (fun _ _ => rfl)).symm
  | succ N ih =>
    rw [sm_succ, ih, ← sm_add]
    exact sm_congr fun j _ => (sm_succ N _).symm
theorem sm_le {N : Nat} {F G : Nat → Nat} (h : ∀ i, i < N → F i ≤ G i) : sm N F ≤ sm N G := by
  induction N with
  | zero => exact Nat.le_refl _
  | succ N ih => rw [sm_succ, sm_succ]; exact Nat.add_le_add (ih (fun i hi => h i (by omega))) (h N (by omega))
theorem sm_one {N k : Nat} {F : Nat → Nat} (hk : k < N) (h : ∀ i, i < N → i ≠ k → F i = 0) : sm N F = F k := by
  induction N with
  | zero => omega
  | succ N ih =>
    rw [sm_succ]
    by_cases e : k = N
    · subst e
      rw [sm_none k (fun i hi => h i (by omega) (by omega)), Nat.zero_add]
    · rw [ih (by omega) (fun i hi hne => h i (by omega) hne), h N (by omega) (fun e' => e e'.symm), Nat.add_zero]
theorem sm_ge {N k : Nat} (F : Nat → Nat) (hk : k < N) : F k ≤ sm N F := by
  induction N with
  | zero => omega
  | succ N ih =>
    rw [sm_succ]
    by_cases e : k = N
    · subst e; omega
    · have := ih (by omega); omega
theorem sum_if (l : List Nat) (p : Nat → Bool) (F : Nat → Nat) : (l.map fun x => if p x = true then F x else 0).sum = ((l.filter p).map F).sum := by
  induction l with
  | nil => rfl
  | cons x xs ih =>
    rw [List.filter_cons]
    by_cases h : p x = true
    · simp [h, ih]
    · simp [h, ih]
/-- Sets without i, and what they are with it. -/
theorem sm_shift {n i : Nat} (hi : i < n) (F : Nat → Nat) : sm (2 ^ n) (fun S => if S.testBit i = false then F (S + 2 ^ i) else 0) = sm (2 ^ n) (fun T => if T.testBit i = true then F T else 0) := by
  unfold sm
  have e1 : (fun S : Nat => if S.testBit i = false then F (S + 2 ^ i) else 0) = (fun S : Nat => if (!S.testBit i) = true then F (S + 2 ^ i) else 0) := by
    funext S; cases S.testBit i <;> rfl
  rw [e1, sum_if (List.range (2 ^ n)) (fun S => !S.testBit i) (fun S => F (S + 2 ^ i)), sum_if (List.range (2 ^ n)) (fun T => T.testBit i) F]
  have e2 : ((List.range (2 ^ n)).filter (fun S => !S.testBit i)).map (fun S => F (S + 2 ^ i)) = (((List.range (2 ^ n)).filter (fun S => !S.testBit i)).map (· + 2 ^ i)).map F := by simp [Function.comp_def]
  rw [e2]
  apply List.Perm.sum_nat
  apply List.Perm.map
  rw [List.perm_ext_iff_of_nodup]
  · intro T
    simp only [List.mem_map, List.mem_filter, List.mem_range, Bool.not_eq_true']
    constructor
    · rintro ⟨S, ⟨h1, h2⟩, rfl⟩
      exact ⟨add_bit_lt h1 hi h2, by rw [add_bit S i h2]; simp⟩
    · rintro ⟨h1, h2⟩
      refine ⟨T - 2 ^ i, ⟨Nat.lt_of_le_of_lt (Nat.sub_le _ _) h1, ?_⟩, Nat.sub_add_cancel (bit_ge h2)⟩
      rw [sub_bit T i h2]; simp
  · refine List.Pairwise.map _ ?_ (List.Pairwise.filter _ List.nodup_range)
    intro a b hab h
    exact hab (by omega)
  · exact List.Pairwise.filter _ List.nodup_range

/-! ### sizes -/
def sz (n S : Nat) : Nat := sm n (fun i => if S.testBit i = true then 1 else 0)
theorem sz_add {n S i : Nat} (hi : i < n) (h : S.testBit i = false) : sz n (S + 2 ^ i) = sz n S + 1 := by
  have e : sz n (S + 2 ^ i) = sm n (fun j => (if S.testBit j = true then 1 else 0) + (if j = i then 1 else 0)) := by
    refine sm_congr fun j _ => ?_
    rw [add_bit S i h]
    by_cases e : j = i
    · subst e; simp [h]
    · simp [e]
  rw [e, sm_add, sm_one (F := fun j => if j = i then 1 else 0) hi (fun j _ hne => by rw [if_neg hne]), if_pos rfl]; rfl
theorem sz_le (n S : Nat) : sz n S ≤ n := by
  have : sz n S ≤ sm n (fun _ => 1) := sm_le (fun i _ => by split <;> omega)
  have h2 : ∀ m, sm m (fun _ => 1) = m := by
    intro m; induction m with
    | zero => rfl
    | succ m ih => rw [sm_succ, ih]
  rw [h2] at this; exact this
theorem sz_zero {n S : Nat} (hS : S < 2 ^ n) : sz n S = 0 ↔ S = 0 := by
  constructor
  · intro h
    apply Nat.eq_of_testBit_eq
    intro j
    rw [Nat.zero_testBit]
    by_cases hj : j < n
    · have := sm_ge (fun i => if S.testBit i = true then 1 else 0) hj
      cases hb : S.testBit j
      · rfl
      · exfalso
        have h1 : sz n S = sm n (fun i => if S.testBit i = true then 1 else 0) := rfl
        rw [← h1, h] at this
        simp [hb] at this
    · exact Nat.testBit_lt_two_pow (Nat.lt_of_lt_of_le hS (Nat.pow_le_pow_right (by omega) (by omega)))
  · rintro rfl
    exact sm_none n (fun i _ => by simp)
theorem sz_all {n S : Nat} (h : ∀ i, i < n → S.testBit i = true) : sz n S = n := by
  have : sz n S = sm n (fun _ => 1) := sm_congr (fun i hi => by rw [if_pos (h i hi)])
  rw [this]
  have h2 : ∀ m, sm m (fun _ => 1) = m := by
    intro m; induction m with
    | zero => rfl
    | succ m ih => rw [sm_succ, ih]
  exact h2 n
theorem sz_lack {n S i : Nat} (hi : i < n) (h : S.testBit i = false) : sz n S < n := by
  have h1 := sz_add hi h
  have h2 := sz_le n (S + 2 ^ i)
  omega
theorem sz_full {n S : Nat} (hS : S < 2 ^ n) : sz n S = n ↔ S = 2 ^ n - 1 := by
  constructor
  · intro h
    apply Nat.eq_of_testBit_eq
    intro j
    rw [Nat.testBit_two_pow_sub_one]
    by_cases hj : j < n
    · cases hb : S.testBit j
      · have := sz_lack hj hb; omega
      · simp [hj]
    · simp [hj]
      exact Nat.testBit_lt_two_pow (Nat.lt_of_lt_of_le hS (Nat.pow_le_pow_right (by omega) (by omega)))
  · rintro rfl
    exact sz_all (fun i hi => by rw [Nat.testBit_two_pow_sub_one]; simpa using hi)
theorem full_of_bits {n S : Nat} (hS : S < 2 ^ n) (h : ∀ i, i < n → S.testBit i = true) : S = 2 ^ n - 1 := (sz_full hS).1 (sz_all h)

/-! ### ways forth: a table -/
/-- What leads to S, with those ahead of it. -/
def preK (L : List Nat) (S : Nat) : Nat → Nat
  | 0 => if S = 0 then 1 else 0
  | j + 1 => if S.testBit j = true then preK L S j + L.getD (S - 2 ^ j) 0 else preK L S j
def entry (op : Nat → Bool) (n : Nat) (L : List Nat) (S : Nat) : Nat := if op S = true then preK L S n else 0
def wayL (op : Nat → Bool) (n : Nat) : Nat → List Nat
  | 0 => []
  | k + 1 => wayL op n k ++ [entry op n (wayL op n k) k]
theorem wayL_len (op : Nat → Bool) (n : Nat) : ∀ k, (wayL op n k).length = k
  | 0 => rfl
  | k + 1 => by simp [wayL, wayL_len op n k]
def way (op : Nat → Bool) (n S : Nat) : Nat := entry op n (wayL op n S) S
theorem wayL_get (op : Nat → Bool) (n : Nat) {S : Nat} : ∀ {k}, S < k → (wayL op n k)[S]? = some (way op n S)
  | 0, h => by omega
  | k + 1, h => by
    rw [wayL]
    by_cases e : S = k
    · subst e
      rw [List.getElem?_append_right (by rw [wayL_len]; exact Nat.le_refl _), wayL_len]; simp [way]
    · rw [List.getElem?_append_left (by rw [wayL_len]; omega)]
      exact wayL_get op n (by omega)
theorem wayL_getD (op : Nat → Bool) (n : Nat) {S k : Nat} (h : S < k) : (wayL op n k).getD S 0 = way op n S := by
  rw [List.getD, wayL_get op n h]; rfl
/-- The same without a table. -/
def pre (op : Nat → Bool) (n S : Nat) : Nat := (if S = 0 then 1 else 0) + sm n (fun j => if S.testBit j = true then way op n (S - 2 ^ j) else 0)
theorem preK_eq (op : Nat → Bool) (n S : Nat) : ∀ j, preK (wayL op n S) S j = (if S = 0 then 1 else 0) + sm j (fun j => if S.testBit j = true then way op n (S - 2 ^ j) else 0)
  | 0 => by simp [preK, sm_zero]
  | j + 1 => by
    rw [preK, preK_eq op n S j, sm_succ]
    by_cases h : S.testBit j = true
    · have hge := bit_ge h
      have hp := Nat.two_pow_pos j
      rw [if_pos h, if_pos h, wayL_getD op n (show S - 2 ^ j < S by omega), Nat.add_assoc]
    · rw [if_neg h, if_neg h, Nat.add_zero]
theorem way_eq (op : Nat → Bool) (n S : Nat) : way op n S = if op S = true then pre op n S else 0 := by
  unfold way entry
  rw [preK_eq op n S n]; rfl

/-! ### ways back: a recursion -/
def back (op : Nat → Bool) (n : Nat) : Nat → Nat → Nat
  | 0, S => if op S = true then 1 else 0
  | m + 1, S => if op S = true then sm n (fun i => if S.testBit i = false then back op n m (S + 2 ^ i) else 0) else 0
def layer (op : Nat → Bool) (n m : Nat) : Nat := sm (2 ^ n) (fun S => if sz n S = m then pre op n S * back op n (n - m) S else 0)
theorem layer_step (op : Nat → Bool) (n m : Nat) (hm : m < n) : layer op n m = layer op n (m + 1) := by
  have h1 : layer op n m = sm (2 ^ n) (fun S => sm n (fun i => if S.testBit i = false then (if sz n S = m then way op n S * back op n (n - (m + 1)) (S + 2 ^ i) else 0) else 0)) := by
    refine sm_congr fun S _ => ?_
    by_cases hs : sz n S = m
    · rw [if_pos hs, show n - m = (n - (m + 1)) + 1 by omega, back, way_eq]
      by_cases ho : op S = true
      · rw [if_pos ho, if_pos ho, ← sm_mul]
        refine sm_congr fun i _ => ?_
        by_cases hb : S.testBit i = false
        · rw [if_pos hb, if_pos hb, if_pos hs]
        · rw [if_neg hb, if_neg hb, Nat.mul_zero]
      · rw [if_neg ho, if_neg ho, Nat.mul_zero]
        symm
        apply sm_none
        intro i _
        split
        · rw [Nat.zero_mul]
        · rfl
    · rw [if_neg hs]
      symm
      apply sm_none
      intro i _
      split
      · rfl
      · rfl
  rw [h1, sm_swap]
  have h2 : sm n (fun i => sm (2 ^ n) (fun S => if S.testBit i = false then (if sz n S = m then way op n S * back op n (n - (m + 1)) (S + 2 ^ i) else 0) else 0)) =
      sm n (fun i => sm (2 ^ n) (fun T => if T.testBit i = true then (if sz n T = m + 1 then way op n (T - 2 ^ i) * back op n (n - (m + 1)) T else 0) else 0)) := by
    refine sm_congr fun i hi => ?_
    have h3 := sm_shift hi (fun T => if sz n T = m + 1 then way op n (T - 2 ^ i) * back op n (n - (m + 1)) T else 0)
    rw [← h3]
    refine sm_congr fun S _ => ?_
    by_cases hb : S.testBit i = false
    · rw [if_pos hb, if_pos hb, sz_add hi hb, Nat.add_sub_cancel]
      by_cases hs : sz n S = m
      · rw [if_pos hs, if_pos (by omega)]
      · rw [if_neg hs, if_neg (by omega)]
    · rw [if_neg hb, if_neg hb]
  rw [h2, ← sm_swap (2 ^ n) n (fun T i => if T.testBit i = true then (if sz n T = m + 1 then way op n (T - 2 ^ i) * back op n (n - (m + 1)) T else 0) else 0)]
  refine sm_congr fun T hT => ?_
  by_cases hs : sz n T = m + 1
  · rw [if_pos hs, pre, if_neg (by rintro rfl; rw [(sz_zero hT).2 rfl] at hs; omega), Nat.zero_add, Nat.mul_comm, ← sm_mul]
    refine sm_congr fun i _ => ?_
    by_cases hb : T.testBit i = true
    · rw [if_pos hb, if_pos hb, if_pos hs, Nat.mul_comm]
    · rw [if_neg hb, if_neg hb, Nat.mul_zero]
  · rw [if_neg hs]
    apply sm_none
    intro i _
    rw [if_neg hs]; split <;> rfl
theorem layer_all (op : Nat → Bool) (n : Nat) : ∀ m, m ≤ n → layer op n 0 = layer op n m
  | 0, _ => rfl
  | m + 1, h => (layer_all op n m (by omega)).trans (layer_step op n m (by omega))
/-- As many ways forth as back. -/
theorem way_back (op : Nat → Bool) (n : Nat) : way op n (2 ^ n - 1) = back op n n 0 := by
  have hp := Nat.two_pow_pos n
  have h0 : layer op n 0 = back op n n 0 := by
    rw [layer, sm_one (k := 0) hp (fun S hS hne => by rw [if_neg (fun h => hne ((sz_zero hS).1 h))])]
    rw [if_pos ((sz_zero hp).2 rfl), pre, if_pos rfl, sm_none n (fun i _ => by simp), Nat.sub_zero]; omega
  have h1 : layer op n n = way op n (2 ^ n - 1) := by
    rw [layer, sm_one (k := 2 ^ n - 1) (by omega) (fun S hS hne => by rw [if_neg (fun h => hne ((sz_full hS).1 h))])]
    rw [if_pos ((sz_full (by omega)).2 rfl), Nat.sub_self, back, way_eq]
    split
    · rw [Nat.mul_one]
    · rw [Nat.mul_zero]
  rw [← h1, ← h0]
  exact (layer_all op n n (Nat.le_refl _)).symm

/-! ### bounds -/
def fact : Nat → Nat
  | 0 => 1
  | n + 1 => (n + 1) * fact n
theorem fact_pos : ∀ n, 1 ≤ fact n
  | 0 => Nat.le_refl _
  | n + 1 => by rw [fact]; exact Nat.mul_pos (by omega) (fact_pos n)
theorem sm_cond (n c : Nat) (p : Nat → Bool) : sm n (fun i => if p i = true then c else 0) = c * sm n (fun i => if p i = true then 1 else 0) := by
  rw [← sm_mul]
  refine sm_congr fun i _ => ?_
  split <;> simp
theorem sz_gap (n S : Nat) : sm n (fun i => if (!S.testBit i) = true then 1 else 0) + sz n S = n := by
  unfold sz
  rw [← sm_add]
  have h2 : ∀ m, sm m (fun _ => 1) = m := by
    intro m; induction m with
    | zero => rfl
    | succ m ih => rw [sm_succ, ih]
  conv => rhs; rw [← h2 n]
  refine sm_congr fun i _ => ?_
  cases S.testBit i <;> rfl
theorem back_le (op : Nat → Bool) (n : Nat) : ∀ m S, sz n S + m = n → back op n m S ≤ fact m
  | 0, S, _ => by rw [back, fact]; split <;> omega
  | m + 1, S, h => by
    rw [back, fact]
    split
    · have h1 : sm n (fun i => if S.testBit i = false then back op n m (S + 2 ^ i) else 0) ≤ sm n (fun i => if (!S.testBit i) = true then fact m else 0) := by
        refine sm_le fun i hi => ?_
        cases hb : S.testBit i
        · simp
          exact back_le op n m _ (by rw [sz_add hi hb]; omega)
        · simp
      rw [sm_cond] at h1
      have h2 := sz_gap n S
      have h3 : sm n (fun i => if (!S.testBit i) = true then 1 else 0) = m + 1 := by omega
      rw [h3, Nat.mul_comm] at h1
      exact h1
    · omega
theorem back_all {op : Nat → Bool} {n : Nat} (ho : ∀ S, S < 2 ^ n → op S = true) : ∀ m S, S < 2 ^ n → sz n S + m = n → back op n m S = fact m
  | 0, S, hS, _ => by rw [back, fact, if_pos (ho S hS)]
  | m + 1, S, hS, h => by
    rw [back, fact, if_pos (ho S hS)]
    have h1 : sm n (fun i => if S.testBit i = false then back op n m (S + 2 ^ i) else 0) = sm n (fun i => if (!S.testBit i) = true then fact m else 0) := by
      refine sm_congr fun i hi => ?_
      cases hb : S.testBit i
      · simp
        exact back_all ho m _ (add_bit_lt hS hi hb) (by rw [sz_add hi hb]; omega)
      · simp
    have h2 := sz_gap n S
    have h3 : sm n (fun i => if (!S.testBit i) = true then 1 else 0) = m + 1 := by omega
    rw [h1, sm_cond, h3, Nat.mul_comm]
theorem sz_head {n k : Nat} (hk : k ≤ n) : sz n (2 ^ k - 1) = k := by
  have : sz n (2 ^ k - 1) = sm n (fun i => if i < k then 1 else 0) := sm_congr (fun i _ => by rw [Nat.testBit_two_pow_sub_one]; simp)
  rw [this]
  have h2 : ∀ m, sm m (fun i => if i < k then 1 else 0) = min m k := by
    intro m; induction m with
    | zero => simp [sm_zero]
    | succ m ih => rw [sm_succ, ih]; split <;> omega
  rw [h2]; omega
theorem head_add (k : Nat) : (2 ^ k - 1).testBit k = false ∧ 2 ^ k - 1 + 2 ^ k = 2 ^ (k + 1) - 1 := by
  have hp := Nat.two_pow_pos k
  rw [Nat.testBit_two_pow_sub_one, Nat.pow_succ]
  exact ⟨by simp, by omega⟩
theorem back_heads {op : Nat → Bool} {n : Nat} (ho : ∀ k, k ≤ n → op (2 ^ k - 1) = true) : ∀ m k, k + m = n → 1 ≤ back op n m (2 ^ k - 1)
  | 0, k, h => by rw [back, if_pos (ho k (by omega))]; omega
  | m + 1, k, h => by
    rw [back, if_pos (ho k (by omega))]
    have h1 := sm_ge (fun i => if (2 ^ k - 1).testBit i = false then back op n m (2 ^ k - 1 + 2 ^ i) else 0) (show k < n by omega)
    have h2 := head_add k
    have h3 := back_heads ho m (k + 1) (by omega)
    simp only [h2.1, if_pos, h2.2] at h1
    omega
theorem back_only {op : Nat → Bool} {n : Nat} (ho : ∀ k, k ≤ n → op (2 ^ k - 1) = true) (hn : ∀ S, S < 2 ^ n → op S = true → ∀ i k, i < k → S.testBit k = true → S.testBit i = true) : ∀ m k, k + m = n → back op n m (2 ^ k - 1) = 1
  | 0, k, h => by rw [back, if_pos (ho k (by omega))]
  | m + 1, k, h => by
    rw [back, if_pos (ho k (by omega))]
    have h2 := head_add k
    rw [sm_one (k := k) (by omega)]
    · rw [if_pos h2.1, h2.2]
      exact back_only ho hn m (k + 1) (by omega)
    · intro i hi hne
      split
      · rename_i hb
        have hik : k < i := by
          rw [Nat.testBit_two_pow_sub_one] at hb
          simp at hb; omega
        have hlt : 2 ^ k - 1 + 2 ^ i < 2 ^ n := add_bit_lt (by have := Nat.pow_le_pow_right (n := 2) (by omega) (show k ≤ n by omega); have := Nat.two_pow_pos k; omega) hi hb
        have hop : op (2 ^ k - 1 + 2 ^ i) = false := by
          cases ho' : op (2 ^ k - 1 + 2 ^ i)
          · rfl
          · exfalso
            have h3 := hn _ hlt ho' k i hik (by rw [add_bit _ i hb]; simp)
            rw [add_bit _ i hb, h2.1] at h3
            simp at h3; omega
        cases m with
        | zero => rw [back, if_neg (by simp [hop])]
        | succ m => rw [back, if_neg (by simp [hop])]
      · rfl
/-- Whether a way back is there at all. -/
def isWay (op : Nat → Bool) (n : Nat) : Nat → Nat → Bool
  | 0, S => op S
  | m + 1, S => op S && (List.range n).any fun i => !S.testBit i && isWay op n m (S + 2 ^ i)
theorem sm_pos {N : Nat} {F : Nat → Nat} : (0 < sm N F) ↔ ∃ i, i < N ∧ 0 < F i := by
  induction N with
  | zero => simp [sm_zero]
  | succ N ih =>
    rw [sm_succ]
    constructor
    · intro h
      by_cases h0 : 0 < F N
      · exact ⟨N, by omega, h0⟩
      · obtain ⟨i, hi, h1⟩ := ih.1 (by omega)
        exact ⟨i, by omega, h1⟩
    · rintro ⟨i, hi, h1⟩
      by_cases e : i = N
      · subst e; omega
      · have := ih.2 ⟨i, by omega, h1⟩; omega
theorem isWay_iff (op : Nat → Bool) (n : Nat) : ∀ m S, isWay op n m S = true ↔ 0 < back op n m S
  | 0, S => by rw [isWay, back]; cases op S <;> simp
  | m + 1, S => by
    rw [isWay, back, Bool.and_eq_true]
    cases op S
    · simp
    · simp only [true_and, if_pos]
      rw [sm_pos, List.any_eq_true]
      constructor
      · rintro ⟨i, hi, h⟩
        rw [Bool.and_eq_true] at h
        have hb : S.testBit i = false := by simpa using h.1
        exact ⟨i, List.mem_range.1 hi, by rw [if_pos hb]; exact (isWay_iff op n m _).1 h.2⟩
      · rintro ⟨i, hi, h⟩
        by_cases hb : S.testBit i = false
        · rw [if_pos hb] at h
          exact ⟨i, List.mem_range.2 hi, by rw [hb]; simpa using (isWay_iff op n m _).2 h⟩
        · rw [if_neg hb] at h; omega
end Go.Proofs.Ytmeehfiekhdbkaa
