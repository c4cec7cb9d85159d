/-
  A region that draws its order and ends in a tail (numbers from tl on) that waits for the loads: a condition S on the world needs to hold up to that tail alone. No condition.
-/
import Derived.Test.YtkahhcpfkebgiaaBase
import Derived.Deep.RegionHeld3
namespace Go.Proofs.Ytkahhcpfkebgiaa
open Go Go.RowKit

section
variable {P : Program} {ops : Array Oper} {Q : Exit → Act → World → Prop} {md : Region.Mode} {S : World → Prop} {tl : Nat}

/-- Nothing of the tail has come up. -/
def noTail (tl : Nat) (done : Array Bool) : Bool := (List.range done.size).all fun j => decide (j < tl) || !done.getD j false
theorem noTail_set {done : Array Bool} {i : Nat} (hi : i < tl) : noTail tl (done.setIfInBounds i true) = noTail tl done := by
  unfold noTail
  rw [Array.size_setIfInBounds, Bool.eq_iff_iff, List.all_eq_true, List.all_eq_true]
  refine forall_congr' fun j => forall_congr' fun hj => ?_
  by_cases e : i = j
  · subst e; simp [hi]
  · rw [getD_set_ne false e]

/-- Whatever comes up, and S behind each operation while nothing of the tail has come up. -/
def Tailed (P : Program) (md : Region.Mode) (ops : Array Oper) (Q : Exit → Act → World → Prop) (S : World → Prop) (tl : Nat) : Nat → Array Bool → Act → World → Prop
  | 0, done, a, w => Region.ready md ops done = [] ∧ Q .normal a w
  | n + 1, done, a, w => (Region.ready md ops done = [] → Q .normal a w) ∧ ∀ i ∈ Region.ready md ops done, wpOp P ops Q i (fun b v => (noTail tl (done.setIfInBounds i true) = true → S v) ∧ Tailed P md ops Q S tl n (done.setIfInBounds i true) b v) a w
theorem Tailed.any : ∀ (n : Nat) (done : Array Bool) (a : Act) (w : World), Tailed P md ops Q S tl n done a w → wpAny P md ops Q n done a w
  | 0, _, _, _, h => h
  | n + 1, _, _, _, h => ⟨h.1, fun i hi => wpOp_mono (fun b v k => Tailed.any n _ b v k.2) (h.2 i hi)⟩

/-- Number j waits for number i, at first or at some hand. -/
def upB (md : Region.Mode) (ops : Array Oper) (i : Nat) : Nat → Nat → Bool
  | 0, _ => false
  | n + 1, j => ((ops[j]?).map fun o => o.after.any fun e => Region.binds md e && (e.on == i || upB md ops i n e.on)).getD false
/-- All operations of the tail wait for number i. -/
def waitsB (md : Region.Mode) (ops : Array Oper) (tl i : Nat) : Bool := decide (i < tl) && (List.range ops.size).all fun j => decide (j < tl) || upB md ops i 4 j
/-- Behind what has come up stands all that it waits for. -/
def Closed (md : Region.Mode) (ops : Array Oper) (done : Array Bool) : Prop := ∀ k o, ops[k]? = some o → done.getD k false = true → ∀ e ∈ o.after, Region.binds md e = true → done.getD e.on false = true
def closedB (md : Region.Mode) (ops : Array Oper) (done : Array Bool) : Bool := (List.range ops.size).all fun k => !done.getD k false || ((ops[k]?).map fun o => o.after.all fun e => !Region.binds md e || done.getD e.on false).getD true
theorem closed_of {done : Array Bool} (h : closedB md ops done = true) : Closed md ops done := by
  intro k o ho hd e he hb
  simp only [closedB, List.all_eq_true, List.mem_range] at h
  have h1 := h k (Array.getElem?_eq_some_iff.1 ho).1
  rw [ho, hd] at h1
  simp only [Option.map_some, Option.getD_some, Bool.not_true, Bool.false_or] at h1
  have h2 := Array.all_eq_true_iff_forall_mem.1 h1 e he
  rw [hb] at h2
  simpa using h2
theorem Closed.step {done : Array Bool} {j : Nat} (h : Closed md ops done) (hj : j ∈ Region.ready md ops done) : Closed md ops (done.setIfInBounds j true) := by
  intro k o ho hd e he hb
  by_cases hk : j = k
  · subst hk
    obtain ⟨_, o', ho', hall⟩ := mem_ready.1 hj
    rw [ho] at ho'
    cases ho'
    exact getD_set_true (hall e he hb)
  · rw [getD_set_ne false hk] at hd
    exact getD_set_true (h k o ho hd e he hb)
theorem up_done {i : Nat} {done : Array Bool} (hc : Closed md ops done) : ∀ n j, (∀ o, ops[j]? = some o → ∀ e ∈ o.after, Region.binds md e = true → done.getD e.on false = true) → upB md ops i n j = true → done.getD i false = true
  | 0, _, _, h => by simp [upB] at h
  | n + 1, j, hall, h => by
    rw [upB] at h
    cases ho : ops[j]? with
    | none => rw [ho] at h; simp at h
    | some o =>
      rw [ho] at h
      simp only [Option.map_some, Option.getD_some] at h
      rw [Array.any_eq_true'] at h
      obtain ⟨e, he, h2⟩ := h
      simp only [Bool.and_eq_true, Bool.or_eq_true, beq_iff_eq] at h2
      have h3 := hall o ho e he h2.1
      rcases h2.2 with e1 | e1
      · rw [← e1]; exact h3
      · exact up_done hc n e.on (fun o' ho' e' he' hb' => hc e.on o' ho' h3 e' he' hb') e1
theorem ready_not {i : Nat} {done : Array Bool} (hi : i ∈ Region.ready md ops done) (h : done.getD i false = true) : False := by
  have h0 := (mem_ready.1 hi).1
  rcases Nat.lt_or_ge i done.size with h' | h'
  · simp [h'] at h h0
    rw [h0] at h; cases h
  · simp [Array.getElem?_eq_none h'] at h
theorem waits_lt {i j : Nat} {done : Array Bool} (hc : Closed md ops done) (h : waitsB md ops tl i = true) (hi : i ∈ Region.ready md ops done) (hj : j ∈ Region.ready md ops done) : j < tl := by
  obtain ⟨hj0, o, ho, hall⟩ := mem_ready.1 hj
  simp only [waitsB, Bool.and_eq_true, List.all_eq_true, List.mem_range] at h
  have h1 := h.2 j (Array.getElem?_eq_some_iff.1 ho).1
  simp only [Bool.or_eq_true, decide_eq_true_eq] at h1
  rcases h1 with h1 | h1
  · exact h1
  · exfalso
    refine ready_not hi (up_done hc 4 j (fun o' ho' e he hb => ?_) h1)
    rw [ho] at ho'
    cases ho'
    exact hall e he hb

/-- What may be taken ahead of its turn: where what it yields hangs on S, the tail waits for it. -/
def Early (P : Program) (md : Region.Mode) (ops : Array Oper) (S : World → Prop) (tl i : Nat) (oi : Oper) (v : Value) (a : Act) : Prop :=
  (waitsB md ops tl i = true ∧ YieldsIf P ops S oi v a) ∨ (i < tl ∧ YieldsIf P ops (fun _ => True) oi v a)
theorem Early.lt {i : Nat} {oi : Oper} {v : Value} {a : Act} (h : Early P md ops S tl i oi v a) : i < tl := by
  rcases h with h | h
  · have := h.1
    simp only [waitsB, Bool.and_eq_true, decide_eq_true_eq] at this
    exact this.1
  · exact h.1
theorem Tailed.early {i : Nat} {oi : Oper} {v : Value} (hi : ops[i]? = some oi) (hsel : Region.noSelect ops = true)
    (hQ : ∀ c a w, Q (.panic c) (a.put oi.dst v) w → Q (.panic c) a w) : ∀ (n : Nat) (done : Array Bool) (a : Act) (w : World),
      (∀ j oj, ops[j]? = some oj → j ≠ i → done.getD j true = false → (∀ e ∈ oj.after, Region.binds md e = true → e.on ≠ i) → oi.apart ops oj = true) →
      Closed md ops done → i ∈ Region.ready md ops done → Early P md ops S tl i oi v a → (waitsB md ops tl i = true → noTail tl done = true) → (noTail tl done = true → S w) → Tailed P md ops Q S tl n (done.setIfInBounds i true) (a.put oi.dst v) w → Tailed P md ops Q S tl (n + 1) done a w := by
  intro n
  induction n with
  | zero =>
    intro done a w _ _ hr hy hnt hS H
    refine ⟨fun e => absurd hr (by rw [e]; simp), fun j hj => ?_⟩
    rcases Nat.decEq j i with hne | rfl
    · have h1 := ready_mono hj hne
      rw [H.1] at h1
      cases h1
    · have hlt := hy.lt
      rcases hy with ⟨hw, hy⟩ | ⟨_, hy⟩
      · exact hy.wpOp hi (hS (hnt hw)) ⟨fun _ => hS (hnt hw), H⟩
      · exact hy.wpOp hi trivial ⟨fun h => hS (by rwa [noTail_set hlt] at h), H⟩
  | succ n ih =>
    intro done a w hap hc hr hy hnt hS H
    refine ⟨fun e => absurd hr (by rw [e]; simp), fun j hj => ?_⟩
    have hlt := hy.lt
    rcases Nat.decEq j i with hne | rfl
    · have hri := ready_mono hr (Ne.symm hne)
      obtain ⟨hj0, oj, ho, hall⟩ := mem_ready.1 hj
      have hno : ∀ e ∈ oj.after, Region.binds md e = true → e.on ≠ i := fun e he hb heq => ready_not hr (by have h1 := hall e he hb; rwa [heq] at h1)
      have hun : ∀ x ox, ops[x]? = some ox → x ≠ i → (done.setIfInBounds j true).getD x true = false → (∀ e ∈ ox.after, Region.binds md e = true → e.on ≠ i) → oi.apart ops ox = true := by
        intro x ox hx hxi hun hnx
        refine hap x ox hx hxi ?_ hnx
        by_cases e : j = x
        · subst e; exact hj0
        · rw [getD_set_ne true e] at hun; exact hun
      have hcomm : (done.setIfInBounds j true).setIfInBounds i true = (done.setIfInBounds i true).setIfInBounds j true := Array.setIfInBounds_comm _ _ hne
      have hup : ∀ v' : World, (noTail tl ((done.setIfInBounds i true).setIfInBounds j true) = true → S v') → noTail tl (done.setIfInBounds j true) = true → S v' := fun v' h h1 => h (by rw [← hcomm, noTail_set hlt]; exact h1)
      rcases hy with ⟨hw, hy⟩ | ⟨hlt', hy⟩
      · have hjt : j < tl := waits_lt hc hw hr hj
        have hstep := wpOp_putIf ho (hap j oj ho hne hj0 hno) (fun cs b => Region.noSelect_spec hsel i oi cs b hi) (fun cs b => Region.noSelect_spec hsel j oj cs b ho) hQ hy (H.2 j (ready_mono hj hne))
        exact wpOp_mono (fun b v' k => ⟨hup v' k.2.1, ih _ b v' hun (hc.step hj) hri (.inl ⟨hw, k.1⟩) (fun h => by rw [noTail_set hjt]; exact hnt h) (hup v' k.2.1) (by rw [hcomm]; exact k.2.2)⟩) hstep
      · have hstep := wpOp_putIf ho (hap j oj ho hne hj0 hno) (fun cs b => Region.noSelect_spec hsel i oi cs b hi) (fun cs b => Region.noSelect_spec hsel j oj cs b ho) hQ hy (H.2 j (ready_mono hj hne))
        exact wpOp_mono (fun b v' k => ⟨hup v' k.2.1, ih _ b v' hun (hc.step hj) hri (.inr ⟨hlt, k.1⟩) (fun h => by rw [noTail_set (waits_lt hc h hr hj)]; exact hnt h) (hup v' k.2.1) (by rw [hcomm]; exact k.2.2)⟩) hstep
    · rcases hy with ⟨hw, hy⟩ | ⟨_, hy⟩
      · exact hy.wpOp hi (hS (hnt hw)) ⟨fun _ => hS (hnt hw), H⟩
      · exact hy.wpOp hi trivial ⟨fun h => hS (by rwa [noTail_set hlt] at h), H⟩

/-- Take number i first: a load. -/
theorem Tailed.take {i : Nat} {oi : Oper} {v : Value} {n : Nat} {done : Array Bool} {a : Act} {w : World} (hi : ops[i]? = some oi) (hsel : Region.noSelect ops = true) (hf : Region.free md ops done i = true)
    (hr : (Region.ready md ops done).contains i = true) (hw : waitsB md ops tl i = true) (hc : closedB md ops done = true) (hnt : noTail tl done = true) (hQ : ∀ c a w, Q (.panic c) (a.put oi.dst v) w → Q (.panic c) a w) (hS : S w) (hy : YieldsIf P ops S oi v a)
    (h : Tailed P md ops Q S tl n (done.setIfInBounds i true) (a.put oi.dst v) w) : Tailed P md ops Q S tl (n + 1) done a w :=
  Tailed.early hi hsel hQ n done a w (Region.free_spec hi hf) (closed_of hc) (by simpa using hr) (.inl ⟨hw, hy⟩) (fun _ => hnt) (fun _ => hS) h
/-- Take number i first: one that yields in whatever world. -/
theorem Tailed.pure {i : Nat} {oi : Oper} {v : Value} {n : Nat} {done : Array Bool} {a : Act} {w : World} (hi : ops[i]? = some oi) (hsel : Region.noSelect ops = true) (hf : Region.free md ops done i = true)
    (hr : (Region.ready md ops done).contains i = true) (hlt : i < tl) (hc : closedB md ops done = true) (hnt : noTail tl done = true) (hQ : ∀ c a w, Q (.panic c) (a.put oi.dst v) w → Q (.panic c) a w) (hS : S w) (hy : YieldsIf P ops (fun _ => True) oi v a)
    (h : Tailed P md ops Q S tl n (done.setIfInBounds i true) (a.put oi.dst v) w) : Tailed P md ops Q S tl (n + 1) done a w :=
  Tailed.early hi hsel hQ n done a w (Region.free_spec hi hf) (closed_of hc) (by simpa using hr) (.inr ⟨hlt, hy⟩) (fun _ => hnt) (fun _ => hS) h
/-- All have come up. -/
theorem Tailed.done {done : Array Bool} {a : Act} {w : World} {n : Nat} (hr : Region.ready md ops done = []) (h : Q .normal a w) : Tailed P md ops Q S tl n done a w := by
  cases n with
  | zero => exact ⟨hr, h⟩
  | succ n => exact ⟨fun _ => h, by rw [hr]; simp⟩
/-- One step of one that comes up, handed over behind a 'for all K'. -/
def TailedAll (P : Program) (md : Region.Mode) (ops : Array Oper) (Q : Exit → Act → World → Prop) (S : World → Prop) (tl n : Nat) (done : Array Bool) (a : Act) (w : World) (rs : List Nat) : Prop :=
  ∀ i ∈ rs, wpOp P ops Q i (fun b v => (noTail tl (done.setIfInBounds i true) = true → S v) ∧ Tailed P md ops Q S tl n (done.setIfInBounds i true) b v) a w
theorem Tailed.ways {rs : List Nat} {n : Nat} {done : Array Bool} {a : Act} {w : World} (hr : Region.ready md ops done = rs) (hne : rs ≠ []) (h : TailedAll P md ops Q S tl n done a w rs) : Tailed P md ops Q S tl (n + 1) done a w :=
  ⟨fun h0 => absurd (hr ▸ h0) hne, hr ▸ h⟩
theorem TailedAll.nil {n : Nat} {done : Array Bool} {a : Act} {w : World} : TailedAll P md ops Q S tl n done a w [] := fun _ h => by cases h
/-- Ahead of the tail: S is shown. -/
theorem TailedAll.cons {n : Nat} {done : Array Bool} {a : Act} {w : World} {i : Nat} {o : Oper} {rs : List Nat} (ho : ops[i]? = some o)
    (h : ∀ K : Act → World → Prop, Shut (∀ b v, S v → (S v → Tailed P md ops Q S tl n (done.setIfInBounds i true) b v) → K b v) → if Region.wanted o (yielded ops a.tmps) = true then Oper.wp P o a w K Q else K (a.put o.dst undef) w)
    (hs : TailedAll P md ops Q S tl n done a w rs) : TailedAll P md ops Q S tl n done a w (i :: rs) := fun j hj => by
  rcases List.mem_cons.1 hj with rfl | hj
  · exact wpOp_step ho fun K hK => h K fun b v hS hT => hK b v ⟨fun _ => hS, hT hS⟩
  · exact hs j hj
/-- In the tail: no S. -/
theorem TailedAll.tail {n : Nat} {done : Array Bool} {a : Act} {w : World} {i : Nat} {o : Oper} {rs : List Nat} (ho : ops[i]? = some o) (ht : noTail tl (done.setIfInBounds i true) = false)
    (h : ∀ K : Act → World → Prop, Shut (∀ b v, Tailed P md ops Q S tl n (done.setIfInBounds i true) b v → K b v) → if Region.wanted o (yielded ops a.tmps) = true then Oper.wp P o a w K Q else K (a.put o.dst undef) w)
    (hs : TailedAll P md ops Q S tl n done a w rs) : TailedAll P md ops Q S tl n done a w (i :: rs) := fun j hj => by
  rcases List.mem_cons.1 hj with rfl | hj
  · exact wpOp_step ho fun K hK => h K fun b v hT => hK b v ⟨fun hlt => absurd hlt (by rw [ht]; simp), hT⟩
  · exact hs j hj
theorem tailed_start {id : Nat} {a : Act} {w : World} (tl : Nat) (S : World → Prop) (hm : P.follows .mixedOrders = true) (hS : S w.drew) (h : S w.drew → Tailed P .any ops Q S tl ops.size (Array.replicate ops.size false) a w.drew) : (Code.region id ops true).wp P Q a w :=
  wp_region_any hm (Tailed.any _ _ _ _ (h hS))
end
end Go.Proofs.Ytkahhcpfkebgiaa
