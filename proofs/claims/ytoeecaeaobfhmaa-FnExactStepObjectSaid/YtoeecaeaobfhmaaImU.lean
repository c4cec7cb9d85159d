/-
  The program's step of an object: the state and the right answer, as the Lean functions tell them, in memory of its own. Asked: a call that is one by itself, numbers that are a state.
-/
import Derived.Test.YtoeecaeaobfhmaaImT
import Derived.Test.YtoeecaeaobfhmaaStepZ
namespace Go.Proofs.Ytoeecaeaobfhmaa
open Go.RowKit Go.Deep
set_option maxRecDepth 100000

def Ob.one : Ob → Bool
  | .register => true
  | .counter => true
  | .most => true
  | _ => false
theorem isSingle_calls (s : ByteArray) (w : World) : Calls Try.prog 82 #[.string s] w fun e w' => e = .returned (.bool ((obOf s).any Ob.one)) ∧ w = w' := by
  cases h : obOf s with
  | none =>
    have q1 : (s.toList == [114, 101, 103, 105, 115, 116, 101, 114]) = false := beq_eq_false_iff_ne.2 (obOf_none h .register)
    have q4 : (s.toList == [99, 111, 117, 110, 116, 101, 114]) = false := beq_eq_false_iff_ne.2 (obOf_none h .counter)
    have q6 : (s.toList == [109, 111, 115, 116]) = false := beq_eq_false_iff_ne.2 (obOf_none h .most)
    clear h
    go_enter Try.func82, Try.ntmps82
    go_wp2
    go_ret
    exact ⟨rfl, rfl⟩
  | some o =>
    have ht := obOf_text h
    clear h
    cases o
    all_goals
      unfold Ob.text at ht
      go_enter Try.func82, Try.ntmps82
      go_wp2
      go_ret
      exact ⟨rfl, rfl⟩

section
variable (o : Ob) (s : ByteArray) (hs : obOf s = some o) (st : List Int) (v : Value) (n : Nat) (c : CallD) (w : World) (B : Nat)
theorem implSingle_of (h1 : o.one = true) (hs : obOf s = some o) (hB : B ≤ w.heap.size) (ho : w.ownsRow B 3 1 v n (st.flatMap intVals)) (hn : st.length = n) (hn1 : n ≤ 1) (hp : ∀ x ∈ st, 0 ≤ x) (hk : 0 ≤ c.kind ∧ c.kind ≤ 2) (ha : 0 ≤ c.arg ∧ c.arg ≤ 3) :
    Calls Try.prog 84 #[.string s, v, c.val] w fun e w' => ImTo w w' B (stepS o st c.kind c.arg) (stepA o st c.kind c.arg) e := by
  have ht := obOf_text hs
  obtain ⟨A, cap, rfl, _, _, _⟩ := own_form ho
  rcases Nat.eq_zero_or_pos n with h0 | h0
  · subst h0
    obtain rfl : st = [] := List.eq_nil_of_length_eq_zero hn
    cases q2 : (c.kind == 2)
    · cases q1 : (c.kind == 1)
      · have q0 : (c.kind == 0) = true := by simp at q1 q2 ⊢; omega
        cases o
        · simp only [stepS, stepA, eq_kind q0]; exact single_register_none s c w B hB A cap ho q2 q1 ha.1 ha.2 ht
        · cases h1
        · cases h1
        · simp only [stepS, stepA, eq_kind q0]; exact single_counter_none s c w B hB A cap ho q2 q1 ha.1 ha.2 ht
        · cases h1
        · simp only [stepS, stepA, eq_kind q0]
          rw [if_neg (by simp)]
          have := single_most_none s c w B hB A cap ho q2 q1 ha.1 ha.2 ht
          rwa [show max 0 c.arg = c.arg by omega] at this
      · have q0 : (c.kind == 0) = false := by simp at q1 ⊢; omega
        cases o
        · simp only [stepS, stepA, ne_kind q0, ne_kind q2]; exact single_take_none s c w B hB A cap ho q2 q1
        · cases h1
        · cases h1
        · simp only [stepS, stepA, ne_kind q0, ne_kind q2]; exact single_take_none s c w B hB A cap ho q2 q1
        · cases h1
        · simp only [stepS, stepA, ne_kind q0, ne_kind q2]; exact single_take_none s c w B hB A cap ho q2 q1
    · have q0 : (c.kind == 0) = false := by simp at q2 ⊢; omega
      cases o
      · simp only [stepS, stepA, ne_kind q0, eq_kind q2]; exact single_look_none s c w B hB A cap ho q2
      · cases h1
      · cases h1
      · simp only [stepS, stepA, ne_kind q0, eq_kind q2]; exact single_look_none s c w B hB A cap ho q2
      · cases h1
      · simp only [stepS, stepA, ne_kind q0, eq_kind q2]; exact single_look_none s c w B hB A cap ho q2
  · obtain rfl : n = 1 := by omega
    obtain ⟨y, rfl⟩ : ∃ y, st = [y] := by
      match st, hn with
      | [y], _ => exact ⟨y, rfl⟩
    have hy := hp y (by simp)
    obtain ⟨g, cap', hv, _, _⟩ := World.ownsRow.form ho (by omega)
    injection hv with e1 _ e3
    subst e1 e3
    cases q2 : (c.kind == 2)
    · cases q1 : (c.kind == 1)
      · have q0 : (c.kind == 0) = true := by simp at q1 q2 ⊢; omega
        cases o
        · simp only [stepS, stepA, eq_kind q0]; exact single_register_one s c w B hB g cap y ho q2 q1 ha.1 ha.2 ht
        · cases h1
        · cases h1
        · simp only [stepS, stepA, eq_kind q0]
          rw [if_neg (by simp)]
          exact single_counter_one s c w B hB g cap y ho q2 q1 ha.1 ha.2 ht
        · cases h1
        · simp only [stepS, stepA, eq_kind q0]
          have h := single_most_one s c w B hB g cap y ho q2 q1 ha.1 ha.2 ht
          by_cases hlt : c.arg < y
          · rw [if_pos ⟨by simp, hlt⟩]
            rwa [show max y c.arg = y by omega] at h
          · rw [if_neg (fun e => hlt e.2)]
            rwa [show max y c.arg = c.arg by omega] at h
      · have q0 : (c.kind == 0) = false := by simp at q1 ⊢; omega
        cases o
        · simp only [stepS, stepA, ne_kind q0, ne_kind q2]; exact single_take_one s c w B hB g cap y ho q2 q1
        · cases h1
        · cases h1
        · simp only [stepS, stepA, ne_kind q0, ne_kind q2]; exact single_take_one s c w B hB g cap y ho q2 q1
        · cases h1
        · simp only [stepS, stepA, ne_kind q0, ne_kind q2]; exact single_take_one s c w B hB g cap y ho q2 q1
    · have q0 : (c.kind == 0) = false := by simp at q2 ⊢; omega
      cases o
      · simp only [stepS, stepA, ne_kind q0, eq_kind q2]; exact single_look_one s c w B hB g cap y ho q2
      · cases h1
      · cases h1
      · simp only [stepS, stepA, ne_kind q0, eq_kind q2]; exact single_look_one s c w B hB g cap y ho q2
      · cases h1
      · simp only [stepS, stepA, ne_kind q0, eq_kind q2]; exact single_look_one s c w B hB g cap y ho q2

theorem take_last (st : List Int) (m : Nat) (hn : st.length = m + 1) : st.take m ++ st.drop (m + 1) = st.dropLast := by
  rw [List.drop_of_length_le (by omega), List.append_nil, List.dropLast_eq_take, hn, Nat.add_sub_cancel]
theorem implRow_of (h1 : o = .queue ∨ o = .stack) (hs : obOf s = some o) (hB : B ≤ w.heap.size) (ho : w.ownsRow B 3 1 v n (st.flatMap intVals)) (hn : st.length = n) (hl : n ≤ 1000) :
    Calls Try.prog 86 #[.string s, v, c.val] w fun e w' => ImTo w w' B (stepS o st c.kind c.arg) (stepA o st c.kind c.arg) e := by
  have ht := obOf_text hs
  obtain ⟨A, cap, rfl, _, _, _⟩ := own_form ho
  cases q0 : (c.kind == 0)
  · rcases Nat.eq_zero_or_pos n with h0 | h0
    · subst h0
      obtain rfl : st = [] := List.eq_nil_of_length_eq_zero hn
      rcases h1 with rfl | rfl
      · simp only [stepS, stepA, ne_kind q0]
        rw [show (if c.kind = 2 then ([] : List Int) else ([] : List Int).tail) = [] by split <;> rfl, if_pos (show ([] : List Int).length = 0 from rfl)]
        exact row_none_queue s c A cap w B hB ho ht q0
      · simp only [stepS, stepA, ne_kind q0]
        rw [show (if c.kind = 2 then ([] : List Int) else ([] : List Int).dropLast) = [] by split <;> rfl, if_pos (show ([] : List Int).length = 0 from rfl)]
        exact row_none_stack s c A cap w B hB ho ht q0
    · obtain ⟨m, rfl⟩ : ∃ m, n = m + 1 := ⟨n - 1, by omega⟩
      obtain ⟨g, cap', hv, _, _⟩ := World.ownsRow.form ho (by omega)
      injection hv with e1 _ e3
      subst e1 e3
      have hz : ¬ st.length = 0 := by omega
      rcases h1 with rfl | rfl
      · obtain ⟨x, hx⟩ : ∃ x, st[0]? = some x := ⟨st[0]'(by omega), List.getElem?_eq_getElem _⟩
        simp only [stepS, stepA, ne_kind q0]
        rw [if_neg hz, headD_of hx]
        cases q2 : (c.kind == 2)
        · rw [ne_kind q2]
          have h := row_take_queue s c st x g m cap w B hB ho hn hl hx ht q0 q2
          rwa [show st.take 0 ++ st.drop (0 + 1) = st.tail by simp] at h
        · rw [eq_kind q2]
          exact row_look_queue s c st x g m cap w B hB ho hn hl hx ht q0 q2
      · obtain ⟨x, hx⟩ : ∃ x, st[m]? = some x := ⟨st[m]'(by omega), List.getElem?_eq_getElem _⟩
        simp only [stepS, stepA, ne_kind q0]
        rw [if_neg hz, show st.getD (st.length - 1) 0 = x by rw [hn, Nat.add_sub_cancel, List.getD, hx]; rfl]
        cases q2 : (c.kind == 2)
        · rw [ne_kind q2]
          have h := row_take_stack s c st x g m cap w B hB ho hn hl hx ht q0 q2
          rwa [take_last st m hn] at h
        · rw [eq_kind q2]
          exact row_look_stack s c st x g m cap w B hB ho hn hl hx ht q0 q2
  · rcases h1 with rfl | rfl
    · simp only [stepS, stepA, eq_kind q0]; exact row_put_queue s c st A n cap w B hB ho hn hl ht q0
    · simp only [stepS, stepA, eq_kind q0]; exact row_put_stack s c st A n cap w B hB ho hn hl ht q0

theorem implSet_of (hB : B ≤ w.heap.size) (ho : w.ownsRow B 3 1 v n (st.flatMap intVals)) (hn : st.length = n) (hl : n ≤ 1000) (hk : 0 ≤ c.kind ∧ c.kind ≤ 2) :
    Calls Try.prog 85 #[v, c.val] w fun e w' => ImTo w w' B (stepS .set st c.kind c.arg) (stepA .set st c.kind c.arg) e := by
  obtain ⟨A, cap, rfl, _, _, _⟩ := own_form ho
  cases q0 : (c.kind == 0)
  · cases ha : st.any (· == c.arg)
    · simp only [stepS, stepA, ne_kind q0]
      rw [show (if c.kind = 2 then st else st.erase c.arg) = st by split <;> first | rfl | exact erase_none st _ ha]
      rw [ha, if_neg (by simp)]
      exact set_not c st A n cap w B hB ho hn hl ha q0
    · simp only [stepS, stepA, ne_kind q0]
      rw [ha, if_pos rfl]
      cases q1 : (c.kind == 1)
      · have q2 : (c.kind == 2) = true := by simp at q0 q1 ⊢; omega
        rw [eq_kind q2]
        exact set_look_has c st A n cap w B hB ho hn hl ha q0 q1
      · have q2 : (c.kind == 2) = false := by simp at q1 ⊢; omega
        rw [ne_kind q2]
        have h0 : 0 < n := by
          rcases Nat.eq_zero_or_pos n with h | h
          · rw [List.eq_nil_of_length_eq_zero (hn.trans h)] at ha
            cases ha
          · exact h
        obtain ⟨m, rfl⟩ : ∃ m, n = m + 1 := ⟨n - 1, by omega⟩
        obtain ⟨g, cap', hv, _, _⟩ := World.ownsRow.form ho (by omega)
        injection hv with e1 _ e3
        subst e1 e3
        exact set_take_has c st g m cap w B hB ho hn hl ha q0 q1
  · cases ha : st.any (· == c.arg)
    · simp only [stepS, stepA, eq_kind q0]
      rw [ha, if_neg (by simp), if_neg (by simp)]
      exact set_put_new c st A n cap w B hB ho hn hl ha q0
    · simp only [stepS, stepA, eq_kind q0]
      rw [ha, if_pos rfl, if_pos rfl]
      exact set_put_same c st A n cap w B hB ho hn hl ha q0
end
end Go.Proofs.Ytoeecaeaobfhmaa
