/-
  The reference's step of an object: the state that a Lean function tells, and whether the answer is the one that it tells. No condition but a state of at most a thousand numbers.
-/
import Derived.Test.YtoeecaeaobfhmaaStepW
import Derived.Test.YtoeecaeaobfhmaaStepY
namespace Go.Proofs.Ytoeecaeaobfhmaa
open Go.RowKit
set_option maxRecDepth 100000

theorem eq_kind {α : Type} {k z : Int} {x y : α} (h : (k == z) = true) : (if k = z then x else y) = x := if_pos (by simpa using h)
theorem ne_kind {α : Type} {k z : Int} {x y : α} (h : (k == z) = false) : (if k = z then x else y) = y := if_neg (by simpa using h)
theorem no_other {s : ByteArray} {o p : Ob} (h : obOf s = some o) (hne : o.text ≠ p.text) : (s.toList == p.text) = false := by
  rw [obOf_text h, beq_eq_false_iff_ne]
  exact hne
theorem headD_of {st : List Int} {x : Int} (h : st[0]? = some x) : st.headD 0 = x := by
  cases st with
  | nil => cases h
  | cons y ys => simpa using h
theorem headD_nil {st : List Int} (h : st.length = 0) : st.headD 0 = 0 := by rw [List.eq_nil_of_length_eq_zero h]; rfl

set_option maxHeartbeats 1000000 in
theorem specStep_of (o : Ob) (s : ByteArray) (hs : obOf s = some o) (st : List Int) (A : Option Addr) (n cap : Nat) (c : CallD) (w : World) (hr : RowInts w A st) (hn : st.length = n) (hnc : n ≤ cap) (hcm : cap ≤ maxLen) (hl : n ≤ 1000) :
    Calls Try.prog 71 #[.string s, .slice A n cap, c.val] w fun e w' => StepTo w w' A n (stepS o st c.kind c.arg) (c.ret == stepA o st c.kind c.arg) e := by
  have ht := obOf_text hs
  have hx0 : 0 < n → ∃ x, st[0]? = some x := fun h => ⟨st[0]'(by omega), List.getElem?_eq_getElem _⟩
  have hxl : 0 < n → ∃ x, st[n - 1]? = some x := fun h => ⟨st[n - 1]'(by omega), List.getElem?_eq_getElem _⟩
  have hgd : ∀ x, st[n - 1]? = some x → st.getD (st.length - 1) 0 = x := fun x h => by rw [hn, List.getD, h]; rfl
  have z0 : n = 0 → st.length = 0 := fun h => by omega
  have p0 : 0 < n → ¬ st.length = 0 := fun h => by omega
  cases hk : (c.kind == 0)
  case true =>
    cases o
    · simp only [stepS, stepA, eq_kind hk]
      exact step_put_register s st A n cap c w hr hn hnc hcm hl ht hk
    · simp only [stepS, stepA, eq_kind hk]
      exact step_put_row s st A n cap c w hr hn hl (no_other hs (p := .register) (by decide)) (no_other hs (p := .counter) (by decide)) (no_other hs (p := .most) (by decide)) (no_other hs (p := .set) (by decide)) hk
    · simp only [stepS, stepA, eq_kind hk]
      exact step_put_row s st A n cap c w hr hn hl (no_other hs (p := .register) (by decide)) (no_other hs (p := .counter) (by decide)) (no_other hs (p := .most) (by decide)) (no_other hs (p := .set) (by decide)) hk
    · simp only [stepS, stepA, eq_kind hk]
      rcases Nat.eq_zero_or_pos n with h | h
      · rw [if_pos (z0 h)]
        exact step_put_counter_none s st A n cap c w hr hn hnc hcm hl h ht hk
      · obtain ⟨x, hx⟩ := hx0 h
        rw [if_neg (p0 h), headD_of hx]
        exact step_put_counter s st A n cap c w hr hn hnc hcm hl x hx ht hk
    · simp only [stepS, stepA, eq_kind hk]
      cases ha : st.any (· == c.arg)
      · rw [if_neg (by simp), if_neg (by simp)]
        exact step_put_set_new s st A n cap c w hr hn hl ht ha hk
      · rw [if_pos rfl, if_pos rfl]
        exact step_put_set_same s st A n cap c w hr hn hnc hcm hl ht ha hk
    · simp only [stepS, stepA, eq_kind hk]
      rcases Nat.eq_zero_or_pos n with h | h
      · rw [if_neg (by have := z0 h; omega)]
        exact step_put_most_none s st A n cap c w hr hn hnc hcm hl h ht hk
      · obtain ⟨x, hx⟩ := hx0 h
        rw [headD_of hx]
        by_cases hlt : c.arg < x
        · rw [if_pos ⟨by omega, hlt⟩]
          exact step_put_most_same s st A n cap c w hr hn hnc hcm hl x hx ht hk hlt
        · rw [if_neg (fun e => hlt e.2)]
          exact step_put_most s st A n cap c w hr hn hnc hcm hl x hx ht hk hlt
  case false =>
    cases hk2 : (c.kind == 2)
    case true =>
      have other : ∀ (o : Ob), obOf s = some o → o.text ≠ Ob.text .queue → o.text ≠ Ob.text .stack → o.text ≠ Ob.text .set →
          Calls Try.prog 71 #[.string s, .slice A n cap, c.val] w fun e w' => StepTo w w' A n st (c.ret == st.headD 0) e := by
        intro o ho h1 h2 h3
        rcases Nat.eq_zero_or_pos n with h | h
        · rw [headD_nil (z0 h)]
          exact step_look_none s st A n cap c w hr hn hnc hcm hl h (no_other ho h1) (no_other ho h2) (no_other ho h3) hk hk2
        · obtain ⟨x, hx⟩ := hx0 h
          rw [headD_of hx]
          exact step_look s st A n cap c w hr hn hnc hcm hl x hx (no_other ho h1) (no_other ho h2) (no_other ho h3) hk hk2
      cases o
      · simp only [stepS, stepA, ne_kind hk, eq_kind hk2]
        exact other _ hs (by decide) (by decide) (by decide)
      · simp only [stepS, stepA, ne_kind hk, eq_kind hk2]
        rcases Nat.eq_zero_or_pos n with h | h
        · rw [if_pos (z0 h)]
          exact step_look_queue_none s st A n cap c w hr hn hnc hcm hl h ht hk hk2
        · obtain ⟨x, hx⟩ := hx0 h
          rw [if_neg (p0 h), headD_of hx]
          exact step_look_queue s st A n cap c w hr hn hnc hcm hl x hx ht hk hk2
      · simp only [stepS, stepA, ne_kind hk, eq_kind hk2]
        rcases Nat.eq_zero_or_pos n with h | h
        · rw [if_pos (z0 h)]
          exact step_look_stack_none s st A n cap c w hr hn hnc hcm hl h ht hk hk2
        · obtain ⟨x, hx⟩ := hxl h
          rw [if_neg (p0 h), hgd x hx]
          exact step_look_stack s st A n cap c w hr hn hnc hcm hl x hx h ht hk hk2
      · simp only [stepS, stepA, ne_kind hk, eq_kind hk2]
        exact other _ hs (by decide) (by decide) (by decide)
      · simp only [stepS, stepA, ne_kind hk, eq_kind hk2]
        cases ha : st.any (· == c.arg)
        · rw [if_neg (by simp)]
          exact step_look_set_not s st A n cap c w hr hn hnc hcm hl ht ha hk hk2
        · rw [if_pos rfl]
          exact step_look_set_has s st A n cap c w hr hn hnc hcm hl ht ha hk hk2
      · simp only [stepS, stepA, ne_kind hk, eq_kind hk2]
        exact other _ hs (by decide) (by decide) (by decide)
    case false =>
      have other : ∀ (o : Ob), obOf s = some o → o.text ≠ Ob.text .queue → o.text ≠ Ob.text .stack → o.text ≠ Ob.text .set →
          Calls Try.prog 71 #[.string s, .slice A n cap, c.val] w fun e w' => StepTo w w' A n [] (c.ret == st.headD 0) e := by
        intro o ho h1 h2 h3
        rcases Nat.eq_zero_or_pos n with h | h
        · rw [headD_nil (z0 h)]
          exact step_take_none s st A n cap c w hr hn hnc hcm hl h (no_other ho h1) (no_other ho h2) (no_other ho h3) hk hk2
        · obtain ⟨x, hx⟩ := hx0 h
          rw [headD_of hx]
          exact step_take s st A n cap c w hr hn hnc hcm hl x hx (no_other ho h1) (no_other ho h2) (no_other ho h3) hk hk2
      cases o
      · simp only [stepS, stepA, ne_kind hk, ne_kind hk2]
        exact other _ hs (by decide) (by decide) (by decide)
      · simp only [stepS, stepA, ne_kind hk, ne_kind hk2]
        rcases Nat.eq_zero_or_pos n with h | h
        · rw [if_pos (z0 h), show st.tail = st by rw [List.eq_nil_of_length_eq_zero (z0 h)]; rfl]
          exact step_take_queue_none s st A n cap c w hr hn hnc hcm hl h ht hk hk2
        · obtain ⟨x, hx⟩ := hx0 h
          rw [if_neg (p0 h), headD_of hx]
          exact step_take_queue s st A n cap c w hr hn hnc hcm hl x hx ht hk hk2
      · simp only [stepS, stepA, ne_kind hk, ne_kind hk2]
        rcases Nat.eq_zero_or_pos n with h | h
        · rw [if_pos (z0 h), show st.dropLast = st by rw [List.eq_nil_of_length_eq_zero (z0 h)]; rfl]
          exact step_take_stack_none s st A n cap c w hr hn hnc hcm hl h ht hk hk2
        · obtain ⟨x, hx⟩ := hxl h
          rw [if_neg (p0 h), hgd x hx]
          exact step_take_stack s st A n cap c w hr hn hnc hcm hl x hx h ht hk hk2
      · simp only [stepS, stepA, ne_kind hk, ne_kind hk2]
        exact other _ hs (by decide) (by decide) (by decide)
      · simp only [stepS, stepA, ne_kind hk, ne_kind hk2]
        exact step_take_set s st A n cap c w hr hn hnc hcm hl ht hk hk2 _ rfl
      · simp only [stepS, stepA, ne_kind hk, ne_kind hk2]
        exact other _ hs (by decide) (by decide) (by decide)

theorem stepS_len (o : Ob) (st : List Int) (k a : Int) : (stepS o st k a).length ≤ st.length + 1 := by
  have he : (st.erase a).length ≤ st.length := List.length_erase_le
  cases o <;> unfold stepS <;> (try split) <;> (try split) <;> (try split) <;> first | omega | (simp; done) | (simp; omega)
end Go.Proofs.Ytoeecaeaobfhmaa
