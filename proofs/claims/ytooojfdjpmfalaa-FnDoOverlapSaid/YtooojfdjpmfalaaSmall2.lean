/-
  What the reference's IsBefore and DoOverlap compute. No condition.
-/
import Derived.Test.YtooojfdjpmfalaaSmall
namespace Go.Proofs.Ytooojfdjpmfalaa
open Go.RowKit
set_option maxRecDepth 100000

theorem specIsBefore_calls (c d : CallD) (b : Bool) (hb : befB c d = b) (w : World) : Calls Try.prog 15 #[c.val, d.val] w fun e w' => e = .returned (.bool b) ∧ Below w.heap.size w w' := by
  have H := Lib.hid hb
  clear hb
  go_enter Try.func15, Try.ntmps15
  go_wp2_with (go_at_call 39; refine (before_calls c d b H.out _).mono ?_; rintro e w1 ⟨rfl, hb⟩)
  go_ret
  exact ⟨rfl, (by repeat (first | exact Below.refl _ _ | assumption | refine below_alloc ?_ _ | refine below_trans' ?_ (by assumption) | refine Below.drew ?_))⟩
theorem specDoOverlap_calls (c d : CallD) (b : Bool) (hb : lapB c d = b) (w : World) : Calls Try.prog 18 #[c.val, d.val] w fun e w' => e = .returned (.bool b) ∧ Below w.heap.size w w' := by
  subst hb
  cases hb1 : befB c d
  · cases hb2 : befB d c
    · rw [show lapB c d = true by simp [lapB, hb1, hb2]]
      have H1 := Lib.hid hb1
      have H2 := Lib.hid hb2
      clear hb1 hb2
      go_enter Try.func18, Try.ntmps18
      go_wp2_with (go_at_call 39; refine (before_calls _ _ false (by first | exact H1.out | exact H2.out) _).mono ?_; rintro e w1 ⟨rfl, hb⟩; obtain ⟨hc, _⟩ := bcell hb)
      go_ret
      exact ⟨rfl, (by repeat (first | exact Below.refl _ _ | assumption | refine below_alloc ?_ _ | refine below_trans' ?_ (by assumption) | refine Below.drew ?_))⟩
    · rw [show lapB c d = false by simp [lapB, hb2]]
      have H1 := Lib.hid hb1
      have H2 := Lib.hid hb2
      clear hb1 hb2
      go_enter Try.func18, Try.ntmps18
      go_wp2_with fail
      refine (before_calls c d false H1.out _).mono ?_
      rintro e w1 ⟨rfl, hb⟩
      obtain ⟨hc, _⟩ := bcell hb
      go_wp2_with fail
      refine (before_calls d c true H2.out _).mono ?_
      rintro e w2 ⟨rfl, hb⟩
      go_wp2_with fail
      go_ret
      exact ⟨rfl, (by repeat (first | exact Below.refl _ _ | assumption | refine below_alloc ?_ _ | refine below_trans' ?_ (by assumption) | refine Below.drew ?_))⟩
  · rw [show lapB c d = false by simp [lapB, hb1]]
    have H1 := Lib.hid hb1
    clear hb1
    go_enter Try.func18, Try.ntmps18
    go_wp2_with fail
    refine (before_calls c d true H1.out _).mono ?_
    rintro e w1 ⟨rfl, hb⟩
    go_wp2_with fail
    go_ret
    exact ⟨rfl, (by repeat (first | exact Below.refl _ _ | assumption | refine below_alloc ?_ _ | refine below_trans' ?_ (by assumption) | refine Below.drew ?_))⟩
end Go.Proofs.Ytooojfdjpmfalaa
