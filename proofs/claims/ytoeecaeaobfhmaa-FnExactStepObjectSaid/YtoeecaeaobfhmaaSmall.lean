/-
  What the program's smallest functions on calls compute: before, overlap, in a range. No condition.
-/
import Derived.Test.YtoeecaeaobfhmaaData
import Derived.Test.YtoeecaeaobfhmaaRows
namespace Go.Proofs.Ytoeecaeaobfhmaa
open Go.RowKit
set_option maxRecDepth 100000

abbrev CallD.val (c : CallD) : Value := .agg #[.int .i64 c.proc, .int .i64 c.obj, .int .i64 c.kind, .int .i64 c.arg, .int .i64 c.ret, .int .i64 c.fr, .int .i64 c.till]
def befB (c d : CallD) : Bool := decide (c.till < d.fr)
def lapB (c d : CallD) : Bool := !befB c d && !befB d c

theorem before_calls (c d : CallD) (b : Bool) (hb : befB c d = b) (w : World) : Calls Try.prog 59 #[c.val, d.val] w fun e w' => e = .returned (.bool b) ∧ Below w.heap.size w w' := by
  subst hb
  go_enter Try.func59, Try.ntmps59
  go_wp2
  go_ret
  exact ⟨rfl, (by repeat (first | exact Below.refl _ _ | assumption | refine below_alloc ?_ _ | refine below_trans' ?_ (by assumption) | refine Below.drew ?_))⟩
theorem implIsBefore_calls (c d : CallD) (b : Bool) (hb : befB c d = b) (w : World) : Calls Try.prog 50 #[c.val, d.val] w fun e w' => e = .returned (.bool b) ∧ Below w.heap.size w w' := by
  subst hb
  go_enter Try.func50, Try.ntmps50
  go_wp2
  go_ret
  exact ⟨rfl, (by repeat (first | exact Below.refl _ _ | assumption | refine below_alloc ?_ _ | refine below_trans' ?_ (by assumption) | refine Below.drew ?_))⟩
theorem implDoOverlap_calls (c d : CallD) (b : Bool) (hb : lapB c d = b) (w : World) : Calls Try.prog 67 #[c.val, d.val] w fun e w' => e = .returned (.bool b) ∧ Below w.heap.size w w' := by
  subst hb
  cases hb1 : befB c d
  · cases hb2 : befB d c
    · rw [show lapB c d = true by simp [lapB, hb1, hb2]]
      have H1 := Lib.hid hb1
      have H2 := Lib.hid hb2
      clear hb1 hb2
      go_enter Try.func67, Try.ntmps67
      go_wp2_with (go_at_call 50; refine (implIsBefore_calls _ _ false (by first | exact H1.out | exact H2.out) _).mono ?_; rintro e w1 ⟨rfl, hb⟩; obtain ⟨hc, _⟩ := bcell hb)
      go_ret
      exact ⟨rfl, (by repeat (first | exact Below.refl _ _ | assumption | refine below_alloc ?_ _ | refine below_trans' ?_ (by assumption) | refine Below.drew ?_))⟩
    · rw [show lapB c d = false by simp [lapB, hb2]]
      have H1 := Lib.hid hb1
      have H2 := Lib.hid hb2
      clear hb1 hb2
      go_enter Try.func67, Try.ntmps67
      go_wp2_with fail
      refine (implIsBefore_calls c d false H1.out _).mono ?_
      rintro e w1 ⟨rfl, hb⟩
      obtain ⟨hc, _⟩ := bcell hb
      go_wp2_with fail
      refine (implIsBefore_calls d c true H2.out _).mono ?_
      rintro e w2 ⟨rfl, hb⟩
      go_wp2_with fail
      go_ret
      exact ⟨rfl, (by repeat (first | exact Below.refl _ _ | assumption | refine below_alloc ?_ _ | refine below_trans' ?_ (by assumption) | refine Below.drew ?_))⟩
  · rw [show lapB c d = false by simp [lapB, hb1]]
    have H1 := Lib.hid hb1
    clear hb1
    go_enter Try.func67, Try.ntmps67
    go_wp2_with fail
    refine (implIsBefore_calls c d true H1.out _).mono ?_
    rintro e w1 ⟨rfl, hb⟩
    go_wp2_with fail
    go_ret
    exact ⟨rfl, (by repeat (first | exact Below.refl _ _ | assumption | refine below_alloc ?_ _ | refine below_trans' ?_ (by assumption) | refine Below.drew ?_))⟩

/-- 'toCall' copies a call, field by field. -/
theorem toCall_calls (c : CallD) (w : World) : Calls Try.prog 40 #[c.val] w fun e w' => e = .returned c.val ∧ Below w.heap.size w w' := by
  go_enter Try.func40, Try.ntmps40
  go_wp2
  exact bodyPost_ret (v := c.val) (by simp [results, Try.results40, go_sem]) rfl ⟨rfl, (by repeat (first | exact Below.refl _ _ | assumption | refine below_alloc ?_ _ | refine below_trans' ?_ (by assumption) | refine Below.drew ?_))⟩
end Go.Proofs.Ytoeecaeaobfhmaa
