/-
  The walks of the laws on constants, before and overlap: each returns true. No condition.
-/
import Derived.Test.YtooojfdjpmfalaaSmall
namespace Go.Proofs.Ytooojfdjpmfalaa
open Go.RowKit
set_option maxRecDepth 100000

theorem walk_FnExactConstants (w : World) : Calls Try.prog 3 #[] w fun e w' => e = .returned (.bool true) ∧ Below w.heap.size w w' := by
  go_enter Try.func3, Try.ntmps3
  go_wp2
  go_ret
  exact ⟨rfl, (by repeat (first | exact Below.refl _ _ | assumption | refine below_alloc ?_ _ | refine below_trans' ?_ (by assumption) | refine Below.drew ?_))⟩


theorem walk_FnExactIsBefore (c d : CallD) (w : World) (_wc : c.good) (_wd : d.good) : Calls Try.prog 4 #[c.val, d.val] w fun e w' => e = .returned (.bool true) ∧ Below w.heap.size w w' := by
  obtain ⟨b, hb⟩ : ∃ b, befB c d = b := ⟨_, rfl⟩
  have H := Lib.hid hb
  clear hb
  go_enter Try.func4, Try.ntmps4
  go_wp2_with fail
  refine wp_region_grow (by kernel_rfl) (by kernel_rfl) ?_
  repeat (go_big_quiet_step ((first | (go_at_call 16; exact Calls.ext_of (Nat.le_refl _) (toCall_calls _ _)) | (go_at_call 15; exact Calls.ext_of (Nat.le_refl _) (specIsBefore_calls _ _ b H.out _)))))
  refine wpQuiet_end ?_
  intro w1 hb1
  obtain ⟨hc1, _⟩ := bcell hb1
  have hsz := hb1.size
  simp only [World.size_alloc] at hsz
  have hl0 : w.heap.size < w1.heap.size := by omega
  have hl1 : w.heap.size + 1 < w1.heap.size := by omega
  clear hsz
  go_wp2_with fail
  refine wp_region_grow (by kernel_rfl) (by kernel_rfl) ?_
  repeat (go_big_quiet_step ((first | (go_at_call 16; exact Calls.ext_of (Nat.le_refl _) (toCall_calls _ _)) | (go_at_call 17; exact Calls.ext_of (Nat.le_refl _) (implIsBefore_calls _ _ b H.out _)))))
  refine wpQuiet_end ?_
  intro w2 hb2
  cases b
  all_goals
    go_wp2_with fail
    go_ret
    exact ⟨rfl, (by repeat (first | exact Below.refl _ _ | assumption | refine below_alloc ?_ _ | refine below_trans' ?_ (by assumption) | refine Below.drew ?_))⟩

theorem walk_FnExactDoOverlap (c d : CallD) (w : World) (_wc : c.good) (_wd : d.good) : Calls Try.prog 5 #[c.val, d.val] w fun e w' => e = .returned (.bool true) ∧ Below w.heap.size w w' := by
  obtain ⟨b, hb⟩ : ∃ b, lapB c d = b := ⟨_, rfl⟩
  have H := Lib.hid hb
  clear hb
  go_enter Try.func5, Try.ntmps5
  go_wp2_with fail
  refine wp_region_grow (by kernel_rfl) (by kernel_rfl) ?_
  repeat (go_big_quiet_step ((first | (go_at_call 16; exact Calls.ext_of (Nat.le_refl _) (toCall_calls _ _)) | (go_at_call 18; exact Calls.ext_of (Nat.le_refl _) (specDoOverlap_calls _ _ b H.out _)))))
  refine wpQuiet_end ?_
  intro w1 hb1
  obtain ⟨hc1, _⟩ := bcell hb1
  have hsz := hb1.size
  simp only [World.size_alloc] at hsz
  have hl0 : w.heap.size < w1.heap.size := by omega
  have hl1 : w.heap.size + 1 < w1.heap.size := by omega
  clear hsz
  go_wp2_with fail
  refine wp_region_grow (by kernel_rfl) (by kernel_rfl) ?_
  repeat (go_big_quiet_step ((first | (go_at_call 16; exact Calls.ext_of (Nat.le_refl _) (toCall_calls _ _)) | (go_at_call 19; exact Calls.ext_of (Nat.le_refl _) (implDoOverlap_calls _ _ b H.out _)))))
  refine wpQuiet_end ?_
  intro w2 hb2
  cases b
  all_goals
    go_wp2_with fail
    go_ret
    exact ⟨rfl, (by repeat (first | exact Below.refl _ _ | assumption | refine below_alloc ?_ _ | refine below_trans' ?_ (by assumption) | refine Below.drew ?_))⟩
end Go.Proofs.Ytooojfdjpmfalaa
