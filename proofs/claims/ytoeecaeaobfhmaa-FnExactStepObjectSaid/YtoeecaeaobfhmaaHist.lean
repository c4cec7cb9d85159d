/-
  What the program and the reference answer on whether calls are a history: the same Lean function. No condition but lengths of at most 2 to the 20.
-/
import Derived.Test.YtoeecaeaobfhmaaCallS
import Derived.Test.YtoeecaeaobfhmaaHistP
import Derived.BigGuardPart
namespace Go.Proofs.Ytoeecaeaobfhmaa
open Go.RowKit
set_option maxRecDepth 100000

theorem isCall_calls (c : CallD) (b : Bool) (hb : callB c = b) (w : World) : Calls Try.prog 74 #[c.val] w fun e w' => e = .returned (.bool b) ∧ Below w.heap.size w w' := by
  have H := Lib.hid hb
  clear hb
  go_enter Try.func74, Try.ntmps74
  go_wp2_with (go_at_call 78; refine (within_calls _ _ _ _).mono ?_; rintro e w' ⟨rfl, rfl⟩)
  all_goals
    go_ret
    refine ⟨?_, (by repeat (first | exact Below.refl _ _ | assumption | refine below_alloc ?_ _ | refine below_trans' ?_ (by assumption) | refine Below.drew ?_))⟩
    simp only [Ending.returned.injEq]
    rw [← H.out]
    simp [callB, *]
theorem wrap_fr {n : Int} (h : inB n 0 30 = true) : wrap64 (n + 1) = n + 1 := by
  simp only [inB, decide_eq_true_eq] at h
  exact IntWalk.wrap64_in _ ⟨by omega, by omega⟩
theorem validCall_calls (c : CallD) (b : Bool) (hb : callB c = b) (w : World) : Calls Try.prog 70 #[c.val] w fun e w' => e = .returned (.bool b) ∧ Below w.heap.size w w' := by
  have H := Lib.hid hb
  clear hb
  go_enter Try.func70, Try.ntmps70
  go_wp2_with (go_at_call 76; refine (inRange_calls _ _ _ _).mono ?_; rintro e w' ⟨rfl, rfl⟩)
  all_goals
    go_ret
    refine ⟨?_, (by repeat (first | exact Below.refl _ _ | assumption | refine below_alloc ?_ _ | refine below_trans' ?_ (by assumption) | refine Below.drew ?_))⟩
    simp only [Ending.returned.injEq]
    rw [← H.out, callB_ref]
    try rw [wrap_fr (by assumption)] at *
    simp [*]

set_option maxHeartbeats 2000000 in
theorem implValid_calls (cs : List CallD) (A : Option Addr) (cap : Nat) (w : World) (hr : RowCalls w A cs) (hl : cs.length ≤ 1048576) (hcap : cs.length ≤ cap) (b : Bool) (hb : histB cs = b) :
    Calls Try.prog 44 #[.slice A cs.length cap] w fun e w' => e = .returned (.bool b) ∧ Below w.heap.size w w' := by
  have HR := Lib.hid hr
  have HV := Lib.hid hb
  clear hr hb
  generalize hn : cs.length = n at *
  have Hn := Lib.hid hn
  clear hn
  have hlen : (n : Int) ≤ 1048576 := by omega
  by_cases h6 : 6 < n
  · have e1 : b = false := by rw [← HV.out]; exact histB_long (by rw [Hn.out]; exact h6)
    subst e1
    have h6' : (6 : Int) < (n : Int) := by omega
    go_enter Try.func44, Try.ntmps44
    go_wp2
    go_ret
    exact ⟨rfl, Below.refl _ _⟩
  have h6' : (n : Int) ≤ 6 := by omega
  go_enter Try.func44, Try.ntmps44
  go_wp2
  go_loopw [12] (fun i wr => ∃ k : Nat, k ≤ n ∧ i = .int .i64 k ∧ Below w.heap.size w wr ∧ Hid ((List.range k).all (rowB cs) = true)) (fun i _ => n - (intOf i).toNat)
  case atStart => exact ⟨0, by omega, rfl, Below.refl _ _, rfl⟩
  case round =>
    obtain ⟨i, hi, rfl, hb, HG⟩ := hrel
    obtain ⟨wo, rfl⟩ : ∃ wo : World, wo = wr := ⟨_, rfl⟩
    by_cases hlt : i < n
    · obtain ⟨b0, off, rfl, hat⟩ := HR.out (by have := Hn.out; omega)
      obtain ⟨c, hc⟩ : ∃ c, cs[i]? = some c := ⟨cs[i]'(by have := Hn.out; omega), List.getElem?_eq_getElem _⟩
      obtain ⟨x0, x1, x2, x3, x4, x5, x6⟩ := (RowCalls.at7 hat hc).below hb
      have Hat := Lib.hid hat
      have Hc := Lib.hid (hAt_eq hc)
      have Hb := Lib.hid hb
      clear HR hat hc hb
      have hi0 : (0 : Int) ≤ (i : Int) := by omega
      have hin : (i : Int) < (n : Int) := by omega
      have hic : (i : Int) ≤ (cap : Int) := by omega
      cases hcb : callB c
      · have hcb := Lib.hid hcb
        have e1 : b = false := by rw [← HV.out]; exact histB_row (i := i) (by rw [Hn.out]; exact hlt) (rowB_call (by rw [Hc.out]; exact hcb.out))
        subst e1
        go_wp2_with (go_at_call 74; refine (isCall_calls _ _ hcb.out _).mono ?_; rintro e w1 ⟨rfl, hb1⟩)
        go_ret
        have hb := Hb.out
        exact ⟨rfl, (by repeat (first | exact Below.refl _ _ | assumption | refine below_alloc ?_ _ | refine below_trans' ?_ (by assumption) | refine Below.drew ?_))⟩
      · have hcb := Lib.hid hcb
        go_wp2_with (go_at_call 74; refine (isCall_calls _ _ hcb.out _).mono ?_; rintro e w1 ⟨rfl, hb1⟩; obtain ⟨hc1, _⟩ := bcell hb1)
        have hz1 : wo.heap.size < w1.heap.size := by have := hb1.size; simp at this; omega
        have hcc : At7 w1 wo.heap.size 0 c := by
          refine ⟨?_, ?_, ?_, ?_, ?_, ?_, ?_⟩ <;> (rw [hc1 _ _ (by simp)]; simp)
        have hbw1 : Below w.heap.size w w1 := by have hb := Hb.out; exact (by repeat (first | exact Below.refl _ _ | assumption | refine below_alloc ?_ _ | refine below_trans' ?_ (by assumption) | refine Below.drew ?_))
        clear hc1 hb1 x0 x1 x2 x3 x4 x5 x6
        have Hcc := Lib.hid hcc
        have Hbw1 := Lib.hid hbw1
        clear hcc hbw1
        go_loopw [24] (fun j wq => ∃ k : Nat, k ≤ i ∧ j = .int .i64 k ∧ Below w1.heap.size w1 wq ∧ Hid ((List.range k).all (fun k => pairB (hAt cs k) (hAt cs i)) = true)) (fun j _ => i - (intOf j).toNat)
        case atStart => exact ⟨0, by omega, rfl, Below.refl _ _, rfl⟩
        case round =>
          obtain ⟨j, hj, rfl, hb2, HP⟩ := hrel
          by_cases hjlt : j < i
          · obtain ⟨o, ho⟩ : ∃ o, cs[j]? = some o := ⟨cs[j]'(by have := Hn.out; omega), List.getElem?_eq_getElem _⟩
            have hbw2 : Below w.heap.size w wr := below_trans' Hbw1.out hb2
            obtain ⟨x0, x1, x2, x3, x4, x5, x6⟩ := Hcc.out.below hb2
            obtain ⟨y0, y1, y2, y3, y4, y5, y6⟩ := (RowCalls.at7 Hat.out ho).below hbw2
            have hzz : wo.heap.size < wr.heap.size := Nat.lt_of_lt_of_le hz1 hb2.size
            have Ho := Lib.hid (hAt_eq ho)
            have Hb2 := Lib.hid hb2
            clear ho hb2 hbw2
            have hj0 : (0 : Int) ≤ (j : Int) := by omega
            have hji : (j : Int) < (i : Int) := by omega
            rcases or_ways (c.fr == o.fr) (c.fr == o.till) (c.till == o.fr) (c.till == o.till) (c.proc == o.proc) (lapB c o) with q1 | ⟨q1, q2⟩ | ⟨q1, q2, q3⟩ | ⟨q1, q2, q3, q4⟩ | ⟨q1, q2, q3, q4, q5⟩ | ⟨q1, q2, q3, q4, q5, q6⟩ | ⟨q1, q2, q3, q4, q5, q6⟩
            all_goals
              go_wp2_with (go_at_call 67; refine (implDoOverlap_calls c o (lapB c o) rfl _).mono ?_; rintro e w3 ⟨rfl, hb3⟩)
              first
                | (go_ret
                   have e1 : b = false := by
                     rw [← HV.out]
                     refine histB_row (i := i) (by rw [Hn.out]; exact hlt) (rowB_pair hjlt ?_)
                     rw [Ho.out, Hc.out]
                     simp [pairB, *]
                   rw [e1]
                   have hb := Hbw1.out
                   have hb2 := Hb2.out
                   exact ⟨rfl, (by repeat (first | exact Below.refl _ _ | assumption | refine below_alloc ?_ _ | refine below_trans' ?_ (by assumption) | refine Below.drew ?_))⟩)
                | (go_roundw
                   case rel =>
                     have hb2 := Hb2.out
                     refine ⟨j + 1, by omega, by go_num, (by repeat (first | exact Below.refl _ _ | assumption | refine below_alloc ?_ _ | refine below_trans' ?_ (by assumption) | refine Below.drew ?_)), ?_⟩
                     show _ = true
                     rw [all_range_succ, HP.out, Ho.out, Hc.out]
                     simp [pairB, *]
                   case measure => simp [intOf]; omega)
                | (have hb2 := Hb2.out
                   refine ⟨⟨j + 1, by omega, by go_num, (by repeat (first | exact Below.refl _ _ | assumption | refine below_alloc ?_ _ | refine below_trans' ?_ (by assumption) | refine Below.drew ?_)), ?_⟩, by simp [intOf]; omega⟩
                   show _ = true
                   rw [all_range_succ, HP.out, Ho.out, Hc.out]
                   simp [pairB, *])
          · have hji : j = i := by omega
            subst hji
            have hlt' : ¬ ((j : Int) < (j : Int)) := by omega
            go_wp2
            go_roundw
            case rel =>
              refine ⟨j + 1, by omega, by go_num, below_trans' Hbw1.out hb2, ?_⟩
              show _ = true
              rw [all_range_succ, HG.out, rowB_true (by rw [Hc.out]; exact hcb.out) HP.out]; rfl
            case measure => simp [intOf]; omega
    · have hin : i = n := by omega
      subst hin
      have hlt' : ¬ ((i : Int) < (i : Int)) := by omega
      have e1 : b = true := by rw [← HV.out]; exact histB_true (by rw [Hn.out]; omega) (by rw [Hn.out]; exact HG.out)
      subst e1
      go_wp2
      go_ret
      exact ⟨rfl, hb⟩

/-- The reference's own test on two calls, o ahead of c. -/
theorem pairB_ref (o c : CallD) : pairB o c = (!(o.fr == c.fr) && !(o.fr == c.till) && !(o.till == c.fr) && !(o.till == c.till) && !(o.proc == c.proc && (decide (c.fr < o.till) && decide (o.fr < c.till)))) := by
  rw [Bool.eq_iff_iff]
  simp only [pairB, lapB, befB, Bool.and_eq_true, Bool.not_eq_true', beq_eq_false_iff_ne, ne_eq, Bool.and_eq_false_iff, Bool.not_eq_false', decide_eq_true_eq, decide_eq_false_iff_not]
  omega

set_option maxHeartbeats 4000000 in
theorem specValid_calls (cs : List CallD) (A : Option Addr) (cap : Nat) (w : World) (hr : RowCalls w A cs) (hl : cs.length ≤ 1048576) (b : Bool) (hb : histB cs = b) :
    Calls Try.prog 42 #[.slice A cs.length cap] w fun e w' => e = .returned (.bool b) ∧ Below w.heap.size w w' := by
  have HR := Lib.hid hr
  have HV := Lib.hid hb
  clear hr hb
  generalize hn : cs.length = n at *
  have Hn := Lib.hid hn
  clear hn
  have hlen : (n : Int) ≤ 1048576 := by omega
  go_enter Try.func42, Try.ntmps42
  go_wp2
  go_loopw [3] (fun i wr => ∃ k : Nat, k ≤ n ∧ i = .int .i64 k ∧ Below w.heap.size w wr ∧ Hid ((List.range k).all (rowB cs) = true)) (fun i _ => n - (intOf i).toNat)
  case atStart => exact ⟨0, by omega, rfl, Below.refl _ _, rfl⟩
  case round =>
    obtain ⟨i, hi, rfl, hb, HG⟩ := hrel
    obtain ⟨wo, rfl⟩ : ∃ wo : World, wo = wr := ⟨_, rfl⟩
    by_cases hlt : i < n
    · obtain ⟨b0, off, rfl, hat⟩ := HR.out (by have := Hn.out; omega)
      obtain ⟨c, hc⟩ : ∃ c, cs[i]? = some c := ⟨cs[i]'(by have := Hn.out; omega), List.getElem?_eq_getElem _⟩
      obtain ⟨x0, x1, x2, x3, x4, x5, x6⟩ := (RowCalls.at7 hat hc).below hb
      have Hat := Lib.hid hat
      have Hci := Lib.hid hc
      have Hc := Lib.hid (hAt_eq hc)
      have Hb := Lib.hid hb
      clear HR hat hc hb
      have hi0 : (0 : Int) ≤ (i : Int) := by omega
      have hin : (i : Int) < (n : Int) := by omega
      cases hcb : callB c
      · have hcb := Lib.hid hcb
        have e1 : b = false := by rw [← HV.out]; exact histB_row (i := i) (by rw [Hn.out]; exact hlt) (rowB_call (by rw [Hc.out]; exact hcb.out))
        subst e1
        go_wp2_with (go_at_call 70; refine (validCall_calls _ _ hcb.out _).mono ?_; rintro e w1 ⟨rfl, hb1⟩)
        go_ret
        have hb := Hb.out
        exact ⟨rfl, (by repeat (first | exact Below.refl _ _ | assumption | refine below_alloc ?_ _ | refine below_trans' ?_ (by assumption) | refine Below.drew ?_))⟩
      · have hcb := Lib.hid hcb
        go_wp2_with (go_at_call 70; refine (validCall_calls _ _ hcb.out _).mono ?_; rintro e w1 ⟨rfl, hb1⟩)
        have hbw1 : Below w.heap.size w w1 := by have hb := Hb.out; exact (by repeat (first | exact Below.refl _ _ | assumption | refine below_alloc ?_ _ | refine below_trans' ?_ (by assumption) | refine Below.drew ?_))
        clear hb1 x0 x1 x2 x3 x4 x5 x6
        have Hbw1 := Lib.hid hbw1
        clear hbw1
        go_loopw [4] (fun j wq => ∃ k : Nat, k ≤ i ∧ j = .int .i64 k ∧ Below w.heap.size w wq ∧ Hid ((List.range k).all (fun k => pairB (hAt cs k) (hAt cs i)) = true)) (fun j _ => i - (intOf j).toNat)
        case atStart => exact ⟨0, by omega, rfl, Hbw1.out, rfl⟩
        case round =>
          obtain ⟨j, hj, rfl, hb2, HP⟩ := hrel
          by_cases hjlt : j < i
          · obtain ⟨o, ho⟩ : ∃ o, cs[j]? = some o := ⟨cs[j]'(by have := Hn.out; omega), List.getElem?_eq_getElem _⟩
            obtain ⟨x0, x1, x2, x3, x4, x5, x6⟩ := (RowCalls.at7 Hat.out Hci.out).below hb2
            obtain ⟨y0, y1, y2, y3, y4, y5, y6⟩ := (RowCalls.at7 Hat.out ho).below hb2
            have hbz : b0 < wr.heap.size := World.block_lt_of_cell? _ _ x0
            have Ho := Lib.hid (hAt_eq ho)
            have Hb2 := Lib.hid hb2
            clear ho hb2
            have hj0 : (0 : Int) ≤ (j : Int) := by omega
            have hjn : (j : Int) < (n : Int) := by omega
            have hji : (j : Int) < (i : Int) := by omega
            rcases or_ways2 (o.fr == c.fr) (o.fr == c.till) (o.till == c.fr) (o.till == c.till) (o.proc == c.proc) (decide (c.fr < o.till)) (decide (o.fr < c.till)) with q1 | ⟨q1, q2⟩ | ⟨q1, q2, q3⟩ | ⟨q1, q2, q3, q4⟩ | ⟨q1, q2, q3, q4, q5⟩ | ⟨q1, q2, q3, q4, q5, q6⟩ | ⟨q1, q2, q3, q4, q5, q6, q7⟩ | ⟨q1, q2, q3, q4, q5, q6, q7⟩
            all_goals
              go_wp2_with fail
              refine wp_region_grow (by kernel_rfl) (by kernel_rfl) ?_
              repeat (go_big_quiet_step (fail))
              refine wpQuiet_end ?_
              intro w3 hb3
              go_wp2_with fail
              first
                | (go_ret
                   have e1 : b = false := by
                     rw [← HV.out]
                     refine histB_row (i := i) (by rw [Hn.out]; exact hlt) (rowB_pair hjlt ?_)
                     rw [Ho.out, Hc.out, pairB_ref]
                     simp [*]
                   rw [e1]
                   have hb2 := Hb2.out
                   exact ⟨rfl, (by repeat (first | exact Below.refl _ _ | assumption | refine below_alloc ?_ _ | refine below_trans' ?_ (by assumption) | refine Below.drew ?_))⟩)
                | (have hbz3 : b0 < w3.heap.size := Nat.lt_of_lt_of_le hbz hb3.size
                   obtain ⟨hc3, _⟩ := bcell hb3
                   refine wp_region_grow (by kernel_rfl) (by kernel_rfl) ?_
                   repeat (go_big_quiet_step (fail))
                   refine wpQuiet_end ?_
                   intro w4 hb4
                   go_wp2_with fail
                   first
                     | (go_ret
                        have e1 : b = false := by
                          rw [← HV.out]
                          refine histB_row (i := i) (by rw [Hn.out]; exact hlt) (rowB_pair hjlt ?_)
                          rw [Ho.out, Hc.out, pairB_ref]
                          simp [*]
                        rw [e1]
                        have hb2 := Hb2.out
                        exact ⟨rfl, (by repeat (first | exact Below.refl _ _ | assumption | refine below_alloc ?_ _ | refine below_trans' ?_ (by assumption) | refine Below.drew ?_))⟩)
                     | (go_roundw
                        case rel =>
                          have hb2 := Hb2.out
                          refine ⟨j + 1, by omega, by go_num, (by repeat (first | exact Below.refl _ _ | assumption | refine below_alloc ?_ _ | refine below_trans' ?_ (by assumption) | refine Below.drew ?_)), ?_⟩
                          show _ = true
                          rw [all_range_succ, HP.out, Ho.out, Hc.out, pairB_ref]
                          simp [*]
                        case measure => simp [intOf]; omega)
                     | (have hb2 := Hb2.out
                        refine ⟨⟨j + 1, by omega, by go_num, (by repeat (first | exact Below.refl _ _ | assumption | refine below_alloc ?_ _ | refine below_trans' ?_ (by assumption) | refine Below.drew ?_)), ?_⟩, by simp [intOf]; omega⟩
                        show _ = true
                        rw [all_range_succ, HP.out, Ho.out, Hc.out, pairB_ref]
                        simp [*]))
          · have hji : j = i := by omega
            subst hji
            have hlt' : ¬ ((j : Int) < (j : Int)) := by omega
            go_wp2
            go_roundw
            case rel =>
              refine ⟨j + 1, by omega, by go_num, hb2, ?_⟩
              show _ = true
              rw [all_range_succ, HG.out, rowB_true (by rw [Hc.out]; exact hcb.out) HP.out]; rfl
            case measure => simp [intOf]; omega
    · have hin : i = n := by omega
      subst hin
      have hlt' : ¬ ((i : Int) < (i : Int)) := by omega
      by_cases h6 : i ≤ 6
      · have e1 : b = true := by rw [← HV.out]; exact histB_true (by rw [Hn.out]; omega) (by rw [Hn.out]; exact HG.out)
        subst e1
        have h6' : (i : Int) ≤ 6 := by omega
        go_wp2
        go_ret
        exact ⟨rfl, hb⟩
      · have e1 : b = false := by rw [← HV.out]; exact histB_long (by rw [Hn.out]; omega)
        subst e1
        have h6' : ¬ ((i : Int) ≤ 6) := by omega
        go_wp2
        go_ret
        exact ⟨rfl, hb⟩
end Go.Proofs.Ytoeecaeaobfhmaa
