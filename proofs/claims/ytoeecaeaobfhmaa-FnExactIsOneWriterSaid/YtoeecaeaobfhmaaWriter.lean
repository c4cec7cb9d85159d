/-
  What the program and the reference answer on whether calls are a history of one writer: the same Lean function. No condition but lengths of at most 2 to the 20.
-/
import Derived.Test.YtoeecaeaobfhmaaHist
import Derived.Test.YtoeecaeaobfhmaaWriterP
namespace Go.Proofs.Ytoeecaeaobfhmaa
open Go.RowKit
set_option maxRecDepth 100000

set_option maxHeartbeats 4000000 in
theorem implIsOneWriter_calls (cs : List CallD) (A : Option Addr) (cap : Nat) (w : World) (hr : RowCalls w A cs) (hl : cs.length ≤ 1048576) (hcap : cs.length ≤ cap) (b : Bool) (hb : writerB cs = b) :
    Calls Try.prog 32 #[.slice A cs.length cap] w fun e w' => e = .returned (.bool b) ∧ Below w.heap.size w w' := by
  have HR := Lib.hid hr
  have HV := Lib.hid hb
  clear hr hb
  have HC := Lib.hid (fun (W : World) (B : Option Addr) (hW : RowCalls W B cs) => implValid_calls cs B cap W hW hl hcap _ rfl)
  generalize hn : cs.length = n at *
  have Hn := Lib.hid hn
  clear hn
  have hlen : (n : Int) ≤ 1048576 := by omega
  go_enter Try.func32, Try.ntmps32
  go_wp2
  go_loopw [9] (fun i wr => ∃ k : Nat, k ≤ n ∧ i = .int .i64 k ∧ Below w.heap.size w wr ∧ Hid ((List.range k).all (rowW cs) = true)) (fun i _ => n - (intOf i).toNat)
  case atStart => exact ⟨0, by omega, rfl, Below.refl _ _, rfl⟩
  case round =>
    obtain ⟨i, hi, rfl, hb, HG⟩ := hrel
    obtain ⟨wo, rfl⟩ : ∃ wo : World, wo = wr := ⟨_, rfl⟩
    by_cases hlt : i < n
    · obtain ⟨b0, off, rfl, hat⟩ := HR.out (by have := Hn.out; omega)
      obtain ⟨c, hc⟩ : ∃ c, cs[i]? = some c := ⟨cs[i]'(by have := Hn.out; omega), List.getElem?_eq_getElem _⟩
      obtain ⟨x0, x1, x2, x3, x4, x5, x6⟩ := (RowCalls.at7 hat hc).below hb
      have Hat := Lib.hid hat
      have Hc := Lib.hid (hAt_eq hc)
      have Hb := Lib.hid hb
      have hfalse : soleB c = false → b = false := fun h => by rw [← HV.out]; exact writerB_row (i := i) (by rw [Hn.out]; exact hlt) (rowW_sole (by rw [Hc.out]; exact h))
      have HF := Lib.hid hfalse
      clear HR hat hc hb hfalse
      have hi0 : (0 : Int) ≤ (i : Int) := by omega
      have hin : (i : Int) < (n : Int) := by omega
      have hic : (i : Int) ≤ (cap : Int) := by omega
      have hrefl : Below (wo.heap.size + 1) (wo.alloc (.cells #[.int .i64 c.proc, .int .i64 c.obj, .int .i64 c.kind, .int .i64 c.arg, .int .i64 c.ret, .int .i64 c.fr, .int .i64 c.till] 45)) (wo.alloc (.cells #[.int .i64 c.proc, .int .i64 c.obj, .int .i64 c.kind, .int .i64 c.arg, .int .i64 c.ret, .int .i64 c.fr, .int .i64 c.till] 45)) := Below.refl _ _
      have Hrefl := Lib.hid hrefl
      clear hrefl
      rcases sole_ways (c.obj != 0) (c.kind == 1) (c.kind != 0) (c.proc != 0) (c.ret != 0) (decide (c.arg < 1)) with q1 | ⟨q1, q2⟩ | ⟨q1, q2, q3⟩ | ⟨q1, q2, q3, q4⟩ | ⟨q1, q2, q3, q4, q5⟩ | ⟨q1, q2, q3, q4, q5, q6⟩ | ⟨q1, q2, q3, q4, q5, q6⟩
      rotate_right 1
      · skip
        have hk0 : (c.kind == 0) = true := by simpa using q3
        have Hk0 := Lib.hid hk0
        have Hsole := Lib.hid (show soleB c = true by simp [soleB, q1, q2, q4, q5, q6])
        clear hk0
        go_wp2
        clear x0 x1 x2 x3 x4 x5 x6
        go_loopw [42] (fun j wq => ∃ k : Nat, k ≤ i ∧ j = .int .i64 k ∧ Below (wo.heap.size + 1) (wo.alloc (.cells #[.int .i64 c.proc, .int .i64 c.obj, .int .i64 c.kind, .int .i64 c.arg, .int .i64 c.ret, .int .i64 c.fr, .int .i64 c.till] 45)) wq ∧ Hid ((List.range k).all (fun k => !twinB (hAt cs i) (hAt cs k)) = true)) (fun j _ => i - (intOf j).toNat)
        case atStart => exact ⟨0, by omega, rfl, Hrefl.out, rfl⟩
        case round =>
          obtain ⟨j, hj, rfl, hb2, HP⟩ := hrel
          have hz2 : wo.heap.size < wr.heap.size := by have := hb2.size; simp at this; omega
          have hbw2 : Below w.heap.size w wr := by
            have hb := Hb.out
            exact ((below_alloc hb _).trans (hb2.mono (by have := hb.size; omega)))
          by_cases hjlt : j < i
          · obtain ⟨o, ho⟩ : ∃ o, cs[j]? = some o := ⟨cs[j]'(by have := Hn.out; omega), List.getElem?_eq_getElem _⟩
            obtain ⟨hc2, _⟩ := bcell (W := wo.alloc (.cells #[.int .i64 c.proc, .int .i64 c.obj, .int .i64 c.kind, .int .i64 c.arg, .int .i64 c.ret, .int .i64 c.fr, .int .i64 c.till] 45)) (by simpa using hb2)
            have hcc : At7 wr wo.heap.size 0 c := by
              refine ⟨?_, ?_, ?_, ?_, ?_, ?_, ?_⟩ <;> (rw [hc2 _ _ (by simp)]; simp)
            obtain ⟨x0, x1, x2, x3, x4, x5, x6⟩ := hcc
            obtain ⟨y0, y1, y2, y3, y4, y5, y6⟩ := (RowCalls.at7 Hat.out ho).below hbw2
            have Ho := Lib.hid (hAt_eq ho)
            have Hb2 := Lib.hid hb2
            have Hbw2 := Lib.hid hbw2
            clear ho hb2 hbw2 hc2 q1 q2 q3 q4 q5 q6
            have hj0 : (0 : Int) ≤ (j : Int) := by omega
            have hji : (j : Int) < (i : Int) := by omega
            rcases two_ways (o.kind == 0) (o.arg == c.arg) with r1 | ⟨r1, r2⟩ | ⟨r1, r2⟩
            rotate_right 1
            · skip
              have e1 : b = false := by rw [← HV.out]; exact writerB_row (i := i) (by rw [Hn.out]; exact hlt) (rowW_twin hjlt (by rw [Ho.out, Hc.out, twinB, Hk0.out, r1, r2]; rfl))
              subst e1
              go_wp2
              go_ret
              have hbw2 := Hbw2.out
              exact ⟨rfl, (by repeat (first | exact Below.refl _ _ | assumption | refine below_alloc ?_ _ | refine below_trans' ?_ (by assumption) | refine Below.drew ?_))⟩
            all_goals
              go_wp2
              go_roundw
              case rel =>
                refine ⟨j + 1, by omega, by go_num, below_alloc' Hb2.out _, ?_⟩
                show _ = true
                rw [all_range_succ, HP.out, Ho.out, Hc.out, twinB]
                simp [*]
              case measure => simp [intOf]; omega
          · have hji : j = i := by omega
            subst hji
            have hlt' : ¬ ((j : Int) < (j : Int)) := by omega
            go_wp2
            go_roundw
            case rel =>
              refine ⟨j + 1, by omega, by go_num, hbw2, ?_⟩
              show _ = true
              rw [all_range_succ, HG.out, rowW_true (by rw [Hc.out]; exact Hsole.out) HP.out]; rfl
            case measure => simp [intOf]; omega
      all_goals
        go_wp2
        first
          | (go_ret
             have e1 := HF.out (by simp [soleB, *])
             rw [e1]
             have hb := Hb.out
             exact ⟨rfl, (by repeat (first | exact Below.refl _ _ | assumption | refine below_alloc ?_ _ | refine below_trans' ?_ (by assumption) | refine Below.drew ?_))⟩)
          | (go_roundw
             case rel =>
               have hb := Hb.out
               refine ⟨i + 1, by omega, by go_num, (by repeat (first | exact Below.refl _ _ | assumption | refine below_alloc ?_ _ | refine below_trans' ?_ (by assumption) | refine Below.drew ?_)), ?_⟩
               show _ = true
               rw [all_range_succ, HG.out, rowW_true (by rw [Hc.out]; simp [soleB, *]) (by rw [Hc.out]; exact twin_skip (by simp [*]))]; rfl
             case measure => simp [intOf]; omega)
    · have hge : ¬ ((i : Int) < (n : Int)) := by omega
      have e1 : histB cs = b := by rw [← HV.out, writerB, show soleAll cs = true by rw [soleAll, Hn.out, show n = i by omega]; exact HG.out]; rfl
      have H1 := Lib.hid e1
      clear e1
      go_wp2_with fail
      refine (HC.out _ _ (HR.out.below hb)).mono ?_
      rintro e w3 ⟨rfl, hb3⟩
      go_wp2_with fail
      go_ret
      exact ⟨by first | rfl | (rw [H1.out]; rfl), (by repeat (first | exact Below.refl _ _ | assumption | refine below_alloc ?_ _ | refine below_trans' ?_ (by assumption) | refine Below.drew ?_))⟩

set_option maxHeartbeats 4000000 in
theorem specWriter_calls (cs : List CallD) (A : Option Addr) (cap : Nat) (w : World) (hr : RowCalls w A cs) (hl : cs.length ≤ 1048576) (b : Bool) (hb : writerB cs = b) :
    Calls Try.prog 58 #[.slice A cs.length cap] w fun e w' => e = .returned (.bool b) ∧ Below w.heap.size w w' := by
  have HR := Lib.hid hr
  have HV := Lib.hid hb
  clear hr hb
  cases hv : histB cs
  · have HH := Lib.hid hv
    have e1 : b = false := by rw [← HV.out, writerB, hv, Bool.and_false]
    subst e1
    clear hv
    go_enter Try.func58, Try.ntmps58
    go_wp2_with (go_at_call 42; refine (specValid_calls cs A cap _ HR.out hl false HH.out).mono ?_; rintro e w1 ⟨rfl, hb1⟩)
    go_ret
    exact ⟨rfl, hb1⟩
  have HH := Lib.hid hv
  clear hv
  have HC := Lib.hid (specValid_calls cs A cap w HR.out hl true HH.out)
  generalize hn : cs.length = n at *
  have Hn := Lib.hid hn
  clear hn
  have hlen : (n : Int) ≤ 1048576 := by omega
  go_enter Try.func58, Try.ntmps58
  go_wp2_with (go_at_call 42; refine HC.out.mono ?_; rintro e w1 ⟨rfl, hb1⟩)
  go_loopw [3] (fun i wr => ∃ k : Nat, k ≤ n ∧ i = .int .i64 k ∧ Below w.heap.size w wr ∧ Hid ((List.range k).all (rowW cs) = true)) (fun i _ => n - (intOf i).toNat)
  case atStart => exact ⟨0, by omega, rfl, hb1, rfl⟩
  case round =>
    clear hb1
    obtain ⟨i, hi, rfl, hb, HG⟩ := hrel
    obtain ⟨wo, rfl⟩ : ∃ wo : World, wo = wr := ⟨_, rfl⟩
    by_cases hlt : i < n
    · obtain ⟨b0, off, rfl, hat⟩ := HR.out (by have := Hn.out; omega)
      obtain ⟨c, hc⟩ : ∃ c, cs[i]? = some c := ⟨cs[i]'(by have := Hn.out; omega), List.getElem?_eq_getElem _⟩
      obtain ⟨x0, x1, x2, x3, x4, x5, x6⟩ := (RowCalls.at7 hat hc).below hb
      have hcb := histB_call HH.out hc
      have Hat := Lib.hid hat
      have Hci := Lib.hid hc
      have Hc := Lib.hid (hAt_eq hc)
      have Hb := Lib.hid hb
      have hfalse : soleB c = false → b = false := fun h => by rw [← HV.out]; exact writerB_row (i := i) (by rw [Hn.out]; exact hlt) (rowW_sole (by rw [Hc.out]; exact h))
      rw [soleB_ref hcb] at hfalse
      have HF := Lib.hid hfalse
      have Hcb := Lib.hid hcb
      clear HR hat hc hb hfalse hcb
      have hi0 : (0 : Int) ≤ (i : Int) := by omega
      have hin : (i : Int) < (n : Int) := by omega
      rcases sole_ways2 (c.obj != 0) (c.kind == 1) (c.kind == 0) (c.proc != 0) (c.arg == 0) (c.ret != 0) with q1 | ⟨q1, q2⟩ | ⟨q1, q2, q3⟩ | ⟨q1, q2, q3, q4⟩ | ⟨q1, q2, q3, q4, q5⟩ | ⟨q1, q2, q3, q4, q5, q6⟩ | ⟨q1, q2, q3, q4, q5, q6⟩
      all_goals
        first
          | (go_wp2
             go_ret
             have e1 := HF.out (by simp [*])
             rw [e1]
             have hb := Hb.out
             exact ⟨rfl, (by repeat (first | exact Below.refl _ _ | assumption | refine below_alloc ?_ _ | refine below_trans' ?_ (by assumption) | refine Below.drew ?_))⟩)
          | (have Hsole : Hid (soleB c = true) := by show _ = true; rw [soleB_ref Hcb.out]; simp [*]
             have Hq := Lib.hid q3
             go_wp2
             clear x0 x1 x2 x3 x4 x5 x6
             go_loopw [4] (fun j wq => ∃ k : Nat, k ≤ i ∧ j = .int .i64 k ∧ Below w.heap.size w wq ∧ Hid ((List.range k).all (fun k => !twinB (hAt cs i) (hAt cs k)) = true)) (fun j _ => i - (intOf j).toNat)
             case atStart => exact ⟨0, by omega, rfl, Hb.out, rfl⟩
             case round =>
               obtain ⟨j, hj, rfl, hb2, HP⟩ := hrel
               by_cases hjlt : j < i
               · obtain ⟨o, ho⟩ : ∃ o, cs[j]? = some o := ⟨cs[j]'(by have := Hn.out; omega), List.getElem?_eq_getElem _⟩
                 obtain ⟨x0, x1, x2, x3, x4, x5, x6⟩ := (RowCalls.at7 Hat.out Hci.out).below hb2
                 obtain ⟨y0, y1, y2, y3, y4, y5, y6⟩ := (RowCalls.at7 Hat.out ho).below hb2
                 have hbz : b0 < wr.heap.size := World.block_lt_of_cell? _ _ x0
                 have Ho := Lib.hid (hAt_eq ho)
                 have Hb2 := Lib.hid hb2
                 clear ho hb2
                 have hj0 : (0 : Int) ≤ (j : Int) := by omega
                 have hjn : (j : Int) < (n : Int) := by omega
                 have hji : (j : Int) < (i : Int) := by omega
                 rcases two_ways (o.kind == 0) (c.arg == o.arg) with r1 | ⟨r1, r2⟩ | ⟨r1, r2⟩
                 all_goals
                   have Htw := Lib.hid (show twinB c o = (c.kind == 0 && (o.kind == 0 && c.arg == o.arg)) by rw [twinB, BEq.comm (a := o.arg)])
                   go_wp2_with fail
                   refine wp_region_grow (by kernel_rfl) (by kernel_rfl) ?_
                   repeat (go_big_quiet_step (fail))
                   refine wpQuiet_end ?_
                   intro w3 hb3
                   go_wp2_with fail
                   first
                     | (go_ret
                        have e1 : b = false := by rw [← HV.out]; exact writerB_row (i := i) (by rw [Hn.out]; exact hlt) (rowW_twin hjlt (by rw [Ho.out, Hc.out, Htw.out, Hq.out]; simp [*]))
                        rw [e1]
                        have hb2 := Hb2.out
                        exact ⟨rfl, (by repeat (first | exact Below.refl _ _ | assumption | refine below_alloc ?_ _ | refine below_trans' ?_ (by assumption) | refine Below.drew ?_))⟩)
                     | (go_roundw
                        case rel =>
                          have hb2 := Hb2.out
                          refine ⟨j + 1, by omega, by go_num, (by repeat (first | exact Below.refl _ _ | assumption | refine below_alloc ?_ _ | refine below_trans' ?_ (by assumption) | refine Below.drew ?_)), ?_⟩
                          show _ = true
                          rw [all_range_succ, HP.out, Ho.out, Hc.out, Htw.out, Hq.out]
                          simp [*]
                        case measure => simp [intOf]; omega)
                     | (have hb2 := Hb2.out
                        refine ⟨⟨j + 1, by omega, by go_num, (by repeat (first | exact Below.refl _ _ | assumption | refine below_alloc ?_ _ | refine below_trans' ?_ (by assumption) | refine Below.drew ?_)), ?_⟩, by simp [intOf]; omega⟩
                        show _ = true
                        rw [all_range_succ, HP.out, Ho.out, Hc.out, Htw.out, Hq.out]
                        simp [*])
               · have hji : j = i := by omega
                 subst hji
                 have hlt' : ¬ ((j : Int) < (j : Int)) := by omega
                 go_wp2
                 go_roundw
                 case rel =>
                   refine ⟨j + 1, by omega, by go_num, hb2, ?_⟩
                   show _ = true
                   rw [all_range_succ, HG.out, rowW_true (by rw [Hc.out]; exact Hsole.out) HP.out]; rfl
                 case measure => simp [intOf]; omega)
    · have hge : ¬ ((i : Int) < (n : Int)) := by omega
      have e1 : b = true := by rw [← HV.out, writerB, HH.out, show soleAll cs = true by rw [soleAll, Hn.out, show n = i by omega]; exact HG.out]; rfl
      subst e1
      go_wp2
      go_ret
      exact ⟨rfl, hb⟩

theorem specIsOneWriter_calls (cs : List CallD) (A : Option Addr) (cap : Nat) (w : World) (hr : RowCalls w A cs) (hl : cs.length ≤ 1048576) (b : Bool) (hb : writerB cs = b) :
    Calls Try.prog 31 #[.slice A cs.length cap] w fun e w' => e = .returned (.bool b) ∧ Below w.heap.size w w' := by
  have HV := Lib.hid hb
  clear hb
  go_enter Try.func31, Try.ntmps31
  go_wp2_with (go_at_call 58; refine (specWriter_calls cs A cap _ hr hl b HV.out).mono ?_; rintro e w1 ⟨rfl, hb1⟩)
  go_ret
  exact ⟨rfl, hb1⟩
end Go.Proofs.Ytoeecaeaobfhmaa
