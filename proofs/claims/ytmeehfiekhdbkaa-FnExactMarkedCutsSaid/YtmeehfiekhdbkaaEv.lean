/-
  What the program and the reference answer on whether events are valid: the same Lean function. No condition but lengths of at most 2 to the 20.
-/
import Derived.Test.YtmeehfiekhdbkaaEvI
namespace Go.Proofs.Ytmeehfiekhdbkaa
open Go.RowKit
set_option maxRecDepth 100000

theorem ev_ways (p k z m : Bool) : p = false ∨ (p = true ∧ k = false) ∨ (p = true ∧ k = true ∧ z = true ∧ m = true) ∨ (p = true ∧ k = true ∧ z = true ∧ m = false) ∨ (p = true ∧ k = true ∧ z = false) := by
  cases p <;> cases k <;> cases z <;> cases m <;> simp
set_option maxHeartbeats 2000000 in
theorem implValidEvents_calls (cs : List EventD) (A : Option Addr) (cap : Nat) (w : World) (hr : RowEvents w A cs) (hl : cs.length ≤ 1048576) (hcap : cs.length ≤ cap) (b : Bool) (hb : evB cs = b) :
    Calls Try.prog 36 #[.slice A cs.length cap] w fun e w' => e = .returned (.bool b) ∧ Below w.heap.size w w' := by
  have HR := Lib.hid hr
  have HV := Lib.hid hb
  clear hr hb
  generalize hn : cs.length = n at *
  have Hn := Lib.hid hn
  clear hn
  have hlen : (n : Int) ≤ 1048576 := by omega
  by_cases h7 : 7 < n
  · have e1 : b = false := by rw [← HV.out]; exact evB_long (by rw [Hn.out]; exact h7)
    subst e1
    have h7' : (7 : Int) < (n : Int) := by omega
    go_enter Try.func36, Try.ntmps36
    go_wp2
    go_ret
    exact ⟨rfl, Below.refl _ _⟩
  have h7' : (n : Int) ≤ 7 := by omega
  go_enter Try.func36, Try.ntmps36
  go_wp2
  go_loopw [11] (fun i wr => ∃ k : Nat, k ≤ n ∧ i = .int .i64 k ∧ Below w.heap.size w wr ∧ Hid ((List.range k).all (evRow cs) = true)) (fun i _ => n - (intOf i).toNat)
  case atStart => exact ⟨0, by omega, rfl, Below.refl _ _, rfl⟩
  case round =>
    obtain ⟨i, hi, rfl, hb, HG⟩ := hrel
    obtain ⟨wo, rfl⟩ : ∃ wo : World, wo = wr := ⟨_, rfl⟩
    by_cases hlt : i < n
    · obtain ⟨b0, off, rfl, hat⟩ := HR.out (by have := Hn.out; omega)
      obtain ⟨c, hc⟩ : ∃ c, cs[i]? = some c := ⟨cs[i]'(by have := Hn.out; omega), List.getElem?_eq_getElem _⟩
      obtain ⟨x0, x1, x2⟩ := (RowEvents.at_ hat hc).below hb
      have hbz : b0 < wo.heap.size := World.block_lt_of_cell? _ _ x0
      have Hat := Lib.hid hat
      have Hc := Lib.hid (evAt_eq hc)
      have Hb := Lib.hid hb
      clear hat hc hb
      have hi0 : (0 : Int) ≤ (i : Int) := by omega
      have hin : (i : Int) < (n : Int) := by omega
      have hic : (i : Int) ≤ (cap : Int) := by omega
      have hfalse : evRow cs i = false → b = false := fun h => by rw [← HV.out]; exact evB_row (i := i) (by rw [Hn.out]; exact hlt) h
      have HF := Lib.hid hfalse
      clear hfalse
      have htrue : evRow cs i = true → (List.range (i + 1)).all (evRow cs) = true := fun h => by rw [all_range_succ, HG.out, h]; rfl
      have HT := Lib.hid htrue
      clear htrue
      rcases ev_ways (inB c.proc 0 2) (inB c.kind 0 2) (c.kind == 0) (c.msg != 0) with q1 | ⟨q1, q2⟩ | ⟨q1, q2, q3, q4⟩ | ⟨q1, q2, q3, q4⟩ | ⟨q1, q2, q3⟩
      case inr.inr.inr.inr =>
        go_wp2_with (go_at_call 46; refine (within_calls _ _ _ _).mono ?_; rintro e w' ⟨rfl, rfl⟩)
        generalize hw1 : wo.alloc (Obj.cells #[Value.int IntKind.i64 c.proc, Value.int IntKind.i64 c.kind, Value.int IntKind.i64 c.msg] 41) = w1
        have hb1 : Below w.heap.size w w1 := by rw [← hw1]; exact below_alloc Hb.out _
        have hz1 : b0 < w1.heap.size := by rw [← hw1]; simp; omega
        have hy1 : wo.heap.size < w1.heap.size := by rw [← hw1]; simp
        have y0 : w1.cell? ⟨wo.heap.size, 0, none⟩ = some (.int .i64 c.proc) := by rw [← hw1]; simp
        have y1 : w1.cell? ⟨wo.heap.size, 1, none⟩ = some (.int .i64 c.kind) := by rw [← hw1]; simp
        have y2 : w1.cell? ⟨wo.heap.size, 2, none⟩ = some (.int .i64 c.msg) := by rw [← hw1]; simp
        have HR1 := Lib.hid (HR.out.below hb1)
        have Hb1 := Lib.hid hb1
        clear x0 x1 x2 hbz hw1 hb1
        generalize wo.heap.size = g at *
        have hk0 : c.kind ≠ 0 := by simpa using q3
        have Hk0 := Lib.hid hk0
        clear hk0
        cases q4 : inB c.msg 0 6
        · go_wp2_with fail
          refine wp_region_grow (by kernel_rfl) (by kernel_rfl) ?_
          repeat (go_big_quiet_step ((first | (go_at_call 46; exact Calls.ext_same (within_calls _ _ _ _)))))
          refine wpQuiet_end ?_
          intro w3 hb3
          go_wp2_with fail
          go_ret
          have e1 := HF.out (evRow_fails_ok (by rw [Hc.out]; simp [evOk, *]))
          rw [e1]
          have hb := Hb1.out
          exact ⟨rfl, (by repeat (first | exact Below.refl _ _ | assumption | refine below_alloc ?_ _ | refine below_trans' ?_ (by assumption) | refine Below.drew ?_))⟩
        obtain ⟨r1, hr1⟩ : ∃ r, evPlace cs i c.kind c.msg = r := ⟨_, rfl⟩
        have Hr1 := Lib.hid hr1
        have hc1 := evPlace_cases cs c.kind c.msg i
        rw [hr1] at hc1
        clear hr1
        have hok : evOk (evAt cs i) = true := by rw [Hc.out]; simp only [evOk, q1, q2, q4]; simp [q3]
        have Hok := Lib.hid hok
        clear hok
        rcases hc1 with ⟨e1, hnone⟩ | ⟨k1, hk1, e1, hsome, _⟩
        · subst e1
          have Hn1 := Lib.hid hnone
          clear hnone
          cases q5 : c.kind == 2
          · go_wp2_with fail
            refine wp_region_grow (by kernel_rfl) (by kernel_rfl) ?_
            repeat (go_big_quiet_step ((first | (go_at_call 46; exact Calls.ext_same (within_calls _ _ _ _)) | (go_at_call 49; exact Calls.ext_of (Nat.le_refl _) (place_calls cs i _ _ _ _ _ (HR1.out.below (Wx.h _)) (by have := Hn.out; omega) (by have := Hn.out; omega) _ Hr1.out)))))
            refine wpQuiet_end ?_
            intro w3 hb3
            obtain ⟨hc3, _⟩ := bcell hb3
            go_wp2_with fail
            have hk1 : c.kind = 1 := by
              have h1 := q2
              have h2 : c.kind ≠ 2 := by simpa using q5
              have h3 := Hk0.out
              simp only [inB, decide_eq_true_eq] at h1
              omega
            have h4 := HT.out (evRow_send HG.out Hok.out (by rw [Hc.out]; exact hk1) (by rw [Hc.out]; have := Hn1.out; rw [hk1] at this; exact this))
            have hb := Hb1.out
            exact ⟨⟨i + 1, by omega, by go_num, (by repeat (first | exact Below.refl _ _ | assumption | refine below_alloc ?_ _ | refine below_trans' ?_ (by assumption) | refine Below.drew ?_)), h4⟩, by simp [intOf]; omega⟩
          · have hk2 : c.kind = 2 := by simpa using q5
            have Hk2 := Lib.hid hk2
            clear hk2
            obtain ⟨r2, hr2⟩ : ∃ r, evPlace cs i 1 c.msg = r := ⟨_, rfl⟩
            have Hr2 := Lib.hid hr2
            have hc2 := evPlace_cases cs 1 c.msg i
            rw [hr2] at hc2
            clear hr2
            go_wp2_with fail
            refine wp_region_grow (by kernel_rfl) (by kernel_rfl) ?_
            repeat (go_big_quiet_step ((first | (go_at_call 46; exact Calls.ext_same (within_calls _ _ _ _)) | (go_at_call 49; exact Calls.ext_of (Nat.le_refl _) (place_calls cs i _ _ _ _ _ (HR1.out.below (Wx.h _)) (by have := Hn.out; omega) (by have := Hn.out; omega) _ Hr1.out)))))
            refine wpQuiet_end ?_
            intro w3 hb3
            obtain ⟨hc3, _⟩ := bcell hb3
            have z0 := cell_below hb3 y0
            have z1 := cell_below hb3 y1
            have z2 := cell_below hb3 y2
            have hy3 : g < w3.heap.size := Nat.lt_of_lt_of_le hy1 hb3.size
            have hz3 : b0 < w3.heap.size := Nat.lt_of_lt_of_le hz1 hb3.size
            have hbw3 : Below w.heap.size w w3 := below_trans' Hb1.out hb3
            have HR3 := Lib.hid (HR.out.below hbw3)
            have Hb3 := Lib.hid hbw3
            clear hc3 hb3 hbw3 y0 y1 y2 hy1 hz1
            go_wp2_with fail
            refine wp_region_grow (by kernel_rfl) (by kernel_rfl) ?_
            repeat (go_big_quiet_step ((first | (go_at_call 49; exact Calls.ext_of (Nat.le_refl _) (place_calls cs i _ _ _ _ _ (HR3.out.below (Wx.h _)) (by have := Hn.out; omega) (by have := Hn.out; omega) _ Hr2.out)))))
            refine wpQuiet_end ?_
            intro w4 hb4
            have t0 := cell_below hb4 z0
            have hy4 : g < w4.heap.size := Nat.lt_of_lt_of_le hy3 hb4.size
            have hz4 : b0 < w4.heap.size := Nat.lt_of_lt_of_le hz3 hb4.size
            have hbw4 : Below w.heap.size w w4 := below_trans' Hb3.out hb4
            clear z0 z1 z2 hb4 hy3 hz3
            rcases hc2 with ⟨e2, hnone2⟩ | ⟨k2, hk2, e2, hsome2, hfirst⟩
            · subst e2
              go_wp2_with fail
              refine wp_region_grow (by kernel_rfl) (by kernel_rfl) ?_
              repeat (go_big_quiet_step (fail))
              refine wpQuiet_end ?_
              intro w5 hb5
              go_wp2_with fail
              go_ret
              have e1 := HF.out (evRow_take_none (by rw [Hc.out]; exact Hk2.out) (by rw [Hc.out]; exact hnone2))
              rw [e1]
              exact ⟨rfl, (by repeat (first | exact Below.refl _ _ | assumption | refine below_alloc ?_ _ | refine below_trans' ?_ (by assumption) | refine Below.drew ?_))⟩
            · subst e2
              obtain ⟨o, ho⟩ : ∃ o, cs[k2]? = some o := ⟨cs[k2]'(by have := Hn.out; omega), List.getElem?_eq_getElem _⟩
              obtain ⟨o0, o1, o2⟩ := (RowEvents.at_ Hat.out ho).below hbw4
              have hrow := evRow_take_some HG.out Hok.out (by rw [Hc.out]; exact Hk2.out) (by rw [Hc.out]; have := Hn1.out; rw [Hk2.out] at this; exact this) hk2 (by rw [Hc.out]; exact hsome2) (by rw [Hc.out]; exact hfirst)
              rw [evAt_eq ho, Hc.out] at hrow
              have Hrow := Lib.hid hrow
              have Hb4 := Lib.hid hbw4
              clear hrow hfirst hsome2 ho hbw4
              have hk20 : (0 : Int) ≤ (k2 : Int) := by omega
              have hk2n : (k2 : Int) < (n : Int) := by omega
              have hneg : decide ((k2 : Int) < 0) = false := decide_eq_false (by omega)
              cases q6 : o.proc == c.proc
              · go_wp2_with fail
                refine wp_region_grow (by kernel_rfl) (by kernel_rfl) ?_
                repeat (go_big_quiet_step (fail))
                refine wpQuiet_end ?_
                intro w5 hb5
                go_wp2_with fail
                have h4 := HT.out (by rw [Hrow.out, q6]; rfl)
                have hb := Hb4.out
                exact ⟨⟨i + 1, by omega, by go_num, (by repeat (first | exact Below.refl _ _ | assumption | refine below_alloc ?_ _ | refine below_trans' ?_ (by assumption) | refine Below.drew ?_)), h4⟩, by simp [intOf]; omega⟩
              · go_wp2_with fail
                refine wp_region_grow (by kernel_rfl) (by kernel_rfl) ?_
                repeat (go_big_quiet_step (fail))
                refine wpQuiet_end ?_
                intro w5 hb5
                go_wp2_with fail
                go_ret
                have e1 := HF.out (by rw [Hrow.out, q6]; rfl)
                rw [e1]
                have hb := Hb4.out
                exact ⟨rfl, (by repeat (first | exact Below.refl _ _ | assumption | refine below_alloc ?_ _ | refine below_trans' ?_ (by assumption) | refine Below.drew ?_))⟩
        · subst e1
          have hk10 : (0 : Int) ≤ (k1 : Int) := by omega
          go_wp2_with fail
          refine wp_region_grow (by kernel_rfl) (by kernel_rfl) ?_
          repeat (go_big_quiet_step ((first | (go_at_call 46; exact Calls.ext_same (within_calls _ _ _ _)) | (go_at_call 49; exact Calls.ext_of (Nat.le_refl _) (place_calls cs i _ _ _ _ _ (HR1.out.below (Wx.h _)) (by have := Hn.out; omega) (by have := Hn.out; omega) _ Hr1.out)))))
          refine wpQuiet_end ?_
          intro w3 hb3
          go_wp2_with fail
          go_ret
          have e1 := HF.out (evRow_dup hk1 (by rw [Hc.out]; exact Hk0.out) (by rw [Hc.out]; exact hsome))
          rw [e1]
          have hb := Hb1.out
          exact ⟨rfl, (by repeat (first | exact Below.refl _ _ | assumption | refine below_alloc ?_ _ | refine below_trans' ?_ (by assumption) | refine Below.drew ?_))⟩
      all_goals
        go_wp2_with (go_at_call 46; refine (within_calls _ _ _ _).mono ?_; rintro e w' ⟨rfl, rfl⟩)
        first
          | (go_ret
             have e1 : b = false := by
               first
                 | exact HF.out (evRow_fails_ok (by rw [Hc.out]; simp [evOk, *]))
             rw [e1]
             have hb := Hb.out
             exact ⟨rfl, (by repeat (first | exact Below.refl _ _ | assumption | refine below_alloc ?_ _ | refine below_trans' ?_ (by assumption) | refine Below.drew ?_))⟩)
          | (have h4 := HT.out (by
               have h5 := evRow_own (cs := cs) (i := i) (by rw [Hc.out]; simpa using q3) (by rw [Hc.out]; exact q1)
               rw [h5, Hc.out]
               simpa using q4)
             have hb := Hb.out
             exact ⟨⟨i + 1, by omega, by go_num, (by repeat (first | exact Below.refl _ _ | assumption | refine below_alloc ?_ _ | refine below_trans' ?_ (by assumption) | refine Below.drew ?_)), h4⟩, by simp [intOf]; omega⟩)
    · have hge : ¬ ((i : Int) < (n : Int)) := by omega
      have e1 : i = n := by omega
      subst e1
      have e1 : b = true := by rw [← HV.out]; exact evB_true (by rw [Hn.out]; omega) (by rw [Hn.out]; exact HG.out)
      subst e1
      go_wp2
      go_ret
      exact ⟨rfl, hb⟩
end Go.Proofs.Ytmeehfiekhdbkaa
