/-
  What the reference answers on whether events are valid: the same Lean function. No condition but lengths of at most 2 to the 20.
-/
import Derived.Test.YtmeehfiekhdbkaaEv
namespace Go.Proofs.Ytmeehfiekhdbkaa
open Go.RowKit
set_option maxRecDepth 100000

theorem ev_ways2 (p k m z q : Bool) : p = false ∨ (p = true ∧ k = false) ∨ (p = true ∧ k = true ∧ m = false) ∨ (p = true ∧ k = true ∧ m = true ∧ z = true ∧ q = true) ∨ (p = true ∧ k = true ∧ m = true ∧ z = true ∧ q = false) ∨ (p = true ∧ k = true ∧ m = true ∧ z = false) := by
  cases p <;> cases k <;> cases z <;> cases m <;> cases q <;> simp
theorem ev_ways3 (a b m k s o p x : Bool) : a = false ∨ (a = true ∧ b = false) ∨ (a = true ∧ b = true ∧ m = false) ∨ (a = true ∧ b = true ∧ m = true ∧ k = true) ∨
    (a = true ∧ b = true ∧ m = true ∧ k = false ∧ s = true ∧ x = true) ∨ (a = true ∧ b = true ∧ m = true ∧ k = false ∧ s = true ∧ x = false) ∨
    (a = true ∧ b = true ∧ m = true ∧ k = false ∧ s = false ∧ o = false ∧ x = true) ∨ (a = true ∧ b = true ∧ m = true ∧ k = false ∧ s = false ∧ o = false ∧ x = false) ∨
    (a = true ∧ b = true ∧ m = true ∧ k = false ∧ s = false ∧ o = true ∧ p = true ∧ x = true) ∨ (a = true ∧ b = true ∧ m = true ∧ k = false ∧ s = false ∧ o = true ∧ p = true ∧ x = false) ∨
    (a = true ∧ b = true ∧ m = true ∧ k = false ∧ s = false ∧ o = true ∧ p = false ∧ x = true) ∨ (a = true ∧ b = true ∧ m = true ∧ k = false ∧ s = false ∧ o = true ∧ p = false ∧ x = false) := by
  cases a <;> cases b <;> cases m <;> cases k <;> cases s <;> cases o <;> cases p <;> cases x <;> simp
theorem ev_ways4 (k s : Bool) : k = false ∨ (k = true ∧ s = true) ∨ (k = true ∧ s = false) := by
  cases k <;> cases s <;> simp
theorem evOk_ref (c : EventD) : evOk c = (inB c.proc 0 2 && inB c.kind 0 2 && inB c.msg 0 6 && !(c.kind == 0 && c.msg != 0)) := rfl

set_option maxHeartbeats 4000000 in
theorem specValid_calls (cs : List EventD) (A : Option Addr) (cap : Nat) (w : World) (hr : RowEvents w A cs) (hl : cs.length ≤ 1048576) (b : Bool) (hb : evB cs = b) :
    Calls Try.prog 23 #[.slice A cs.length cap] w fun e w' => e = .returned (.bool b) ∧ Below w.heap.size w w' := by
  have HR := Lib.hid hr
  have HV := Lib.hid hb
  clear hr hb
  generalize hn : cs.length = n at *
  have Hn := Lib.hid hn
  clear hn
  have hlen : (n : Int) ≤ 1048576 := by omega
  go_enter Try.func23, Try.ntmps23
  go_wp2
  go_loopw [3] (fun i wr => ∃ k : Nat, k ≤ n ∧ i = .int .i64 k ∧ Below w.heap.size w wr ∧ Hid ((List.range k).all (evRow cs) = true)) (fun i _ => n - (intOf i).toNat)
  case atStart => exact ⟨0, by omega, rfl, Below.refl _ _, rfl⟩
  case round =>
    obtain ⟨i, hi, rfl, hb, HG⟩ := hrel
    obtain ⟨wo, rfl⟩ : ∃ wo : World, wo = wr := ⟨_, rfl⟩
    by_cases hlt : i < n
    · obtain ⟨b0, off, rfl, hat⟩ := HR.out (by have := Hn.out; omega)
      obtain ⟨c, hc⟩ : ∃ c, cs[i]? = some c := ⟨cs[i]'(by have := Hn.out; omega), List.getElem?_eq_getElem _⟩
      obtain ⟨x0, x1, x2⟩ := (RowEvents.at_ hat hc).below hb
      have Hat := Lib.hid hat
      have Hci := Lib.hid hc
      have Hc := Lib.hid (evAt_eq hc)
      have Hb := Lib.hid hb
      clear HR hat hc hb
      have hi0 : (0 : Int) ≤ (i : Int) := by omega
      have hin : (i : Int) < (n : Int) := by omega
      have hfalse : evRow cs i = false → b = false := fun h => by rw [← HV.out]; exact evB_row (i := i) (by rw [Hn.out]; exact hlt) h
      have HF := Lib.hid hfalse
      clear hfalse
      have htrue : evRow cs i = true → (List.range (i + 1)).all (evRow cs) = true := fun h => by rw [all_range_succ, HG.out, h]; rfl
      have HT := Lib.hid htrue
      clear htrue
      cases hok : evOk c
      · have Hok := Lib.hid hok
        have e1 : b = false := HF.out (evRow_fails_ok (by rw [Hc.out]; exact hok))
        subst e1
        rw [evOk_ref] at hok
        have Hk := Lib.hid hok
        clear hok
        rcases ev_ways2 (inB c.proc 0 2) (inB c.kind 0 2) (inB c.msg 0 6) (c.kind == 0) (c.msg != 0) with q1 | ⟨q1, q2⟩ | ⟨q1, q2, q3⟩ | ⟨q1, q2, q3, q4, q5⟩ | ⟨q1, q2, q3, q4, q5⟩ | ⟨q1, q2, q3, q4⟩
        case' inr.inr.inr.inr.inl => exact absurd Hk.out (by rw [q1, q2, q3, q5]; simp)
        case' inr.inr.inr.inr.inr => exact absurd Hk.out (by rw [q1, q2, q3, q4]; simp)
        all_goals
          go_wp2_with (go_at_call 24; refine (inRange_calls _ _ _ _).mono ?_; rintro e w' ⟨rfl, rfl⟩)
          go_ret
          have hb := Hb.out
          exact ⟨rfl, (by repeat (first | exact Below.refl _ _ | assumption | refine below_alloc ?_ _ | refine below_trans' ?_ (by assumption) | refine Below.drew ?_))⟩
      · have Hok := Lib.hid hok
        rw [evOk_ref] at hok
        have Hk := Lib.hid hok
        clear hok
        rcases ev_ways2 (inB c.proc 0 2) (inB c.kind 0 2) (inB c.msg 0 6) (c.kind == 0) (c.msg != 0) with q1 | ⟨q1, q2⟩ | ⟨q1, q2, q3⟩ | ⟨q1, q2, q3, q4, q5⟩ | ⟨q1, q2, q3, q4, q5⟩ | ⟨q1, q2, q3, q4⟩
        case' inl => exact absurd Hk.out (by rw [q1]; simp)
        case' inr.inl => exact absurd Hk.out (by rw [q2]; simp)
        case' inr.inr.inl => exact absurd Hk.out (by rw [q3]; simp)
        case' inr.inr.inr.inl => exact absurd Hk.out (by rw [q4, q5]; simp)
        all_goals
          go_wp2_with (go_at_call 24; refine (inRange_calls _ _ _ _).mono ?_; rintro e w' ⟨rfl, rfl⟩)
          clear q1 q2 q3 q4 x0 x1 x2
          try clear q5
          go_loopw [4, 5] (fun s j wq => ∃ k : Nat, k ≤ i ∧ j = .int .i64 k ∧ s = .bool ((List.range k).any (fun k => evSent (evAt cs i) (evAt cs k))) ∧ Below w.heap.size w wq ∧ Hid ((List.range k).all (fun k => !evBar (evAt cs i) (evAt cs k)) = true)) (fun _ j _ => i - (intOf j).toNat)
          case atStart => exact ⟨0, by omega, rfl, rfl, Hb.out, rfl⟩
          case round =>
            obtain ⟨j, hj, rfl, rfl, hb2, HP⟩ := hrel
            obtain ⟨sent, hsent⟩ : ∃ t, (List.range j).any (fun k => evSent (evAt cs i) (evAt cs k)) = t := ⟨_, rfl⟩
            rw [hsent]
            have Hs := Lib.hid hsent
            clear hsent
            by_cases hjlt : j < i
            · obtain ⟨o, ho⟩ : ∃ o, cs[j]? = some o := ⟨cs[j]'(by have := Hn.out; omega), List.getElem?_eq_getElem _⟩
              obtain ⟨x0, x1, x2⟩ := (RowEvents.at_ Hat.out Hci.out).below hb2
              obtain ⟨y0, y1, y2⟩ := (RowEvents.at_ Hat.out ho).below hb2
              have hbz : b0 < wr.heap.size := World.block_lt_of_cell? _ _ x0
              have Heo := Lib.hid (evAt_eq ho)
              have Ho := Lib.hid ho
              have Hb2 := Lib.hid hb2
              clear ho hb2
              have hj0 : (0 : Int) ≤ (j : Int) := by omega
              have hji : (j : Int) < (i : Int) := by omega
              have hjn : (j : Int) < (n : Int) := by omega
              have hS : Hid ((List.range (j + 1)).any (fun k => evSent (evAt cs i) (evAt cs k)) = (sent || evSent c o)) := by
                show _ = _
                rw [any_range_succ, Hs.out, Heo.out, Hc.out]
              have hA : Hid (evBar c o = false → (List.range (j + 1)).all (fun k => !evBar (evAt cs i) (evAt cs k)) = true) := fun h => by
                rw [all_range_succ, HP.out, Heo.out, Hc.out, h]; rfl
              have hB : Hid (evBar c o = true → b = false) := fun h => HF.out (evRow_fails_bar hjlt (by rw [Heo.out, Hc.out]; exact h))
              rcases ev_ways3 (o.kind != 0) (c.kind != 0) (o.msg == c.msg) (o.kind == c.kind) sent (o.kind == 1) (o.proc != c.proc) (c.kind == 1) with q1 | ⟨q1, q2⟩ | ⟨q1, q2, q3⟩ | ⟨q1, q2, q3, q4⟩ | ⟨q1, q2, q3, q4, q5, q6⟩ | ⟨q1, q2, q3, q4, q5, q6⟩ | ⟨q1, q2, q3, q4, q5, q6, q7⟩ | ⟨q1, q2, q3, q4, q5, q6, q7⟩ | ⟨q1, q2, q3, q4, q5, q6, q7, q8⟩ | ⟨q1, q2, q3, q4, q5, q6, q7, q8⟩ | ⟨q1, q2, q3, q4, q5, q6, q7, q8⟩ | ⟨q1, q2, q3, q4, q5, q6, q7, q8⟩
              all_goals
                try subst q5
                go_wp2_with fail
                refine wp_region_grow (by kernel_rfl) (by kernel_rfl) ?_
                repeat (go_big_quiet_step (fail))
                refine wpQuiet_end ?_
                intro w3 hb3
                obtain ⟨hc3, _⟩ := bcell hb3
                have hbz3 : b0 < w3.heap.size := Nat.lt_of_lt_of_le hbz hb3.size
                have hbw3 : Below w.heap.size w w3 := below_trans' Hb2.out hb3
                have Hb3 := Lib.hid hbw3
                obtain ⟨x0, x1, x2⟩ := (RowEvents.at_ Hat.out Hci.out).below hbw3
                clear hb3 hbw3
                first
                  | (go_wp2_with fail
                     have hb := Hb3.out
                     exact ⟨⟨j + 1, by omega, by go_num, by rw [hS.out]; simp [evSent, *], (by repeat (first | exact Below.refl _ _ | assumption | refine below_alloc ?_ _ | refine below_trans' ?_ (by assumption) | refine Below.drew ?_)), hA.out (by simp [evBar, *])⟩, by simp [intOf]; omega⟩)
                  | (go_wp2_with fail
                     refine wp_region_grow (by kernel_rfl) (by kernel_rfl) ?_
                     repeat (go_big_quiet_step (fail))
                     refine wpQuiet_end ?_
                     intro w4 hb4
                     have hbz4 : b0 < w4.heap.size := Nat.lt_of_lt_of_le hbz3 hb4.size
                     have hbw4 : Below w.heap.size w w4 := below_trans' Hb3.out hb4
                     have Hb4 := Lib.hid hbw4
                     obtain ⟨x0, x1, x2⟩ := (RowEvents.at_ Hat.out Hci.out).below hbw4
                     obtain ⟨y0, y1, y2⟩ := (RowEvents.at_ Hat.out Ho.out).below hbw4
                     clear hb4 hbw4
                     first
                       | (go_wp2_with fail
                          go_ret
                          have e1 := hB.out (by simp [evBar, *])
                          rw [e1]
                          have hb := Hb4.out
                          exact ⟨rfl, (by repeat (first | exact Below.refl _ _ | assumption | refine below_alloc ?_ _ | refine below_trans' ?_ (by assumption) | refine Below.drew ?_))⟩)
                       | (go_wp2_with fail
                          refine wp_region_grow (by kernel_rfl) (by kernel_rfl) ?_
                          repeat (go_big_quiet_step (fail))
                          refine wpQuiet_end ?_
                          intro w5 hb5
                          have hbz5 : b0 < w5.heap.size := Nat.lt_of_lt_of_le hbz4 hb5.size
                          have hbw5 : Below w.heap.size w w5 := below_trans' Hb4.out hb5
                          have Hb5 := Lib.hid hbw5
                          obtain ⟨x0, x1, x2⟩ := (RowEvents.at_ Hat.out Hci.out).below hbw5
                          clear hb5 hbw5
                          go_wp2_with fail
                          first
                            | (go_ret
                               have e1 := hB.out (by simp [evBar, *])
                               rw [e1]
                               have hb := Hb5.out
                               exact ⟨rfl, (by repeat (first | exact Below.refl _ _ | assumption | refine below_alloc ?_ _ | refine below_trans' ?_ (by assumption) | refine Below.drew ?_))⟩)
                            | (have hb := Hb5.out
                               exact ⟨⟨j + 1, by omega, by go_num, by rw [hS.out]; simp [evSent, *], (by repeat (first | exact Below.refl _ _ | assumption | refine below_alloc ?_ _ | refine below_trans' ?_ (by assumption) | refine Below.drew ?_)), hA.out (by simp [evBar, *])⟩, by simp [intOf]; omega⟩)))
            · have hji : j = i := by omega
              subst hji
              have hlt' : ¬ ((j : Int) < (j : Int)) := by omega
              obtain ⟨x0, x1, x2⟩ := (RowEvents.at_ Hat.out Hci.out).below hb2
              have Hb2 := Lib.hid hb2
              have hrow : Hid (evRow cs j = !(c.kind == 2 && !sent)) := by
                show _ = _
                rw [evRow, Hc.out, Hok.out]
                have h1 := HP.out
                have h2 := Hs.out
                rw [Hc.out] at h1 h2
                rw [h1, h2]; rfl
              clear hb2
              rcases ev_ways4 (c.kind == 2) sent with q1 | ⟨q1, q2⟩ | ⟨q1, q2⟩
              all_goals
                try subst q2
                go_wp2
                first
                  | (go_ret
                     have e1 := HF.out (by rw [hrow.out]; simp [*])
                     rw [e1]
                     exact ⟨rfl, Hb2.out⟩)
                  | exact ⟨⟨j + 1, by omega, by go_num, Hb2.out, HT.out (by rw [hrow.out]; simp [*])⟩, by simp [intOf]; omega⟩
                  | (go_roundw
                     case rel => exact ⟨j + 1, by omega, by go_num, Hb2.out, HT.out (by rw [hrow.out]; simp [*])⟩
                     case measure => simp [intOf]; omega)
    · have hge : ¬ ((i : Int) < (n : Int)) := by omega
      have e1 : i = n := by omega
      subst e1
      by_cases h7 : i ≤ 7
      · have e1 : b = true := by rw [← HV.out]; exact evB_true (by rw [Hn.out]; omega) (by rw [Hn.out]; exact HG.out)
        subst e1
        have h7' : (i : Int) ≤ 7 := by omega
        go_wp2
        go_ret
        exact ⟨rfl, hb⟩
      · have e1 : b = false := by rw [← HV.out]; exact evB_long (by rw [Hn.out]; omega)
        subst e1
        have h7' : ¬ ((i : Int) ≤ 7) := by omega
        go_wp2
        go_ret
        exact ⟨rfl, hb⟩
end Go.Proofs.Ytmeehfiekhdbkaa
