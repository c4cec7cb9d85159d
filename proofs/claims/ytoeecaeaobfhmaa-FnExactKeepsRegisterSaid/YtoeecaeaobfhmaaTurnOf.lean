/-
  What TurnOf answers, of the program and of the reference: the same Lean function. No condition but lengths of at most 2 to the 20.
-/
import Derived.Test.YtoeecaeaobfhmaaTurn
import Derived.Test.YtoeecaeaobfhmaaWriter
namespace Go.Proofs.Ytoeecaeaobfhmaa
open Go.RowKit
set_option maxRecDepth 100000

set_option maxHeartbeats 8000000 in
theorem specTurn_calls (cs : List CallD) (A : Option Addr) (n cap : Nat) (w : World) (hr : RowCalls w A cs) (hn : cs.length = n) (hl : n ≤ 1048576) (v : Int × Int × Bool) (hv : turnL cs = v) :
    Calls Try.prog 33 #[.slice A n cap] w fun e w' => e = .returned (tripV v) ∧ Below w.heap.size w w' := by
  have HR := Lib.hid hr
  have Hn := Lib.hid hn
  have HW := Lib.hid (fun (b : Bool) (hb : writerB cs = b) => hn ▸ specWriter_calls cs A cap w hr (by omega) b hb)
  clear hr
  cases hw : writerB cs
  · have e1 : v = (-1, -1, false) := by rw [← hv, turnL, hw]; rfl
    subst e1
    have Hw := Lib.hid hw
    clear hv hw hn
    go_enter Try.func33, Try.ntmps33
    go_wp2_with (go_at_call 58; refine (HW.out _ Hw.out).mono ?_; rintro e w1 ⟨rfl, hb1⟩)
    go_ret3
    exact ⟨rfl, hb1⟩
  have HV := Lib.hid (show turnV cs = v by rw [← hv, turnL, hw]; rfl)
  have Hw := Lib.hid hw
  have hlen : (n : Int) ≤ 1048576 := by omega
  clear hv hw hn
  go_enter Try.func33, Try.ntmps33
  go_wp2_with (go_at_call 58; refine (HW.out _ Hw.out).mono ?_; rintro e w1 ⟨rfl, hb1⟩)
  have Hb1 := Lib.hid hb1
  clear hb1
  go_loopw [5] (fun i wr => ∃ k : Nat, k ≤ n ∧ i = .int .i64 k ∧ Below w.heap.size w wr ∧ Hid ((List.range k).all (noTurnB cs) = true)) (fun i _ => n - (intOf i).toNat)
  case atStart => exact ⟨0, by omega, rfl, Hb1.out, rfl⟩
  case round =>
    obtain ⟨i, hi, rfl, hb, HG⟩ := hrel
    by_cases hlt : i < n
    · have Hb := Lib.hid hb
      clear hb
      have hi0 : (0 : Int) ≤ (i : Int) := by omega
      have hin : (i : Int) < (n : Int) := by omega
      go_wp2
      go_loopw [6] (fun j wq => ∃ k : Nat, k ≤ n ∧ j = .int .i64 k ∧ Below w.heap.size w wq ∧ Hid ((List.range k).all (fun k => !turnB cs i k) = true)) (fun j _ => n - (intOf j).toNat)
      case atStart => exact ⟨0, by omega, rfl, Hb.out, rfl⟩
      case round =>
        obtain ⟨j, hj, rfl, hb2, HP⟩ := hrel
        by_cases hjlt : j < n
        · obtain ⟨b0, off, rfl, hat⟩ := HR.out (by have := Hn.out; omega)
          obtain ⟨c, hc⟩ : ∃ c, cs[i]? = some c := ⟨cs[i]'(by have := Hn.out; omega), List.getElem?_eq_getElem _⟩
          obtain ⟨o, ho⟩ : ∃ o, cs[j]? = some o := ⟨cs[j]'(by have := Hn.out; omega), List.getElem?_eq_getElem _⟩
          obtain ⟨x0, x1, x2, x3, x4, x5, x6⟩ := (RowCalls.at7 hat hc).below hb2
          obtain ⟨y0, y1, y2, y3, y4, y5, y6⟩ := (RowCalls.at7 hat ho).below hb2
          have hbz : b0 < wr.heap.size := World.block_lt_of_cell? _ _ x0
          have hrow : RowCalls wr (some ⟨b0, off, none⟩) cs := HR.out.below hb2
          have Hrow := Lib.hid hrow
          obtain ⟨v1, hv1⟩ : ∃ v1, srcB cs c = v1 := ⟨_, rfl⟩
          obtain ⟨v2, hv2⟩ : ∃ v2, srcB cs o = v2 := ⟨_, rfl⟩
          have hbd1 := srcB_bd cs c
          have hbd2 := srcB_bd cs o
          rw [hv1, Hn.out] at hbd1
          rw [hv2, Hn.out] at hbd2
          have HS1 := Lib.hid (fun (W : World) (hW : RowCalls W (some ⟨b0, off, none⟩) cs) => source_calls cs i c hc (some ⟨b0, off, none⟩) n cap W hW Hn.out hl v1 hv1)
          have HS2 := Lib.hid (fun (W : World) (hW : RowCalls W (some ⟨b0, off, none⟩) cs) => source_calls cs j o ho (some ⟨b0, off, none⟩) n cap W hW Hn.out hl v2 hv2)
          obtain ⟨b1, hb1⟩ : ∃ b1, olderB cs v2 v1 = b1 := ⟨_, rfl⟩
          have HO := Lib.hid (fun (W : World) (hW : RowCalls W (some ⟨b0, off, none⟩) cs) => older_calls cs v2 v1 (some ⟨b0, off, none⟩) n cap W hW Hn.out hl hbd2 hbd1 b1 hb1)
          have hT : turnB cs i j = (c.kind == 2 && (o.kind == 2 && (befB c o && b1))) := by
            rw [turnB, hAt_eq hc, hAt_eq ho, hv1, hv2, hb1]
          have HT := Lib.hid hT
          have hstep : turnB cs i j = false → Hid ((List.range (j + 1)).all (fun k => !turnB cs i k) = true) := fun e => by
            show _ = true
            rw [all_range_succ, HP.out, e]; rfl
          have Hstep := Lib.hid hstep
          have hnext : turnB cs i j = true → turnV cs = ((i : Int), (j : Int), true) := fun e => turnV_hit (by have := Hn.out; omega) (by have := Hn.out; omega) HG.out HP.out e
          have Hnext := Lib.hid hnext
          have Hb2 := Lib.hid hb2
          clear hb2 hat hc ho hv1 hv2 hb1 hT hstep hnext hrow HR hbd1 hbd2
          have hj0 : (0 : Int) ≤ (j : Int) := by omega
          have hjn : (j : Int) < (n : Int) := by omega
          obtain ⟨b2, hb2⟩ : ∃ b2, befB c o = b2 := ⟨_, rfl⟩
          have Hbe := Lib.hid hb2
          rw [hb2] at HT
          clear hb2
          rcases ways4 (c.kind == 2) (o.kind == 2) b2 b1 with q1 | ⟨q1, q2⟩ | ⟨q1, q2, q3⟩ | ⟨q1, q2, q3, q4⟩ | ⟨q1, q2, q3, q4⟩
          rotate_right 1
          · subst q3 q4
            have Hq := Hnext.out (by rw [HT.out, q1, q2]; rfl)
            go_wp2_with fail
            refine wp_region_grow (by kernel_rfl) (by kernel_rfl) ?_
            repeat (go_big_quiet_step ((first | (go_at_call 59; exact Calls.ext_of (Nat.le_refl _) (before_calls c o _ Hbe.out _)) | (go_at_call 61; with_reducible exact Calls.ext_of (Nat.le_refl _) (HS1.out _ (Hrow.out.below (Wx.h _)))) | (go_at_call 61; with_reducible exact Calls.ext_of (Nat.le_refl _) (HS2.out _ (Hrow.out.below (Wx.h _)))) | (go_at_call 60; with_reducible exact Calls.ext_of (Nat.le_refl _) (HO.out _ (Hrow.out.below (Wx.h _)))))))
            refine wpQuiet_end ?_
            intro w5 hb5
            go_wp2_with fail
            go_ret3
            exact ⟨by rw [← HV.out, Hq]; rfl, below_trans' Hb2.out hb5⟩
          all_goals
            try subst q3
            try subst q4
            have Hq := Hstep.out (by rw [HT.out]; simp [*])
            go_wp2_with fail
            refine wp_region_grow (by kernel_rfl) (by kernel_rfl) ?_
            repeat (go_big_quiet_step ((first | (go_at_call 59; exact Calls.ext_of (Nat.le_refl _) (before_calls c o _ Hbe.out _)) | (go_at_call 61; with_reducible exact Calls.ext_of (Nat.le_refl _) (HS1.out _ (Hrow.out.below (Wx.h _)))) | (go_at_call 61; with_reducible exact Calls.ext_of (Nat.le_refl _) (HS2.out _ (Hrow.out.below (Wx.h _)))) | (go_at_call 60; with_reducible exact Calls.ext_of (Nat.le_refl _) (HO.out _ (Hrow.out.below (Wx.h _)))))))
            refine wpQuiet_end ?_
            intro w5 hb5
            go_wp2_with fail
            go_roundw
            case rel => exact ⟨j + 1, by omega, by go_num, below_trans' Hb2.out hb5, Hq⟩
            case measure => simp [intOf]; omega
        · have hji : j = n := by omega
          subst hji
          have hlt' : ¬ ((j : Int) < (j : Int)) := by omega
          go_wp2
          go_roundw
          case rel =>
            refine ⟨i + 1, by omega, by go_num, hb2, ?_⟩
            show _ = true
            have hno : noTurnB cs i = true := by rw [noTurnB, Hn.out]; exact HP.out
            rw [all_range_succ, HG.out, hno]; rfl
          case measure => simp [intOf]; omega
    · have hge : ¬ ((i : Int) < (n : Int)) := by omega
      have e1 : turnV cs = (-1, -1, false) := turnV_none (by rw [Hn.out, show n = i by omega]; exact HG.out)
      have E1 := Lib.hid e1
      have Hb := Lib.hid hb
      clear hb e1
      go_wp2
      go_ret3
      exact ⟨by rw [← HV.out, E1.out]; rfl, Hb.out⟩

theorem implTurn_calls (cs : List CallD) (A : Option Addr) (n cap : Nat) (w : World) (hr : RowCalls w A cs) (hn : cs.length = n) (hl : n ≤ 1048576) (hcap : n ≤ cap) (v : Int × Int × Bool) (hv : turnL cs = v) :
    Calls Try.prog 34 #[.slice A n cap] w fun e w' => e = .returned (tripV v) ∧ Below w.heap.size w w' := by
  have HR := Lib.hid hr
  have Hn := Lib.hid hn
  have HW := Lib.hid (fun (b : Bool) (hb : writerB cs = b) => hn ▸ implIsOneWriter_calls cs A cap w hr (by omega) (by omega) b hb)
  clear hr
  cases hw : writerB cs
  · have e1 : v = (-1, -1, false) := by rw [← hv, turnL, hw]; rfl
    subst e1
    have Hw := Lib.hid hw
    clear hv hw hn
    go_enter Try.func34, Try.ntmps34
    go_wp2_with (go_at_call 32; refine (HW.out _ Hw.out).mono ?_; rintro e w1 ⟨rfl, hb1⟩)
    go_ret3
    exact ⟨rfl, hb1⟩
  have HV := Lib.hid (show turnV cs = v by rw [← hv, turnL, hw]; rfl)
  have Hw := Lib.hid hw
  clear hv hw hn
  go_enter Try.func34, Try.ntmps34
  go_wp2_with (go_at_call 32; refine (HW.out _ Hw.out).mono ?_; rintro e w1 ⟨rfl, hb1⟩)
  refine (turnOf_calls cs A n cap _ (HR.out.below hb1) Hn.out hl v HV.out).mono ?_
  rintro e w2 ⟨rfl, hb2⟩
  unfold tripV
  go_wp2_with fail
  go_ret3
  exact ⟨rfl, below_trans' hb1 hb2⟩
end Go.Proofs.Ytoeecaeaobfhmaa
