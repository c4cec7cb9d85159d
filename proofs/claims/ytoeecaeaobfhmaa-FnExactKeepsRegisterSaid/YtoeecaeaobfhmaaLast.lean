/-
  The last put before a call, of the program and of the reference; whether a put overlaps a call. No condition but lengths of at most 2 to the 20.
-/
import Derived.Test.YtoeecaeaobfhmaaKeepP
import Derived.BigGuardPart
namespace Go.Proofs.Ytoeecaeaobfhmaa
open Go.RowKit
set_option maxRecDepth 100000

theorem four_ways (a b c d : Bool) : a = false ∨ (a = true ∧ b = false) ∨ (a = true ∧ b = true ∧ c = true) ∨ (a = true ∧ b = true ∧ c = false ∧ d = false) ∨ (a = true ∧ b = true ∧ c = false ∧ d = true) := by
  cases a <;> cases b <;> cases c <;> cases d <;> simp

set_option maxHeartbeats 4000000 in
theorem lastBefore_calls (cs : List CallD) (c : CallD) (A : Option Addr) (n cap : Nat) (w : World) (hr : RowCalls w A cs) (hn : cs.length = n) (hl : n ≤ 1048576) (v : Int) (hv : lastI cs c n = v) :
    Calls Try.prog 65 #[.slice A n cap, c.val] w fun e w' => e = .returned (.int .i64 v) ∧ Below w.heap.size w w' := by
  have HR := Lib.hid hr
  have HV := Lib.hid hv
  have Hn := Lib.hid hn
  clear hr hv hn
  have hlen : (n : Int) ≤ 1048576 := by omega
  go_enter Try.func65, Try.ntmps65
  go_wp2
  have HB0 := Lib.hid (below_alloc (Below.refl w.heap.size w) (.cells #[.int .i64 c.proc, .int .i64 c.obj, .int .i64 c.kind, .int .i64 c.arg, .int .i64 c.ret, .int .i64 c.fr, .int .i64 c.till] 45))
  go_loopw [5, 10] (fun l i wr => ∃ k : Nat, k ≤ n ∧ i = .int .i64 k ∧ l = .int .i64 (lastI cs c k) ∧ Below (w.heap.size + 1) (w.alloc (.cells #[.int .i64 c.proc, .int .i64 c.obj, .int .i64 c.kind, .int .i64 c.arg, .int .i64 c.ret, .int .i64 c.fr, .int .i64 c.till] 45)) wr) (fun _ i _ => n - (intOf i).toNat)
  case atStart => exact ⟨0, by omega, rfl, rfl, Below.refl _ _⟩
  case round =>
    obtain ⟨i, hi, rfl, rfl, hb⟩ := hrel
    have hbw : Below w.heap.size w wr := HB0.out.trans (hb.mono (by omega))
    have hz1 : w.heap.size < wr.heap.size := by have := hb.size; simp at this; omega
    by_cases hlt : i < n
    · obtain ⟨b0, off, rfl, hat⟩ := HR.out (by have := Hn.out; omega)
      obtain ⟨o, ho⟩ : ∃ c, cs[i]? = some c := ⟨cs[i]'(by have := Hn.out; omega), List.getElem?_eq_getElem _⟩
      obtain ⟨x0, x1, x2, x3, x4, x5, x6⟩ := (RowCalls.at7 hat ho).below hbw
      have hbz : b0 < wr.heap.size := World.block_lt_of_cell? _ _ x0
      have hcc : At7 wr w.heap.size 0 c := by
        refine ⟨?_, ?_, ?_, ?_, ?_, ?_, ?_⟩ <;> (rw [hb.cell (by simp)]; simp)
      obtain ⟨y0, y1, y2, y3, y4, y5, y6⟩ := hcc
      have hst : lastI cs c (i + 1) = if (o.kind == 0 && (befB o c && (decide (lastI cs c i < 0) || decide ((hAt cs (lastI cs c i).toNat).fr < o.fr)))) = true then (i : Int) else lastI cs c i := by
        rw [lastI, hAt_eq ho]; rfl
      have hbd := lastI_bd cs c i
      generalize lastI cs c i = l at *
      have hq : ∀ m : Nat, l = (m : Int) → wr.cell? ⟨b0, off + m * 7 + 5, none⟩ = some (.int .i64 (hAt cs m).fr) := by
        intro m hm
        have hg : cs[m]? = some (cs[m]'(by have := Hn.out; omega)) := List.getElem?_eq_getElem _
        rw [hAt_eq hg]
        exact (RowCalls.at7 hat hg |>.below hbw).2.2.2.2.2.1
      have Hst := Lib.hid hst
      have Hb := Lib.hid hb
      have Hbw := Lib.hid hbw
      have Hat := Lib.hid hat
      clear hat ho hst hb hbw
      have hi0 : (0 : Int) ≤ (i : Int) := by omega
      have hin : (i : Int) < (n : Int) := by omega
      obtain ⟨b1, hb1⟩ : ∃ b1, befB o c = b1 := ⟨_, rfl⟩
      have Hbe := Lib.hid hb1
      rw [hb1] at Hst
      clear hb1
      have hbe : befB o c = b1 := Hbe.out
      clear hbe
      by_cases hneg : l < 0
      · have hd : decide (l < 0) = true := by simpa using hneg
        rw [hd] at Hst
        clear hq hbd
        rcases two_ways (o.kind == 0) b1 with r1 | ⟨r1, r2⟩ | ⟨r1, r2⟩
        all_goals
          try subst r2
          try rw [r1] at Hst
          have Hr1 := Lib.hid r1
          go_wp2_with fail
          refine wp_region_grow (by kernel_rfl) (by kernel_rfl) ?_
          repeat (go_big_quiet_step ((go_at_call 50; exact Calls.ext_of (Nat.le_refl _) (implIsBefore_calls o c _ Hbe.out _))))
          refine wpQuiet_end ?_
          intro w3 hb3
          go_wp2_with fail
          go_roundw
          case rel => exact ⟨i + 1, by omega, by go_num, by rw [Hst.out]; rfl, (below_alloc' Hb.out _).trans (hb3.mono (by have := Hb.out.size; simp at this ⊢; omega))⟩
          case measure => simp [intOf]; omega
      · have hd : decide (l < 0) = false := by simpa using hneg
        obtain ⟨m, rfl⟩ : ∃ m : Nat, l = (m : Int) := ⟨l.toNat, by omega⟩
        have q5 := hq m rfl
        have hmn : (m : Int) < (n : Int) := by omega
        have hm0 : (0 : Int) ≤ (m : Int) := by omega
        rw [hd, Int.toNat_natCast] at Hst
        clear hq hbd
        generalize (hAt cs m).fr = qf at *
        rcases three_ways (o.kind == 0) b1 (decide (qf < o.fr)) with r1 | ⟨r1, r2⟩ | ⟨r1, r2, r3⟩ | ⟨r1, r2, r3⟩
        all_goals
          try subst r2
          try rw [r1] at Hst
          try rw [r3] at Hst
          have Hr1 := Lib.hid r1
          go_wp2_with fail
          refine wp_region_grow (by kernel_rfl) (by kernel_rfl) ?_
          repeat (go_big_quiet_step ((go_at_call 50; exact Calls.ext_of (Nat.le_refl _) (implIsBefore_calls o c _ Hbe.out _))))
          refine wpQuiet_end ?_
          intro w3 hb3
          go_wp2_with fail
          go_roundw
          case rel => exact ⟨i + 1, by omega, by go_num, by rw [Hst.out]; rfl, (below_alloc' Hb.out _).trans (hb3.mono (by have := Hb.out.size; simp at this ⊢; omega))⟩
          case measure => simp [intOf]; omega
    · have e1 : i = n := by omega
      subst e1
      have hge : ¬ ((i : Int) < (i : Int)) := by omega
      have Hbw := Lib.hid hbw
      clear hb hbw
      rw [HV.out]
      go_wp2
      go_ret
      exact ⟨rfl, Hbw.out⟩

set_option maxHeartbeats 4000000 in
theorem lastPut_calls (cs : List CallD) (mi : Nat) (c : CallD) (hc : cs[mi]? = some c) (A : Option Addr) (n cap : Nat) (w : World) (hr : RowCalls w A cs) (hn : cs.length = n) (hl : n ≤ 1048576) (v : Int) (hv : lastR cs c n = v) :
    Calls Try.prog 80 #[.slice A n cap, .int .i64 mi] w fun e w' => e = .returned (.int .i64 v) ∧ Below w.heap.size w w' := by
  have hm : mi < n := by rw [← hn]; exact (List.getElem?_eq_some_iff.1 hc).1
  obtain ⟨b0, off, rfl, hat⟩ := hr (by omega)
  have HV := Lib.hid hv
  have Hn := Lib.hid hn
  have Hat := Lib.hid hat
  have Hcm := Lib.hid (RowCalls.at7 hat hc)
  clear hr hv hn hat hc
  have hlen : (n : Int) ≤ 1048576 := by omega
  have hmi0 : (0 : Int) ≤ (mi : Int) := by omega
  have hmin : (mi : Int) < (n : Int) := by omega
  go_enter Try.func80, Try.ntmps80
  go_wp2
  go_loopw [5, 6] (fun l i wr => ∃ k : Nat, k ≤ n ∧ i = .int .i64 k ∧ l = .int .i64 (lastR cs c k) ∧ Below w.heap.size w wr) (fun _ i _ => n - (intOf i).toNat)
  case atStart => exact ⟨0, by omega, rfl, rfl, Below.refl _ _⟩
  case round =>
    obtain ⟨i, hi, rfl, rfl, hb⟩ := hrel
    by_cases hlt : i < n
    · obtain ⟨o, ho⟩ : ∃ c, cs[i]? = some c := ⟨cs[i]'(by have := Hn.out; omega), List.getElem?_eq_getElem _⟩
      obtain ⟨x0, x1, x2, x3, x4, x5, x6⟩ := (RowCalls.at7 Hat.out ho).below hb
      obtain ⟨y0, y1, y2, y3, y4, y5, y6⟩ := Hcm.out.below hb
      have hbz : b0 < wr.heap.size := World.block_lt_of_cell? _ _ x0
      have hst : lastR cs c (i + 1) = if (o.kind == 0 && (befB o c && (decide (lastR cs c i < 0) || befB (hAt cs (lastR cs c i).toNat) o))) = true then (i : Int) else lastR cs c i := by
        rw [lastR, hAt_eq ho]; rfl
      have hbd := lastR_bd cs c i
      generalize lastR cs c i = l at *
      have hq : ∀ m : Nat, l = (m : Int) → ∃ q, hAt cs m = q ∧ At7 wr b0 (off + m * 7) q := by
        intro m hm
        have hg : cs[m]? = some (cs[m]'(by have := Hn.out; omega)) := List.getElem?_eq_getElem _
        exact ⟨_, hAt_eq hg, RowCalls.at7 Hat.out hg |>.below hb⟩
      have Hst := Lib.hid hst
      have Hb := Lib.hid hb
      clear ho hst hb
      have hi0 : (0 : Int) ≤ (i : Int) := by omega
      have hin : (i : Int) < (n : Int) := by omega
      obtain ⟨b1, hb1⟩ : ∃ b1, befB o c = b1 := ⟨_, rfl⟩
      have Hbe := Lib.hid hb1
      rw [hb1] at Hst
      clear hb1
      have hbe : befB o c = b1 := Hbe.out
      clear hbe
      by_cases hneg : l < 0
      · have hd : decide (l < 0) = true := by simpa using hneg
        rw [hd] at Hst
        clear hq hbd
        have Hbq := Lib.hid (rfl : befB o o = befB o o)
        rcases two_ways (o.kind == 0) b1 with r1 | ⟨r1, r2⟩ | ⟨r1, r2⟩
        all_goals
          try subst r2
          try rw [r1] at Hst
          have Hr1 := Lib.hid r1
          go_wp2_with fail
          refine wp_region_grow (by kernel_rfl) (by kernel_rfl) ?_
          repeat (go_big_quiet_step ((go_at_call 59; exact Calls.ext_of (Nat.le_refl _) (before_calls o c _ Hbe.out _))))
          refine wpQuiet_end ?_
          intro w3 hb3
          go_wp2_with fail
          go_roundw
          case rel => exact ⟨i + 1, by omega, by go_num, by rw [Hst.out]; rfl, below_trans' Hb.out hb3⟩
          case measure => simp [intOf]; omega
      · have hd : decide (l < 0) = false := by simpa using hneg
        obtain ⟨m, rfl⟩ : ∃ m : Nat, l = (m : Int) := ⟨l.toNat, by omega⟩
        obtain ⟨q, hqe, z0, z1, z2, z3, z4, z5, z6⟩ := hq m rfl
        have hmn : (m : Int) < (n : Int) := by omega
        have hm0 : (0 : Int) ≤ (m : Int) := by omega
        rw [hd, Int.toNat_natCast, hqe] at Hst
        obtain ⟨b2, hb2⟩ : ∃ b2, befB q o = b2 := ⟨_, rfl⟩
        have Hbq := Lib.hid hb2
        rw [hb2] at Hst
        clear hq hbd hb2 hqe
        rcases three_ways (o.kind == 0) b1 b2 with r1 | ⟨r1, r2⟩ | ⟨r1, r2, r3⟩ | ⟨r1, r2, r3⟩
        all_goals
          try subst r2
          try subst r3
          try rw [r1] at Hst
          have Hr1 := Lib.hid r1
          go_wp2_with fail
          refine wp_region_grow (by kernel_rfl) (by kernel_rfl) ?_
          repeat (go_big_quiet_step ((first | (go_at_call 59; with_reducible exact Calls.ext_of (Nat.le_refl _) (before_calls o c _ Hbe.out _)) | (go_at_call 59; with_reducible exact Calls.ext_of (Nat.le_refl _) (before_calls q o _ Hbq.out _)))))
          refine wpQuiet_end ?_
          intro w3 hb3
          go_wp2_with fail
          go_roundw
          case rel => exact ⟨i + 1, by omega, by go_num, by rw [Hst.out]; rfl, below_trans' Hb.out hb3⟩
          case measure => simp [intOf]; omega
    · have e1 : i = n := by omega
      subst e1
      have hge : ¬ ((i : Int) < (i : Int)) := by omega
      have Hb := Lib.hid hb
      clear hb
      rw [HV.out]
      go_wp2
      go_ret
      exact ⟨rfl, Hb.out⟩

set_option maxHeartbeats 2000000 in
theorem overlapsPut_calls (cs : List CallD) (c : CallD) (A : Option Addr) (n cap : Nat) (w : World) (hr : RowCalls w A cs) (hn : cs.length = n) (hl : n ≤ 1048576) (v : Bool) (hv : overB cs c n = v) :
    Calls Try.prog 66 #[.slice A n cap, c.val] w fun e w' => e = .returned (.bool v) ∧ Below w.heap.size w w' := by
  have HR := Lib.hid hr
  have HV := Lib.hid hv
  have Hn := Lib.hid hn
  clear hr hv hn
  have hlen : (n : Int) ≤ 1048576 := by omega
  go_enter Try.func66, Try.ntmps66
  go_wp2
  have HB0 := Lib.hid (below_alloc (Below.refl w.heap.size w) (.cells #[.int .i64 c.proc, .int .i64 c.obj, .int .i64 c.kind, .int .i64 c.arg, .int .i64 c.ret, .int .i64 c.fr, .int .i64 c.till] 45))
  go_loopw [9] (fun i wr => ∃ k : Nat, k ≤ n ∧ i = .int .i64 k ∧ Hid (overB cs c k = false) ∧ Below (w.heap.size + 1) (w.alloc (.cells #[.int .i64 c.proc, .int .i64 c.obj, .int .i64 c.kind, .int .i64 c.arg, .int .i64 c.ret, .int .i64 c.fr, .int .i64 c.till] 45)) wr) (fun i _ => n - (intOf i).toNat)
  case atStart => exact ⟨0, by omega, rfl, rfl, Below.refl _ _⟩
  case round =>
    obtain ⟨i, hi, rfl, HF, hb⟩ := hrel
    have hbw : Below w.heap.size w wr := HB0.out.trans (hb.mono (by omega))
    have hz1 : w.heap.size < wr.heap.size := by have := hb.size; simp at this; omega
    by_cases hlt : i < n
    · obtain ⟨b0, off, rfl, hat⟩ := HR.out (by have := Hn.out; omega)
      obtain ⟨o, ho⟩ : ∃ c, cs[i]? = some c := ⟨cs[i]'(by have := Hn.out; omega), List.getElem?_eq_getElem _⟩
      obtain ⟨x0, x1, x2, x3, x4, x5, x6⟩ := (RowCalls.at7 hat ho).below hbw
      have hcc : At7 wr w.heap.size 0 c := by
        refine ⟨?_, ?_, ?_, ?_, ?_, ?_, ?_⟩ <;> (rw [hb.cell (by simp)]; simp)
      obtain ⟨y0, y1, y2, y3, y4, y5, y6⟩ := hcc
      have hst : overB cs c (i + 1) = (o.kind == 0 && lapB o c) := by rw [overB, HF.out, hAt_eq ho]; rfl
      have hon : overB cs c (i + 1) = true → v = true := fun e => by
        rw [← HV.out]
        exact overB_mono (show i + 1 ≤ n by omega) e
      have Hst := Lib.hid hst
      have Hon := Lib.hid hon
      have Hb := Lib.hid hb
      have Hbw := Lib.hid hbw
      clear hat ho hst hon hb hbw
      have hi0 : (0 : Int) ≤ (i : Int) := by omega
      have hin : (i : Int) < (n : Int) := by omega
      obtain ⟨b1, hb1⟩ : ∃ b1, lapB o c = b1 := ⟨_, rfl⟩
      have Hbe := Lib.hid hb1
      rw [hb1] at Hst
      clear hb1
      rcases two_ways (o.kind == 0) b1 with r1 | ⟨r1, r2⟩ | ⟨r1, r2⟩
      rotate_right 1
      · subst r2
        have e1 : v = true := Hon.out (by rw [Hst.out, r1]; rfl)
        subst e1
        go_wp2_with (go_at_call 67; refine (implDoOverlap_calls o c _ Hbe.out _).mono ?_; rintro e w3 ⟨rfl, hb3⟩)
        go_ret
        have hbw := Hbw.out
        exact ⟨rfl, (by repeat (first | exact Below.refl _ _ | assumption | refine below_alloc ?_ _ | refine below_trans' ?_ (by assumption) | refine Below.drew ?_))⟩
      · have Hq : Hid (overB cs c (i + 1) = false) := by show _ = _; rw [Hst.out, r1]; rfl
        go_wp2
        go_roundw
        case rel => exact ⟨i + 1, by omega, by go_num, Hq, below_alloc' Hb.out _⟩
        case measure => simp [intOf]; omega
      · subst r2
        have Hq : Hid (overB cs c (i + 1) = false) := by show _ = _; rw [Hst.out, r1]; rfl
        go_wp2_with (go_at_call 67; refine (implDoOverlap_calls o c _ Hbe.out _).mono ?_; rintro e w3 ⟨rfl, hb3⟩)
        go_roundw
        case rel => exact ⟨i + 1, by omega, by go_num, Hq, (below_alloc' Hb.out _).trans (hb3.mono (by have := Hb.out.size; simp at this ⊢; omega))⟩
        case measure => simp [intOf]; omega
    · have e1 : i = n := by omega
      subst e1
      have hge : ¬ ((i : Int) < (i : Int)) := by omega
      have e2 : v = false := by rw [← HV.out]; exact HF.out
      subst e2
      have Hbw := Lib.hid hbw
      clear hb hbw
      go_wp2
      go_ret
      exact ⟨rfl, Hbw.out⟩
end Go.Proofs.Ytoeecaeaobfhmaa
