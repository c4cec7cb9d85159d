/-
  From which put a look answers, of the program and of the reference: the same Lean function. No condition but lengths of at most 2 to the 20.
-/
import Derived.BigGuardPart
import Derived.Test.YtoeecaeaobfhmaaKeepP
namespace Go.Proofs.Ytoeecaeaobfhmaa
open Go.RowKit
set_option maxRecDepth 100000

set_option maxHeartbeats 2000000 in
theorem sourceOf_calls (cs : List CallD) (c : CallD) (A : Option Addr) (n cap : Nat) (w : World) (hr : RowCalls w A cs) (hn : cs.length = n) (hl : n ≤ 1048576) (v : Int) (hv : srcB cs c = v) :
    Calls Try.prog 63 #[.slice A n cap, c.val] w fun e w' => e = .returned (.int .i64 v) ∧ Below w.heap.size w w' := by
  have HR := Lib.hid hr
  have HV := Lib.hid hv
  have Hn := Lib.hid hn
  clear hr hv hn
  have hlen : (n : Int) ≤ 1048576 := by omega
  cases hz : (c.ret == 0)
  · have HZ := Lib.hid hz
    go_enter Try.func63, Try.ntmps63
    go_wp2
    have HB0 := Lib.hid (below_alloc (Below.refl w.heap.size w) (.cells #[.int .i64 c.proc, .int .i64 c.obj, .int .i64 c.kind, .int .i64 c.arg, .int .i64 c.ret, .int .i64 c.fr, .int .i64 c.till] 45))
    go_loopw [12] (fun i wr => ∃ k : Nat, k ≤ n ∧ i = .int .i64 k ∧ Below (w.heap.size + 1) (w.alloc (.cells #[.int .i64 c.proc, .int .i64 c.obj, .int .i64 c.kind, .int .i64 c.arg, .int .i64 c.ret, .int .i64 c.fr, .int .i64 c.till] 45)) wr ∧ Hid ((List.range k).all (fun j => !putB c.ret (hAt cs j)) = true)) (fun i _ => n - (intOf i).toNat)
    case atStart => exact ⟨0, by omega, rfl, Below.refl _ _, rfl⟩
    case round =>
      obtain ⟨i, hi, rfl, hb, HG⟩ := hrel
      have hbw : Below w.heap.size w wr := HB0.out.trans (hb.mono (by omega))
      have hz1 : w.heap.size < wr.heap.size := by have := hb.size; simp at this; omega
      by_cases hlt : i < n
      · obtain ⟨b0, off, rfl, hat⟩ := HR.out (by have := Hn.out; omega)
        obtain ⟨o, ho⟩ : ∃ c, cs[i]? = some c := ⟨cs[i]'(by have := Hn.out; omega), List.getElem?_eq_getElem _⟩
        obtain ⟨x0, x1, x2, x3, x4, x5, x6⟩ := (RowCalls.at7 hat ho).below hbw
        have y4 : wr.cell? ⟨w.heap.size, 4, none⟩ = some (.int .i64 c.ret) := by rw [hb.cell (p := ⟨w.heap.size, 4, none⟩) (by simp)]; simp
        have hst : (List.range (i + 1)).all (fun j => !putB c.ret (hAt cs j)) = !(o.kind == 0 && o.arg == c.ret) := by rw [all_range_succ, HG.out, hAt_eq ho]; rfl
        have hit : (o.kind == 0 && o.arg == c.ret) = true → v = (i : Int) := fun e => by
          rw [← HV.out, srcB_at cs HZ.out]
          exact srcAt_hit (by have := Hn.out; omega) HG.out (by rw [hAt_eq ho]; exact e)
        have Hst := Lib.hid hst
        have Hit := Lib.hid hit
        have Hb := Lib.hid hb
        have Hbw := Lib.hid hbw
        clear hat ho hst hit hb hbw hz
        have hi0 : (0 : Int) ≤ (i : Int) := by omega
        have hin : (i : Int) < (n : Int) := by omega
        rcases two_ways (o.kind == 0) (o.arg == c.ret) with r1 | ⟨r1, r2⟩ | ⟨r1, r2⟩
        rotate_right 1
        · skip
          have Hq := Lib.hid (Hit.out (by rw [r1, r2]; rfl))
          go_wp2
          go_ret
          have hbw := Hbw.out
          exact ⟨by rw [Hq.out]; rfl, (by repeat (first | exact Below.refl _ _ | assumption | refine below_alloc ?_ _ | refine below_trans' ?_ (by assumption) | refine Below.drew ?_))⟩
        all_goals
          have Hq : Hid ((List.range (i + 1)).all (fun j => !putB c.ret (hAt cs j)) = true) := by show _ = true; rw [Hst.out]; simp [*]
          go_wp2
          go_roundw
          case rel => exact ⟨i + 1, by omega, by go_num, below_alloc' Hb.out _, Hq⟩
          case measure => simp [intOf]; omega
      · have e1 : i = n := by omega
        subst e1
        have hge : ¬ ((i : Int) < (i : Int)) := by omega
        have e2 : v = -2 := by
          rw [← HV.out, srcB_at cs HZ.out]
          exact srcAt_none (by rw [Hn.out]; exact HG.out)
        subst e2
        clear hz hb
        have Hbw := Lib.hid hbw
        clear hbw
        go_wp2
        go_ret
        exact ⟨rfl, Hbw.out⟩
  · have e1 : v = -1 := by rw [← HV.out]; exact srcB_zero cs hz
    subst e1
    go_enter Try.func63, Try.ntmps63
    go_wp2
    go_ret
    exact ⟨rfl, (by repeat (first | exact Below.refl _ _ | assumption | refine below_alloc ?_ _ | refine below_trans' ?_ (by assumption) | refine Below.drew ?_))⟩

set_option maxHeartbeats 2000000 in
theorem source_calls (cs : List CallD) (m : Nat) (c : CallD) (hc : cs[m]? = some c) (A : Option Addr) (n cap : Nat) (w : World) (hr : RowCalls w A cs) (hn : cs.length = n) (hl : n ≤ 1048576) (v : Int) (hv : srcB cs c = v) :
    Calls Try.prog 61 #[.slice A n cap, .int .i64 m] w fun e w' => e = .returned (.int .i64 v) ∧ Below w.heap.size w w' := by
  have hm : m < n := by rw [← hn]; exact (List.getElem?_eq_some_iff.1 hc).1
  obtain ⟨b0, off, rfl, hat⟩ := hr (by omega)
  have hcm := RowCalls.at7 hat hc
  have HV := Lib.hid hv
  have Hn := Lib.hid hn
  have Hat := Lib.hid hat
  have Hcm := Lib.hid hcm
  obtain ⟨_, _, _, _, x4, _, _⟩ := hcm
  clear hr hv hn hat hc
  have hlen : (n : Int) ≤ 1048576 := by omega
  have hm0 : (0 : Int) ≤ (m : Int) := by omega
  have hmn : (m : Int) < (n : Int) := by omega
  cases hz : (c.ret == 0)
  · have HZ := Lib.hid hz
    go_enter Try.func61, Try.ntmps61
    go_wp2
    clear x4 hz
    go_loopw [5] (fun i wr => ∃ k : Nat, k ≤ n ∧ i = .int .i64 k ∧ Below w.heap.size w wr ∧ Hid ((List.range k).all (fun j => !putB c.ret (hAt cs j)) = true)) (fun i _ => n - (intOf i).toNat)
    case atStart => exact ⟨0, by omega, rfl, Below.refl _ _, rfl⟩
    case round =>
      obtain ⟨i, hi, rfl, hb, HG⟩ := hrel
      by_cases hlt : i < n
      · obtain ⟨o, ho⟩ : ∃ c, cs[i]? = some c := ⟨cs[i]'(by have := Hn.out; omega), List.getElem?_eq_getElem _⟩
        obtain ⟨x0, x1, x2, x3, x4, x5, x6⟩ := (RowCalls.at7 Hat.out ho).below hb
        have y4 := (Hcm.out.below hb).2.2.2.2.1
        have hbz : b0 < wr.heap.size := World.block_lt_of_cell? _ _ x0
        have hst : (List.range (i + 1)).all (fun j => !putB c.ret (hAt cs j)) = !(o.kind == 0 && o.arg == c.ret) := by rw [all_range_succ, HG.out, hAt_eq ho]; rfl
        have hit : (o.kind == 0 && o.arg == c.ret) = true → v = (i : Int) := fun e => by
          rw [← HV.out, srcB_at cs HZ.out]
          exact srcAt_hit (by have := Hn.out; omega) HG.out (by rw [hAt_eq ho]; exact e)
        have Hst := Lib.hid hst
        have Hit := Lib.hid hit
        have Hb := Lib.hid hb
        clear ho hst hit hb
        have hi0 : (0 : Int) ≤ (i : Int) := by omega
        have hin : (i : Int) < (n : Int) := by omega
        rcases two_ways (o.kind == 0) (o.arg == c.ret) with r1 | ⟨r1, r2⟩ | ⟨r1, r2⟩
        rotate_right 1
        · skip
          have Hq := Lib.hid (Hit.out (by rw [r1, r2]; rfl))
          go_wp2_with fail
          refine wp_region_grow (by kernel_rfl) (by kernel_rfl) ?_
          repeat (go_big_quiet_step (fail))
          refine wpQuiet_end ?_
          intro w3 hb3
          go_wp2_with fail
          go_ret
          exact ⟨by rw [Hq.out]; rfl, below_trans' Hb.out hb3⟩
        all_goals
          have Hq : Hid ((List.range (i + 1)).all (fun j => !putB c.ret (hAt cs j)) = true) := by show _ = true; rw [Hst.out]; simp [*]
          go_wp2_with fail
          refine wp_region_grow (by kernel_rfl) (by kernel_rfl) ?_
          repeat (go_big_quiet_step (fail))
          refine wpQuiet_end ?_
          intro w3 hb3
          go_wp2_with fail
          go_roundw
          case rel => exact ⟨i + 1, by omega, by go_num, below_trans' Hb.out hb3, Hq⟩
          case measure => simp [intOf]; omega
      · have e1 : i = n := by omega
        subst e1
        have hge : ¬ ((i : Int) < (i : Int)) := by omega
        have e2 : v = -2 := by
          rw [← HV.out, srcB_at cs HZ.out]
          exact srcAt_none (by rw [Hn.out]; exact HG.out)
        subst e2
        have Hb := Lib.hid hb
        clear hb
        go_wp2
        go_ret
        exact ⟨rfl, Hb.out⟩
  · have e1 : v = -1 := by rw [← HV.out]; exact srcB_zero cs hz
    subst e1
    go_enter Try.func61, Try.ntmps61
    go_wp2
    go_ret
    exact ⟨rfl, Below.refl _ _⟩
end Go.Proofs.Ytoeecaeaobfhmaa
