/-
  What WaysOf and IsSure answer, of the program and of the reference: the same Lean functions. No condition but lengths of at most 2 to the 20.
-/
import Derived.Test.YtmeehfiekhdbkaaWays
import Derived.Test.YtmeehfiekhdbkaaWays3
namespace Go.Proofs.Ytmeehfiekhdbkaa
open Go.RowKit
set_option maxRecDepth 100000

theorem callFunc_all (args : Array Value) (W : World) : (callFunc 38 args).run Try.prog W = .ok (.enter 38 args) W := by kernel_rfl
theorem callFunc_sure (args : Array Value) (W : World) : (callFunc 40 args).run Try.prog W = .ok (.enter 40 args) W := by kernel_rfl
theorem clo_all (v : Value) (w : World) : Calls Try.prog 38 #[v] w fun e w' => e = .returned (.bool true) ∧ Below w.heap.size w w' := by
  go_enter Try.func38, Try.ntmps38
  go_wp2
  go_ret
  exact ⟨rfl, Below.refl _ _⟩
theorem clo_sure (cs : List EventD) (A : Option Addr) (cap g h m S : Nat) (w : World) (hr : RowEvents w A cs) (hg : w.cell? ⟨g, 0, none⟩ = some (.slice A cs.length cap)) (hh : w.cell? ⟨h, 0, none⟩ = some (.int .i64 m)) (hl : cs.length ≤ 20) (hS : S < 2 ^ 20) (hm : m < 2 ^ 20) :
    Calls Try.prog 40 #[.int .i64 S, .pointer (some ⟨g, 0, none⟩), .pointer (some ⟨h, 0, none⟩)] w fun e w' => e = .returned (.bool (!markB cs m S)) ∧ Below w.heap.size w w' := by
  have HC := Lib.hid (isMarked_calls cs S m A cap w hr hl hS hm _ rfl)
  have hgz : g < w.heap.size := World.block_lt_of_cell? _ _ hg
  have hhz : h < w.heap.size := World.block_lt_of_cell? _ _ hh
  clear hr hl hS hm
  generalize markB cs m S = q at *
  generalize cs.length = n at *
  go_enter Try.func40, Try.ntmps40
  go_wp2_with (go_at_call 33; with_reducible refine (HC.out).mono ?_; rintro e w1 ⟨rfl, hb1⟩)
  go_ret
  exact ⟨rfl, hb1⟩

set_option maxHeartbeats 1000000 in
theorem implWaysOf_calls (cs : List EventD) (A : Option Addr) (cap : Nat) (w : World) (hr : RowEvents w A cs) (hl : cs.length ≤ 1048576) (hcap : cs.length ≤ cap) :
    Calls Try.prog 17 #[.slice A cs.length cap] w fun e w' => e = .returned (.int .i64 (waysV cs)) ∧ Below w.heap.size w w' := by
  have HR := Lib.hid hr
  clear hr
  cases hv : evB cs
  · have E1 := Lib.hid (show waysV cs = -1 by simp [waysV, hv])
    have HV := Lib.hid hv
    clear hv
    go_enter Try.func17, Try.ntmps17
    go_wp2_with (go_at_call 36; refine (implValidEvents_calls cs A cap _ HR.out hl hcap false HV.out).mono ?_; rintro e w1 ⟨rfl, hb1⟩)
    go_ret
    exact ⟨by rw [E1.out]; rfl, hb1⟩
  · have E1 := Lib.hid (show waysV cs = ((way (opW cs fun _ => true) cs.length (2 ^ cs.length - 1) : Nat) : Int) by simp [waysV, hv])
    have HV := Lib.hid hv
    have h7 := evB_len hv
    clear hv
    go_enter Try.func17, Try.ntmps17
    go_wp2_with (go_at_call 36; refine (implValidEvents_calls cs A cap _ HR.out hl hcap true HV.out).mono ?_; rintro e w1 ⟨rfl, hb1⟩)
    refine (implways_calls 38 #[] cs (fun _ => true) A cap _ (HR.out.below hb1) h7 hcap (fun _ _ => callFunc_all _ _) (fun W S _ _ => clo_all _ W)).mono ?_
    rintro e w2 ⟨rfl, hb2⟩
    go_wp2_with fail
    go_ret
    exact ⟨by rw [E1.out]; rfl, (by repeat (first | exact Below.refl _ _ | assumption | refine below_alloc ?_ _ | refine below_trans' ?_ (by assumption) | refine Below.drew ?_))⟩

set_option maxHeartbeats 1000000 in
theorem specWaysOf_calls (cs : List EventD) (A : Option Addr) (cap : Nat) (w : World) (hr : RowEvents w A cs) (hl : cs.length ≤ 1048576) :
    Calls Try.prog 16 #[.slice A cs.length cap] w fun e w' => e = .returned (.int .i64 (waysV cs)) ∧ Below w.heap.size w w' := by
  have HR := Lib.hid hr
  clear hr
  cases hv : evB cs
  · have E1 := Lib.hid (show waysV cs = -1 by simp [waysV, hv])
    have HV := Lib.hid hv
    clear hv
    go_enter Try.func16, Try.ntmps16
    go_wp2_with (go_at_call 23; refine (specValid_calls cs A cap _ HR.out hl false HV.out).mono ?_; rintro e w1 ⟨rfl, hb1⟩)
    go_ret
    exact ⟨by rw [E1.out]; rfl, hb1⟩
  · have E1 := Lib.hid (show waysV cs = ((back (opW cs fun _ => true) cs.length cs.length 0 : Nat) : Int) by simp [waysV, hv, way_back])
    have HV := Lib.hid hv
    have h7 := evB_len hv
    have HC := Lib.hid (show ∀ W : World, RowEvents W A cs → Calls Try.prog 35 #[.slice A cs.length cap, .int .i64 0] W fun e w' => e = .returned (.int .i64 (back (opW cs fun _ => true) cs.length cs.length 0 : Nat)) ∧ Below W.heap.size W w' from
      fun W hW => specways_calls cs A cap h7 cs.length 0 W hW (Nat.two_pow_pos _) (by rw [(sz_zero (Nat.two_pow_pos _)).2 rfl]; omega) (cutB_head cs cs.length 0))
    clear hv
    go_enter Try.func16, Try.ntmps16
    go_wp2_with (first
      | (go_at_call 23; refine (specValid_calls cs A cap _ HR.out hl true HV.out).mono ?_; rintro e w1 ⟨rfl, hb1⟩)
      | (go_at_call 35; with_reducible refine (HC.out _ (HR.out.below hb1)).mono ?_; rintro e w2 ⟨rfl, hb2⟩))
    go_ret
    exact ⟨by rw [E1.out]; rfl, (by repeat (first | exact Below.refl _ _ | assumption | refine below_alloc ?_ _ | refine below_trans' ?_ (by assumption) | refine Below.drew ?_))⟩

set_option maxHeartbeats 1000000 in
theorem implIsSure_calls (cs : List EventD) (A : Option Addr) (cap : Nat) (x : Int) (w : World) (hr : RowEvents w A cs) (hl : cs.length ≤ 1048576) (hcap : cs.length ≤ cap) (b : Bool) (hb : sureB cs x = b) :
    Calls Try.prog 19 #[.slice A cs.length cap, .int .i64 x] w fun e w' => e = .returned (.bool b) ∧ Below w.heap.size w w' := by
  have HR := Lib.hid hr
  clear hr
  cases hv : (evB cs && inB x 0 (2 ^ cs.length - 1))
  · have HV := Lib.hid hv
    have e1 : b = false := by rw [← hb, sureB, ← Bool.and_assoc, hv]; rfl
    subst e1
    clear hv hb
    go_enter Try.func19, Try.ntmps19
    go_wp2_with (go_at_call 29; refine (isSet_calls cs x A cap _ (HR.out.below (below_alloc (below_alloc (Below.refl _ _) _) _)) hl hcap false HV.out).mono ?_; rintro e w1 ⟨rfl, hb1⟩)
    go_ret
    exact ⟨rfl, (by repeat (first | exact Below.refl _ _ | assumption | refine below_alloc ?_ _ | refine below_trans' ?_ (by assumption) | refine Below.drew ?_))⟩
  · have HV := Lib.hid hv
    have hb' : decide (way (opW cs fun s => !markB cs x.toNat s) cs.length (2 ^ cs.length - 1) = 0) = b := by rw [← hb, sureB, ← Bool.and_assoc, hv]; rfl
    simp only [Bool.and_eq_true] at hv
    have h7 := evB_len hv.1
    obtain ⟨m, rfl, hs⟩ := inB_two hv.2
    rw [Int.toNat_natCast] at hb'
    have hm : m < 2 ^ 20 := Nat.lt_of_lt_of_le hs (Nat.pow_le_pow_right (by omega) (by omega))
    have hp : 2 ^ cs.length ≤ 2 ^ 20 := Nat.pow_le_pow_right (by omega) (by omega)
    have hq : (((way (opW cs fun s => !markB cs m s) cs.length (2 ^ cs.length - 1) : Nat) : Int) == 0) = b := by
      rw [← hb', Bool.eq_iff_iff]; simp
    have Hq := Lib.hid hq
    have Hp := Lib.hid hp
    clear hv hb hs hb' hq hp
    go_enter Try.func19, Try.ntmps19
    go_wp2_with fail
    refine (isSet_calls cs m A cap _ (HR.out.below (below_alloc (below_alloc (Below.refl _ _) _) _)) hl hcap true HV.out).mono ?_
    rintro e w1 ⟨rfl, hb1⟩
    obtain ⟨hc1, _⟩ := bcell hb1
    have hl0 : w.heap.size + 1 < w1.heap.size := by have := hb1.size; simp at this; omega
    have hcel1 : (w.alloc (.cells #[.slice A cs.length cap] 26)).cell? ⟨w.heap.size, 0, none⟩ = some (.slice A cs.length cap) := by simp
    have hcell := cell_below hb1 (cell_below (below_alloc (Below.refl _ _) (.cells #[.int .i64 m] 3)) hcel1)
    have hcel2 : w1.cell? ⟨w.heap.size + 1, 0, none⟩ = some (.int .i64 m) := by
      rw [hc1 _ _ (by simp)]
      have e : w.heap.size + 1 = (w.alloc (.cells #[.slice A cs.length cap] 26)).heap.size := by simp
      rw [e, World.cell?_alloc_new]; rfl
    have hbw1 : Below w.heap.size w w1 := (by repeat (first | exact Below.refl _ _ | assumption | refine below_alloc ?_ _ | refine below_trans' ?_ (by assumption) | refine Below.drew ?_))
    go_wp2_with fail
    refine (implways_calls 40 #[.pointer (some ⟨w.heap.size, 0, none⟩), .pointer (some ⟨w.heap.size + 1, 0, none⟩)] cs (fun s => !markB cs m s) A cap _ (HR.out.below hbw1) h7 hcap (fun _ _ => callFunc_sure _ _) (fun W S hW hS => clo_sure cs A cap w.heap.size (w.heap.size + 1) m S W (HR.out.below (below_trans' hbw1 hW)) (cell_below hW hcell) (cell_below hW hcel2) (by omega) (by have := Hp.out; omega) hm)).mono ?_
    rintro e w2 ⟨rfl, hb2⟩
    have Hq' := Hq.out
    generalize way (opW cs fun s => !markB cs m s) cs.length (2 ^ cs.length - 1) = y at *
    go_wp2_with fail
    go_ret
    exact ⟨by rw [← Hq.out]; rfl, (by repeat (first | exact Below.refl _ _ | assumption | refine below_alloc ?_ _ | refine below_trans' ?_ (by assumption) | refine Below.drew ?_))⟩

set_option maxHeartbeats 1000000 in
theorem specIsSure_calls (cs : List EventD) (A : Option Addr) (cap : Nat) (x : Int) (w : World) (hr : RowEvents w A cs) (hl : cs.length ≤ 1048576) (b : Bool) (hb : sureB cs x = b) :
    Calls Try.prog 18 #[.slice A cs.length cap, .int .i64 x] w fun e w' => e = .returned (.bool b) ∧ Below w.heap.size w w' := by
  have HR := Lib.hid hr
  clear hr
  cases hv : evB cs
  · have e1 : b = false := by rw [← hb, sureB, hv]; rfl
    subst e1
    have HV := Lib.hid hv
    clear hv hb
    go_enter Try.func18, Try.ntmps18
    go_wp2_with (go_at_call 23; refine (specValid_calls cs A cap _ HR.out hl false HV.out).mono ?_; rintro e w1 ⟨rfl, hb1⟩)
    go_ret
    exact ⟨rfl, hb1⟩
  have HV := Lib.hid hv
  have h7 := evB_len hv
  have hM : 2 ^ cs.length ≤ 2 ^ 7 := Nat.pow_le_pow_right (by omega) (by omega)
  have hM1 : 1 ≤ 2 ^ cs.length := Nat.two_pow_pos _
  have hpw : pw cs.length = ((2 ^ cs.length : Nat) : Int) := by rw [pw_eq _ (by omega), two_cast]
  have HPW := Lib.hid (fun (W : World) => hpw ▸ power_calls cs.length W (by omega))
  rw [sureB, hv, Bool.true_and] at hb
  rw [← two_cast] at hb
  cases hin : inB x 0 (((2 ^ cs.length : Nat) : Int) - 1)
  · have e1 : b = false := by rw [← hb, hin]; rfl
    subst e1
    have HWI := Lib.hid (fun (W : World) => hin ▸ inRange_calls x 0 (((2 ^ cs.length : Nat) : Int) - 1) W)
    clear hv hb hpw hin
    generalize 2 ^ cs.length = M at *
    have hMi : (M : Int) ≤ 128 := by omega
    have hMj : (1 : Int) ≤ (M : Int) := by omega
    go_enter Try.func18, Try.ntmps18
    go_wp2_with (first
      | (go_at_call 23; refine (specValid_calls cs A cap _ HR.out hl true HV.out).mono ?_; rintro e w1 ⟨rfl, hb1⟩)
      | (go_at_call 25; with_reducible refine (HPW.out _).mono ?_; rintro e w' ⟨rfl, rfl⟩)
      | (go_at_call 24; with_reducible refine (HWI.out _).mono ?_; rintro e w' ⟨rfl, rfl⟩))
    go_ret
    exact ⟨rfl, hb1⟩
  · have HWI := Lib.hid (fun (W : World) => hin ▸ inRange_calls x 0 (((2 ^ cs.length : Nat) : Int) - 1) W)
    rw [hin, Bool.true_and] at hb
    rw [two_cast] at hin
    obtain ⟨m, rfl, hs⟩ := inB_two hin
    rw [Int.toNat_natCast, sure_way] at hb
    have hm : m < 2 ^ 20 := Nat.lt_of_lt_of_le hs (Nat.pow_le_pow_right (by omega) (by omega))
    have HC := Lib.hid (show ∀ W : World, RowEvents W A cs → Calls Try.prog 39 #[.slice A cs.length cap, .int .i64 m, .int .i64 0] W fun e w' => e = .returned (.bool (isWay (opW cs fun s => !markB cs m s) cs.length cs.length 0)) ∧ Below W.heap.size W w' from
      fun W hW => specavoid_calls cs m A cap h7 hm cs.length 0 W hW (Nat.two_pow_pos _) (by rw [(sz_zero (Nat.two_pow_pos _)).2 rfl]; omega) (cutB_head cs cs.length 0) _ rfl)
    have Hb := Lib.hid hb
    clear hv hb hpw hin hs
    generalize isWay (opW cs fun s => !markB cs m s) cs.length cs.length 0 = q at *
    generalize 2 ^ cs.length = M at *
    have hMi : (M : Int) ≤ 128 := by omega
    have hMj : (1 : Int) ≤ (M : Int) := by omega
    go_enter Try.func18, Try.ntmps18
    go_wp2_with (first
      | (go_at_call 23; refine (specValid_calls cs A cap _ HR.out hl true HV.out).mono ?_; rintro e w1 ⟨rfl, hb1⟩)
      | (go_at_call 25; with_reducible refine (HPW.out _).mono ?_; rintro e w' ⟨rfl, rfl⟩)
      | (go_at_call 24; with_reducible refine (HWI.out _).mono ?_; rintro e w' ⟨rfl, rfl⟩)
      | (go_at_call 39; with_reducible refine (HC.out _ (HR.out.below hb1)).mono ?_; rintro e w2 ⟨rfl, hb2⟩))
    go_ret
    exact ⟨by rw [← Hb.out]; rfl, (by repeat (first | exact Below.refl _ _ | assumption | refine below_alloc ?_ _ | refine below_trans' ?_ (by assumption) | refine Below.drew ?_))⟩
end Go.Proofs.Ytmeehfiekhdbkaa
