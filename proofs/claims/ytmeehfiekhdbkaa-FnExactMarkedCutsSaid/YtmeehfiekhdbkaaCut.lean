/-
  What the program and the reference answer on whether a set is a cut: the same Lean function. Asked: at most 20 events, and for the program's own test a set of them.
-/
import Derived.Test.YtmeehfiekhdbkaaEv2
import Derived.Test.YtmeehfiekhdbkaaPast
import Derived.Test.YtmeehfiekhdbkaaPast2
import Derived.Test.YtmeehfiekhdbkaaCutP
import Derived.Test.YtmeehfiekhdbkaaBitC
namespace Go.Proofs.Ytmeehfiekhdbkaa
open Go.RowKit
set_option maxRecDepth 100000

set_option maxHeartbeats 2000000 in
theorem implisCut_calls (cs : List EventD) (n s : Nat) (A : Option Addr) (cap : Nat) (w : World) (hr : RowInts w A (pastI cs n)) (hl : n ≤ 20) (hs : s < 2 ^ n) (b : Bool) (hb : cutB cs n s = b) :
    Calls Try.prog 48 #[.slice A n cap, .int .i64 s] w fun e w' => e = .returned (.bool b) ∧ w = w' := by
  have HR := Lib.hid hr
  have HV := Lib.hid hb
  have hs20 : s < 1048576 := Nat.lt_of_lt_of_le hs (by have : 2 ^ n ≤ 2 ^ 20 := Nat.pow_le_pow_right (by omega) hl; omega)
  clear hr hb hs
  have hlen : (n : Int) ≤ 20 := by omega
  go_enter Try.func48, Try.ntmps48
  go_wp2
  go_loop [9] (fun i => ∃ k : Nat, k ≤ n ∧ i = .int .i64 k ∧ Hid ((List.range k).all (cutAt cs s) = true)) (fun i => n - (intOf i).toNat)
  case atStart => exact ⟨0, by omega, rfl, rfl⟩
  case round =>
    obtain ⟨i, hi, rfl, HG⟩ := hrel
    by_cases hlt : i < n
    · obtain ⟨b0, off, rfl, hat⟩ := HR.out (by rw [pastI_len]; omega)
      have r0 := RowInts.at_ hat (pastI_row cs hlt)
      have hrl := pastRow_lt cs i
      have hp1 : 2 ^ (i + 1) ≤ 2 ^ 21 := Nat.pow_le_pow_right (by omega) (by omega)
      have hcut : cutAt cs s i = !(bitN s i == 1 && (pastRow cs i &&& s) != pastRow cs i) := rfl
      have hz := xor_and_zero (pastRow cs i) s
      generalize pastRow cs i = r at *
      have hbit := bit_and (r := s) (by omega) i
      have hand := i64_andNot_nat r s (by omega) (by omega)
      have hbl := bitN_le s i
      generalize bitN s i = bb at *
      generalize r ^^^ (r &&& s) = q at *
      have Hcut := Lib.hid hcut
      have Hz := Lib.hid hz
      clear HR hat hrl hp1 hcut hz
      have hi0 : (0 : Int) ≤ (i : Int) := by omega
      have hin : (i : Int) < (n : Int) := by omega
      have hi64 : (i : Int) ≤ 64 := by omega
      have hfalse : cutAt cs s i = false → b = false := fun h => by rw [← HV.out]; exact all_range_false hlt h
      have HF := Lib.hid hfalse
      have htrue : cutAt cs s i = true → (List.range (i + 1)).all (cutAt cs s) = true := fun h => by rw [all_range_succ, HG.out, h]; rfl
      have HT := Lib.hid htrue
      clear hfalse htrue
      have hbb : bb = 0 ∨ bb = 1 := by omega
      rcases hbb with rfl | rfl
      · go_wp2
        exact ⟨⟨i + 1, by omega, by go_num, HT.out (by rw [Hcut.out]; rfl)⟩, by simp [intOf]; omega⟩
      · cases hq : ((q : Int) != 0)
        · go_wp2
          have h1 : q = 0 := by simpa using hq
          exact ⟨⟨i + 1, by omega, by go_num, HT.out (by rw [Hcut.out, Hz.out.1 h1]; simp)⟩, by simp [intOf]; omega⟩
        · go_wp2
          go_ret
          have h1 : ¬ q = 0 := by simpa using hq
          have h2 : r &&& s ≠ r := fun h => h1 (Hz.out.2 h)
          have e1 := HF.out (by rw [Hcut.out]; simp [h2])
          rw [e1]
          exact ⟨rfl, rfl⟩
    · have hge : ¬ ((i : Int) < (n : Int)) := by omega
      have e1 : i = n := by omega
      subst e1
      have e1 : b = true := by rw [← HV.out]; exact HG.out
      subst e1
      go_wp2
      go_ret
      exact ⟨rfl, rfl⟩

theorem isSet_calls (cs : List EventD) (x : Int) (A : Option Addr) (cap : Nat) (w : World) (hr : RowEvents w A cs) (hl : cs.length ≤ 1048576) (hcap : cs.length ≤ cap) (b : Bool) (hb : (evB cs && inB x 0 (2 ^ cs.length - 1)) = b) :
    Calls Try.prog 29 #[.slice A cs.length cap, .int .i64 x] w fun e w' => e = .returned (.bool b) ∧ Below w.heap.size w w' := by
  have HR := Lib.hid hr
  clear hr
  cases hv : evB cs
  · have HV := Lib.hid hv
    have e1 : b = false := by rw [← hb, hv]; rfl
    subst e1
    clear hv hb
    go_enter Try.func29, Try.ntmps29
    go_wp2_with (go_at_call 36; refine (implValidEvents_calls cs A cap _ HR.out hl hcap false HV.out).mono ?_; rintro e w1 ⟨rfl, hb1⟩)
    go_ret
    exact ⟨rfl, hb1⟩
  · have HV := Lib.hid hv
    have h7 := evB_len hv
    rw [hv, Bool.true_and] at hb
    have hsh := shift_less (m := cs.length) (by omega)
    have HWI := Lib.hid (fun (W : World) => within_calls x 0 (2 ^ cs.length - 1) W)
    have HVI := Lib.hid (fun (W : World) (hW : Below w.heap.size w W) => implValidEvents_calls cs A cap W (HR.out.below hW) hl hcap true HV.out)
    rw [hb] at HWI
    generalize cs.length = n at *
    clear hb hv HR HV
    have hn64 : (n : Int) ≤ 64 := by omega
    go_enter Try.func29, Try.ntmps29
    go_wp2_with (first
      | (go_at_call 36; refine (HVI.out _ (Below.refl _ _)).mono ?_; rintro e w1 ⟨rfl, hb1⟩)
      | (go_at_call 46; refine (HWI.out _).mono ?_; rintro e w' ⟨rfl, rfl⟩))
    go_ret
    exact ⟨rfl, hb1⟩

set_option maxHeartbeats 2000000 in
theorem specisCut_calls (cs : List EventD) (A : Option Addr) (cap : Nat) (x : Int) (w : World) (hr : RowEvents w A cs) (hl : cs.length ≤ 20) (b : Bool) (hb : (inB x 0 (2 ^ cs.length - 1) && cutB cs cs.length x.toNat) = b) :
    Calls Try.prog 44 #[.slice A cs.length cap, .int .i64 x] w fun e w' => e = .returned (.bool b) ∧ Below w.heap.size w w' := by
  have HR := Lib.hid hr
  have hpw : wrap64 (pw cs.length - 1) = 2 ^ cs.length - 1 := by
    rw [pw_eq _ (by omega)]
    have h1 : (2 : Int) ^ cs.length ≤ 2 ^ 61 := two_le (by omega)
    have h0 := two_pos cs.length
    generalize (2 : Int) ^ cs.length = t at *
    have e : (2 : Int) ^ 61 = 2305843009213693952 := by decide
    rw [e] at h1
    rw [IntWalk.wrap64_in _ ⟨by omega, by omega⟩]
  have HPW := Lib.hid (fun (W : World) => power_calls cs.length W (by omega))
  have HWI := Lib.hid (fun (W : World) => inRange_calls x 0 (2 ^ cs.length - 1) W)
  rw [← hpw] at HWI
  have HPA := Lib.hid (fun (W : World) (hW : Below w.heap.size w W) => specpast_calls cs A cap W (HR.out.below hW) hl)
  have hpl : (pastL cs).length = cs.length := pastI_len _ _
  generalize pw cs.length = p at *
  cases hin : inB x 0 (2 ^ cs.length - 1)
  · have e1 : b = false := by rw [← hb, hin]; rfl
    subst e1
    rw [hpw, hin, ← hpw] at HWI
    clear hb hin hr HR hpw
    go_enter Try.func44, Try.ntmps44
    go_wp2_with fail
    refine (HPA.out _ (Below.refl _ _)).mono ?_
    rintro e w2 ⟨vr, rfl, hor, hb2⟩
    go_wp2_with (first
      | (go_at_call 25; refine (HPW.out _).mono ?_; rintro e w' ⟨rfl, rfl⟩)
      | (go_at_call 24; refine (HWI.out _).mono ?_; rintro e w' ⟨rfl, rfl⟩))
    go_ret
    exact ⟨rfl, hb2⟩
  · obtain ⟨s, rfl, hs⟩ := inB_two hin
    rw [hin, Bool.true_and, Int.toNat_natCast] at hb
    rw [hpw, hin, ← hpw] at HWI
    have hs20 : s < 1048576 := Nat.lt_of_lt_of_le hs (by have : 2 ^ cs.length ≤ 2 ^ 20 := Nat.pow_le_pow_right (by omega) hl; omega)
    have HV := Lib.hid hb
    clear hb hin hr HR hpw hs
    go_enter Try.func44, Try.ntmps44
    go_wp2_with fail
    refine (HPA.out _ (Below.refl _ _)).mono ?_
    rintro e w2 ⟨vr, rfl, hor, hb2⟩
    unfold OwnInts at hor
    rw [hpl] at hor
    obtain ⟨Ar, cr, rfl, hrc, hrm, _⟩ := own_form hor
    have hrow : RowInts w2 Ar (pastI cs cs.length) := RowOf.of_own (pastI_len cs _).symm (fun _ _ => rfl) hor
    have Hrow := Lib.hid hrow
    clear hrow hor
    have Hb2 := Lib.hid hb2
    clear hb2
    go_wp2_with (first
      | (go_at_call 25; refine (HPW.out _).mono ?_; rintro e w' ⟨rfl, rfl⟩)
      | (go_at_call 24; refine (HWI.out _).mono ?_; rintro e w' ⟨rfl, rfl⟩))
    generalize hn : cs.length = n at *
    clear HPA HPW HWI
    have hlen : (n : Int) ≤ 20 := by omega
    go_loopw [6] (fun i wr => ∃ k : Nat, k ≤ n ∧ i = .int .i64 k ∧ Below w.heap.size w wr ∧ RowInts wr Ar (pastI cs n) ∧ Hid ((List.range k).all (cutAt cs s) = true)) (fun i _ => n - (intOf i).toNat)
    case atStart => exact ⟨0, by omega, rfl, Hb2.out, Hrow.out, rfl⟩
    case round =>
      obtain ⟨i, hi, rfl, hb, hrw, HG⟩ := hrel
      by_cases hlt : i < n
      · obtain ⟨b0, off, rfl, hat⟩ := hrw (by rw [pastI_len]; omega)
        have HRW := Lib.hid hrw
        have r0 := RowInts.at_ hat (pastI_row cs hlt)
        have hbz : b0 < wr.heap.size := World.block_lt_of_cell? _ _ r0
        have hrl := pastRow_lt cs i
        have hp1 : 2 ^ (i + 1) ≤ 2 ^ 21 := Nat.pow_le_pow_right (by omega) (by omega)
        have hcut : cutAt cs s i = !(bitN s i == 1 && (pastRow cs i &&& s) != pastRow cs i) := rfl
        generalize pastRow cs i = r at *
        have HBC := Lib.hid (fun (W : World) => bit_calls s i (by omega) (by omega) W)
        have hand := i64_and_nat r s (by omega) (by omega)
        have hbl := bitN_le s i
        generalize bitN s i = bb at *
        generalize r &&& s = q at *
        have Hcut := Lib.hid hcut
        have Hb := Lib.hid hb
        clear hat hrl hp1 hcut hb hrw
        have hi0 : (0 : Int) ≤ (i : Int) := by omega
        have hin : (i : Int) < (n : Int) := by omega
        have hfalse : cutAt cs s i = false → b = false := fun h => by rw [← HV.out]; exact all_range_false hlt h
        have HF := Lib.hid hfalse
        have htrue : cutAt cs s i = true → (List.range (i + 1)).all (cutAt cs s) = true := fun h => by rw [all_range_succ, HG.out, h]; rfl
        have HT := Lib.hid htrue
        clear hfalse htrue
        have hbb : bb = 0 ∨ bb = 1 := by omega
        rcases hbb with rfl | rfl
        · go_wp2_with fail
          refine wp_region_grow (by kernel_rfl) (by kernel_rfl) ?_
          repeat (go_big_quiet_step ((go_at_call 45; exact Calls.ext_same (HBC.out _))))
          refine wpQuiet_end ?_
          intro w3 hb3
          go_wp2_with fail
          have hb := Hb.out
          exact ⟨⟨i + 1, by omega, by go_num, (by repeat (first | exact Below.refl _ _ | assumption | refine below_alloc ?_ _ | refine below_trans' ?_ (by assumption) | refine Below.drew ?_)), HRW.out.below hb3, HT.out (by rw [Hcut.out]; rfl)⟩, by simp [intOf]; omega⟩
        · cases hq : ((q : Int) != (r : Int))
          · go_wp2_with fail
            refine wp_region_grow (by kernel_rfl) (by kernel_rfl) ?_
            repeat (go_big_quiet_step ((go_at_call 45; exact Calls.ext_same (HBC.out _))))
            refine wpQuiet_end ?_
            intro w3 hb3
            go_wp2_with fail
            have h1 : q = r := by have := hq; simp at this; omega
            have hb := Hb.out
            exact ⟨⟨i + 1, by omega, by go_num, (by repeat (first | exact Below.refl _ _ | assumption | refine below_alloc ?_ _ | refine below_trans' ?_ (by assumption) | refine Below.drew ?_)), HRW.out.below hb3, HT.out (by rw [Hcut.out, h1]; simp)⟩, by simp [intOf]; omega⟩
          · go_wp2_with fail
            refine wp_region_grow (by kernel_rfl) (by kernel_rfl) ?_
            repeat (go_big_quiet_step ((go_at_call 45; exact Calls.ext_same (HBC.out _))))
            refine wpQuiet_end ?_
            intro w3 hb3
            go_wp2_with fail
            go_ret
            have h1 : q ≠ r := by intro h; subst h; simp at hq
            have e1 := HF.out (by rw [Hcut.out]; simp [h1])
            rw [e1]
            have hb := Hb.out
            exact ⟨rfl, (by repeat (first | exact Below.refl _ _ | assumption | refine below_alloc ?_ _ | refine below_trans' ?_ (by assumption) | refine Below.drew ?_))⟩
      · have hge : ¬ ((i : Int) < (n : Int)) := by omega
        have e1 : i = n := by omega
        subst e1
        have e1 : b = true := by rw [← HV.out]; exact HG.out
        subst e1
        go_wp2
        go_ret
        exact ⟨rfl, hb⟩
end Go.Proofs.Ytmeehfiekhdbkaa
