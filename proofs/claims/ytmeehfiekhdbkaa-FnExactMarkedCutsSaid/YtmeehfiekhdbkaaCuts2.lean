/-
  What CutsOf answers, of the reference, in memory of its own. No condition but lengths of at most 2 to the 20.
-/
import Derived.Test.YtmeehfiekhdbkaaCuts
namespace Go.Proofs.Ytmeehfiekhdbkaa
open Go.RowKit
set_option maxRecDepth 100000

set_option maxHeartbeats 2000000 in
theorem speccuts_calls (cs : List EventD) (A : Option Addr) (cap : Nat) (w : World) (hr : RowEvents w A cs) (hl : cs.length ≤ 7) :
    Calls Try.prog 26 #[.slice A cs.length cap] w fun e w' => ∃ v, e = .returned v ∧ OwnInts w' w.heap.size v (cutsTo cs cs.length (2 ^ cs.length)) ∧ Below w.heap.size w w' := by
  obtain ⟨i0, hi0, hz0, hz1, hz2⟩ := info_parts ints_info
  have hpw : pw cs.length = ((2 ^ cs.length : Nat) : Int) := by rw [pw_eq _ (by omega), two_cast]
  have hM : 2 ^ cs.length ≤ 2 ^ 7 := Nat.pow_le_pow_right (by omega) hl
  have HPW := Lib.hid (fun (W : World) => power_calls cs.length W (by omega))
  rw [hpw] at HPW
  have HIC := Lib.hid (fun (k : Nat) (hk : k < 2 ^ cs.length) (b : Bool) (hb : cutB cs cs.length k = b) (W : World) (hW : RowEvents W A cs) => specisCut_calls cs A cap k W hW (by omega) b (by
    rw [show inB (k : Int) 0 (2 ^ cs.length - 1) = true by simp only [inB, decide_eq_true_eq]; rw [← two_cast]; omega, Bool.true_and, Int.toNat_natCast, hb]))
  have HR := Lib.hid hr
  clear hr hpw
  generalize cs.length = n at *
  generalize 2 ^ n = M at *
  have hlen : (n : Int) ≤ 7 := by omega
  go_enter Try.func26, Try.ntmps26
  go_wp2
  go_loopw [3, 4] (fun v i wr => ∃ k : Nat, k ≤ M ∧ i = .int .i64 k ∧ wr.ownsRow w.heap.size 3 1 v (cutsTo cs n k).length ((cutsTo cs n k).flatMap intVals) ∧ Below w.heap.size w wr) (fun _ i _ => M - (intOf i).toNat)
  case atStart => exact ⟨0, by omega, rfl, World.ownsRow_made w #[] 0 (Nat.le_refl _) (by simp [maxLen]) rfl, below_alloc (Below.refl _ _) _⟩
  case round =>
    obtain ⟨i, hi, rfl, hown, hb⟩ := hrel
    obtain ⟨wo, rfl⟩ : ∃ wo : World, wo = wr := ⟨_, rfl⟩
    by_cases hlt : i < M
    · have hll := cutsTo_len cs n i
      have hyes := @cutsTo_yes cs n i
      have hno := @cutsTo_no cs n i
      obtain ⟨L, hL⟩ : ∃ L, cutsTo cs n i = L := ⟨_, rfl⟩
      rw [hL] at hll hyes hno hown
      obtain ⟨l, hl'⟩ : ∃ l, L.length = l := ⟨_, rfl⟩
      rw [hl'] at hll hown
      have HL := Lib.hid hl'
      have Hyes := Lib.hid hyes
      have Hno := Lib.hid hno
      have hrw := HR.out.below hb
      have Hrw := Lib.hid hrw
      have Hb := Lib.hid hb
      have Hown := Lib.hid hown
      have hlt5 := hown.lt
      have Hlt5 := Lib.hid hlt5
      clear hb hown hlt5 hyes hno hL hl' hrw
      have hi0' : (0 : Int) ≤ (i : Int) := by omega
      have hin : (i : Int) < (M : Int) := by omega
      have HC := Lib.hid (HIC.out i hlt)
      cases hcb : cutB cs n i
      · have Hcb := Lib.hid hcb
        clear hcb
        go_wp2_with (first
          | (go_at_call 25; refine (HPW.out _).mono ?_; rintro e w' ⟨rfl, rfl⟩)
          | (go_at_call 44; refine (HC.out _ Hcb.out _ Hrw.out).mono ?_; rintro e w3 ⟨rfl, hb3⟩))
        have hb := Hb.out
        first
          | exact ⟨⟨i + 1, by omega, by go_num, by rw [Hno.out Hcb.out, HL.out]; exact own_below Hown.out hb3, (by repeat (first | exact Below.refl _ _ | assumption | refine below_alloc ?_ _ | refine below_trans' ?_ (by assumption) | refine Below.drew ?_))⟩, by simp [intOf]; omega⟩
          | (go_roundw
             case rel => exact ⟨i + 1, by omega, by go_num, by rw [Hno.out Hcb.out, HL.out]; exact own_below Hown.out hb3, (by repeat (first | exact Below.refl _ _ | assumption | refine below_alloc ?_ _ | refine below_trans' ?_ (by assumption) | refine Below.drew ?_))⟩
             case measure => simp [intOf]; omega)
      · have Hcb := Lib.hid hcb
        clear hcb
        have hszb := Hb.out.size
        go_wp2_with (first
          | (go_at_call 25; refine (HPW.out _).mono ?_; rintro e w' ⟨rfl, rfl⟩)
          | (go_at_call 44; refine (HC.out _ Hcb.out _ Hrw.out).mono ?_; rintro e w3 ⟨rfl, hb3⟩; have hown := own_below Hown.out hb3; have hsz3 := hb3.size)
          | (at_builtin; refine wpList_append_own _ rfl (.tmp 16) (.tmp 18) 24 rfl w.heap.size 3 i0 _ 1 8 Try.underlying24 hi0 hz0 hz1 hz2 rfl (by omega) _ l (L.flatMap intVals) rfl (hown.alloc _) ⟨w3.heap.size, 0, none⟩ 1 1 [_] rfl rfl (int_new _ _ _) (int_one _) (by unfold maxLen; omega) (by omega) (by simp; omega) ?_; intro v1 wz hown1 hgrow _))
        go_roundw
        case rel =>
          refine ⟨i + 1, by omega, by go_num, ?_, ?_⟩
          · rw [Hyes.out Hcb.out, List.flatMap_append, List.length_append, HL.out]
            simpa [intVals] using hown1
          · exact (below_alloc (below_trans' Hb.out hb3) _).grown hgrow (by simp; omega) (fun q hq => (Hlt5.out q hq).1)
        case measure => simp [intOf]; omega
    · have hge : ¬ ((i : Int) < (M : Int)) := by omega
      have e1 : i = M := by omega
      subst e1
      go_wp2_with (go_at_call 25; refine (HPW.out _).mono ?_; rintro e w' ⟨rfl, rfl⟩)
      go_ret
      exact ⟨_, rfl, hown, hb⟩
end Go.Proofs.Ytmeehfiekhdbkaa
