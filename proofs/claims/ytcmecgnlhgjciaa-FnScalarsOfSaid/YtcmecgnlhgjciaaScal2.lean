/-
  What ScalarsOf answers, of the reference, in memory of its own. No condition but lengths of at most 2 to the 20.
-/
import Derived.Test.YtcmecgnlhgjciaaEv2
import Derived.Test.YtcmecgnlhgjciaaPast
import Derived.Test.YtcmecgnlhgjciaaPast2
import Derived.Test.YtcmecgnlhgjciaaScalP
import Derived.Test.YtcmecgnlhgjciaaAppD
import Derived.Test.YtcmecgnlhgjciaaBitC
namespace Go.Proofs.Ytcmecgnlhgjciaa
open Go.RowKit
set_option maxRecDepth 100000

set_option maxHeartbeats 2000000 in
theorem specScalarsOf_calls (cs : List EventD) (A : Option Addr) (cap : Nat) (w : World) (hr : RowEvents w A cs) (hl : cs.length ≤ 1048576) :
    Calls Try.prog 30 #[.slice A cs.length cap] w fun e w' => ∃ v, e = .returned v ∧ OwnInts w' w.heap.size v (scalOfL cs) ∧ Below w.heap.size w w' := by
  have HR := Lib.hid hr
  clear hr
  cases hv : evB cs
  · have E1 := Lib.hid (show scalOfL cs = [] by simp [scalOfL, hv])
    have HV := Lib.hid hv
    clear hv
    go_enter Try.func30, Try.ntmps30
    go_wp2_with (go_at_call 49; refine (specValid_calls cs A cap _ HR.out hl false HV.out).mono ?_; rintro e w1 ⟨rfl, hb1⟩)
    go_ret
    exact ⟨_, rfl, by unfold OwnInts; rw [E1.out]; exact World.ownsRow_nil _ _ _ _, hb1⟩
  have E1 := Lib.hid (show scalOfL cs = scI cs cs.length by simp [scalOfL, hv])
  have HV := Lib.hid hv
  have h7 := evB_len hv
  clear hv
  obtain ⟨i0, hi0, hz0, hz1, hz2⟩ := info_parts ints_info
  go_enter Try.func30, Try.ntmps30
  go_wp2_with (go_at_call 49; refine (specValid_calls cs A cap _ HR.out hl true HV.out).mono ?_; rintro e w1 ⟨rfl, hb1⟩)
  have hbw1 : Below w.heap.size w w1 := hb1
  refine (specpast_calls cs A cap _ (HR.out.below hbw1) (by omega)).mono ?_
  rintro e w2 ⟨vr, rfl, hor, hb2⟩
  have hbw2 : Below w.heap.size w w2 := below_trans' hbw1 hb2
  unfold OwnInts at hor
  rw [show (pastL cs).length = cs.length from pastI_len _ _] at hor
  obtain ⟨Ar, cr, rfl, hrc, hrm, _⟩ := own_form hor
  unfold pastL at hor
  have hrow : RowInts w2 Ar (pastI cs cs.length) := RowOf.of_own (pastI_len cs _).symm (fun _ _ => rfl) hor
  clear hor hb1 hb2 hbw1 HR HV
  generalize hn : cs.length = n at *
  have hsz2 := hbw2.size
  have HO := Lib.hid hrow
  have HB2 := Lib.hid hbw2
  clear hbw2 hn hrow
  have hlen : (n : Int) ≤ 7 := by omega
  go_wp2_with fail
  go_loopw [4, 5] (fun v i wr => ∃ k : Nat, k ≤ n ∧ i = .int .i64 k ∧ wr.ownsRow w2.heap.size 3 1 v k ((scI cs k).flatMap intVals) ∧ Below w2.heap.size w2 wr) (fun _ i _ => n - (intOf i).toNat)
  case atStart => exact ⟨0, by omega, rfl, World.ownsRow_made w2 #[] 0 (Nat.le_refl _) (by simp [maxLen]) rfl, below_alloc (Below.refl _ _) _⟩
  case round =>
    obtain ⟨i, hi, rfl, hown, hb⟩ := hrel
    obtain ⟨wo, rfl⟩ : ∃ wo : World, wo = wr := ⟨_, rfl⟩
    by_cases hlt : i < n
    · have hrow : RowInts wo Ar (pastI cs n) := HO.out.below hb
      obtain ⟨br0, off, rfl, hat⟩ := hrow (by rw [pastI_len]; omega)
      have r0 := RowInts.at_ hat (pastI_row cs hlt)
      obtain ⟨Ao, co, rfl, hoc, hom, hob⟩ := own_form hown
      have hrow2 : RowInts wo Ao (scI cs i) := RowOf.of_own (scI_len cs i).symm (fun _ _ => rfl) hown
      have hrl := pastRow_lt cs i
      have hp1 : 2 ^ (i + 1) ≤ 2 ^ 21 := Nat.pow_le_pow_right (by omega) (by omega)
      have hsu := scI_succ cs i
      generalize pastRow cs i = r at *
      have Hb := Lib.hid hb
      have Hown := Lib.hid hown
      have hlt5 := hown.lt
      have Hlt5 := Lib.hid hlt5
      have Hrow2 := Lib.hid hrow2
      have Hsu := Lib.hid hsu
      have hr21 : r < 2097152 := by omega
      have hr60 : r < 2 ^ 60 := by omega
      clear hrow hat hb hown hlt5 hrow2 hob hrl hp1 hsu
      have hi0' : (0 : Int) ≤ (i : Int) := by omega
      have hin : (i : Int) < (n : Int) := by omega
      go_wp2
      go_loopw [6, 7] (fun m j wq => ∃ k : Nat, k ≤ i ∧ j = .int .i64 k ∧ m = .int .i64 ((scK r (scN cs i) k : Nat) : Int) ∧ wo = wq) (fun _ j _ => i - (intOf j).toNat)
      case atStart => exact ⟨0, by omega, rfl, rfl, rfl⟩
      case round =>
        obtain ⟨j, hj, rfl, rfl, rfl⟩ := hrel
        by_cases hjlt : j < i
        · obtain ⟨gb, goff, rfl, hgat⟩ := Hrow2.out (by rw [scI_len]; omega)
          have s0 := RowInts.at_ hgat (scI_get cs hjlt)
          have hsk : scK r (scN cs i) (j + 1) = if bitN r j = 1 then max (scK r (scN cs i) j) ((scN cs i).getD j 0) else scK r (scN cs i) j := rfl
          have hsl := scK_le r (scN cs i) i (scN_le cs i) j
          have htl := scN_le cs i j
          have hbl := bitN_le r j
          have HBC := Lib.hid (fun (W : World) => bit_calls r j hr60 (by omega) W)
          generalize scK r (scN cs i) j = s at *
          generalize (scN cs i).getD j 0 = t at *
          generalize bitN r j = bb at *
          have Hsk := Lib.hid hsk
          clear hgat hsk Hrow2
          have hs0 : (0 : Int) ≤ (s : Int) := by omega
          have hs1 : (s : Int) ≤ 20 := by omega
          have ht0 : (0 : Int) ≤ (t : Int) := by omega
          have ht1 : (t : Int) ≤ 20 := by omega
          have hj0 : (0 : Int) ≤ (j : Int) := by omega
          have hj64 : (j : Int) ≤ 64 := by omega
          have hji : (j : Int) < (i : Int) := by omega
          have hq : bb = 1 ∨ bb = 0 := by omega
          rcases hq with rfl | rfl
          · go_wp2_with (go_at_call 58; refine (HBC.out _).mono ?_; rintro e w4 ⟨rfl, rfl⟩)
            refine ⟨⟨j + 1, by omega, by go_num, ?_, trivial⟩, by simp [intOf]; omega⟩
            rw [Hsk.out]
            by_cases hst : s < t
            · simp [hst, Nat.max_eq_right (Nat.le_of_lt hst)]
            · simp [hst, Nat.max_eq_left (Nat.le_of_not_lt hst)]
          · go_wp2_with (go_at_call 58; refine (HBC.out _).mono ?_; rintro e w4 ⟨rfl, rfl⟩)
            refine ⟨⟨j + 1, by omega, by go_num, ?_, trivial⟩, by simp [intOf]; omega⟩
            rw [Hsk.out, if_neg (by omega)]
        · have hge : ¬ ((j : Int) < (i : Int)) := by omega
          have e1 : j = i := by omega
          subst e1
          have hown := Hown.out
          have hszb := Hb.out.size
          have hs20 := scK_le r (scN cs j) j (scN_le cs j) j
          generalize scK r (scN cs j) j = s at *
          have hs0 : (0 : Int) ≤ (s : Int) := by omega
          have hs21 : (s : Int) ≤ 20 := by omega
          go_wp2_with (at_builtin; refine wpList_append_own _ rfl (.tmp 38) (.tmp 41) 32 rfl w2.heap.size 3 i0 _ 1 8 Try.underlying32 hi0 hz0 (by assumption) hz2 rfl (by omega) _ j ((scI cs j).flatMap intVals) rfl (hown.alloc _) ⟨wo.heap.size, 0, none⟩ 1 1 [_] rfl rfl (int_new _ _ _) (int_one _) (by unfold maxLen; omega) (by omega) (by simp; omega) ?_; intro v1 wz hown1 hgrow _)
          go_roundw
          case rel =>
            refine ⟨j + 1, by omega, by go_num, ?_, ?_⟩
            · rw [Hsu.out, List.flatMap_append]
              simpa [intVals] using hown1
            · exact (below_alloc Hb.out _).grown hgrow (by simp; omega) (fun q hq => (Hlt5.out q hq).1)
          case measure => simp [intOf]; omega
    · have hge : ¬ ((i : Int) < (n : Int)) := by omega
      have e1 : i = n := by omega
      subst e1
      go_wp2
      go_ret
      refine ⟨_, rfl, ?_, ?_⟩
      · unfold OwnInts
        rw [E1.out, scI_len]
        exact own_base hown (by omega)
      · have hbb := HB2.out
        exact below_trans' hbb hb
end Go.Proofs.Ytcmecgnlhgjciaa
