/-
  The walk of the law that scalars rise with the past: it returns true. No condition.
-/
import Derived.Test.YtcmecgnlhgjciaaDrawScalarsOf
import Derived.Test.YtcmecgnlhgjciaaPastOf
import Derived.Test.YtcmecgnlhgjciaaScal
import Derived.Test.YtcmecgnlhgjciaaScal2
import Derived.Test.YtcmecgnlhgjciaaPastQ
import Derived.Test.YtcmecgnlhgjciaaLawI
namespace Go.Proofs.Ytcmecgnlhgjciaa
open Go.RowKit
set_option maxRecDepth 100000

theorem scI_row (cs : List EventD) {k n : Nat} (hk : k < n) : (scI cs n)[k]? = some ((scRow cs k : Nat) : Int) := by
  rw [scI_get cs hk, scN_getD cs hk]
theorem scRow_le (cs : List EventD) (k : Nat) : scRow cs k ≤ k + 1 := by
  have := scK_le (pastRow cs k) (scN cs k) k (scN_le cs k) k
  unfold scRow; omega

set_option maxHeartbeats 4000000 in
theorem walk_FnScalarsOf (bs : List Int) (A : Option Addr) (cap : Nat) (w : World) (hlc : bs.length ≤ cap) (hcm : cap ≤ maxLen) (hr : RowOf byteVals 1 w A bs) (hg : ∀ d ∈ bs, isByte d) (_hn : A = none → bs.length = 0 ∧ cap = 0) :
    Calls Try.prog 8 #[.slice A bs.length cap] w fun e w' => e = .returned (.bool true) ∧ Below w.heap.size w w' := by
  have hM := hcm
  unfold maxLen at hM
  have HD := Lib.hid (fun (W : World) (hW : RowOf byteVals 1 W A bs) => drawScalarsOf_calls bs A bs.length cap W hW hg rfl hlc hcm)
  have HR := Lib.hid hr
  clear hr hg _hn
  generalize bs.length = n at *
  by_cases hbig : 1048576 < n
  · have hI : (1048576 : Int) < (n : Int) := by omega
    go_enter Try.func8, Try.ntmps8
    go_wp2_with fail
    go_ret
    exact ⟨rfl, Below.refl _ _⟩
  have hI : ¬ ((1048576 : Int) < (n : Int)) := by omega
  go_enter Try.func8, Try.ntmps8
  go_wp2_with fail
  refine (HD.out _ HR.out).mono ?_
  intro e w1 hd
  obtain ⟨v, cs, rfl, ho, hgd, hl, hb1⟩ := hd
  obtain ⟨Ao, co, rfl, hoc, hom, _⟩ := own_form ho
  have hrow : RowEvents w1 Ao cs := RowOf.of_own rfl (fun c _ => c.vals_len) ho
  have HRow := Lib.hid hrow
  have HB1 := Lib.hid hb1
  obtain ⟨b, hb⟩ : ∃ b, evB cs = b := ⟨_, rfl⟩
  have HV := Lib.hid hb
  clear ho hgd hrow hb1 hb
  unfold maxLen at hom
  have HI := Lib.hid (fun (W : World) (hW : RowEvents W Ao cs) => implScalarsOf_calls cs Ao co W hW (by omega) hoc)
  have HS := Lib.hid (fun (W : World) (hW : RowEvents W Ao cs) => specScalarsOf_calls cs Ao co W hW (by omega))
  have HVE := Lib.hid (fun (W : World) (hW : RowEvents W Ao cs) => implValidEvents_calls cs Ao co W hW (by omega) hoc b HV.out)
  have HPL := Lib.hid (scalOfL_len cs)
  obtain ⟨l, hll⟩ : ∃ l, cs.length = l := ⟨_, rfl⟩
  rw [hll] at HI HS HVE hl hoc ⊢
  have Hll := Lib.hid hll
  clear hll
  go_wp2_with fail
  refine (HI.out _ HRow.out).mono ?_
  rintro e w2 ⟨v2, rfl, ho2, hb2⟩
  obtain ⟨A2, c2, rfl, _, _, _⟩ := own_form ho2
  have hr2 : RowInts w2 A2 (scalOfL cs) := RowOf.of_own rfl (fun _ _ => rfl) ho2
  have HR2 := Lib.hid hr2
  have HB2 := Lib.hid hb2
  clear ho2 hr2 hb2
  go_wp2_with fail
  refine (HS.out _ (HRow.out.below HB2.out)).mono ?_
  rintro e w3 ⟨v3, rfl, ho3, hb3⟩
  obtain ⟨A3, c3, rfl, _, _, _⟩ := own_form ho3
  have hr3 : RowInts w3 A3 (scalOfL cs) := RowOf.of_own rfl (fun _ _ => rfl) ho3
  have HR3 := Lib.hid hr3
  have HB3 := Lib.hid hb3
  clear ho3 hr3 hb3
  go_wp2_with fail
  refine (equalInts_same (scalOfL cs) A2 A3 _ _ _ (HR2.out.below HB3.out) HR3.out HPL.out).mono ?_
  rintro e w4 ⟨rfl, hb4⟩
  have HB4 := Lib.hid (below_trans' HB2.out (below_trans' HB3.out hb4))
  have HB24 := Lib.hid (below_trans' HB3.out hb4)
  clear hb4
  go_wp2_with fail
  refine (HVE.out _ (HRow.out.below HB4.out)).mono ?_
  rintro e w5 ⟨rfl, hb5⟩
  have HB5 := Lib.hid (below_trans' HB4.out hb5)
  have HB25 := Lib.hid (below_trans' HB24.out hb5)
  clear hb5
  cases b
  · go_wp2_with fail
    refine (HS.out _ (HRow.out.below HB5.out)).mono ?_
    rintro e w6 ⟨v6, rfl, ho6, hb6⟩
    obtain ⟨A6, c6, rfl, _, _, _⟩ := own_form ho6
    have hr6 : RowInts w6 A6 (scalOfL cs) := RowOf.of_own rfl (fun _ _ => rfl) ho6
    have HB6 := Lib.hid hb6
    have HR6 := Lib.hid hr6
    clear ho6 hr6 hb6
    go_wp2_with fail
    refine (equalInts_same (scalOfL cs) A2 A6 _ _ _ ((HR2.out.below HB25.out).below HB6.out) HR6.out HPL.out).mono ?_
    rintro e w7 ⟨rfl, hb7⟩
    go_wp2_with fail
    go_ret
    exact ⟨rfl, below_trans' HB1.out (below_trans' (below_trans' HB5.out HB6.out) hb7)⟩
  · have hv : evB cs = true := HV.out
    have hpl : scalOfL cs = scI cs l := by simp [scalOfL, hv, Hll.out]
    have hlen : (scI cs l).length = l := scI_len cs l
    have HR5 := Lib.hid (hpl ▸ HR2.out.below HB25.out)
    have hql : pastOfL cs = pastI cs l := by simp [pastOfL, hv, pastL, Hll.out]
    have hqlen : (pastI cs l).length = l := pastI_len cs l
    have HPa := Lib.hid (fun (W : World) (hW : RowEvents W Ao cs) => implPastOf_calls cs Ao co W hW (by have := Hll.out; omega) (by have := Hll.out; omega))
    rw [Hll.out, hql] at HPa
    rw [hpl, hlen]
    clear hpl hv HR2 HR3 HPL HI HS HVE HD hql
    have hl7 : (l : Int) ≤ 7 := by omega
    go_wp2_with fail
    refine (HPa.out _ (HRow.out.below HB5.out)).mono ?_
    rintro e w6 ⟨v6, rfl, ho6, hb6⟩
    unfold OwnInts at ho6
    rw [hqlen] at ho6
    obtain ⟨A6, c6, rfl, _, _, _⟩ := own_form ho6
    have hr6 : RowInts w6 A6 (pastI cs l) := RowOf.of_own hqlen.symm (fun _ _ => rfl) ho6
    have HR6 := Lib.hid hr6
    have HR5' := Lib.hid (HR5.out.below hb6)
    have HB6 := Lib.hid (below_trans' HB5.out hb6)
    clear ho6 hr6 hb6 HR5
    go_wp2_with fail
    go_loopw [6] (fun i wr => ∃ k : Nat, k ≤ l ∧ i = .int .i64 k ∧ Below w6.heap.size w6 wr) (fun i _ => l - (intOf i).toNat)
    case atStart => exact ⟨0, by omega, rfl, Below.refl _ _⟩
    case round =>
      obtain ⟨i, hi, rfl, hb⟩ := hrel
      by_cases hlt : i < l
      · have Hb := Lib.hid hb
        clear hb
        have hi0 : (0 : Int) ≤ (i : Int) := by omega
        have hin : (i : Int) < (l : Int) := by omega
        go_wp2_with fail
        go_loopw [7] (fun j wq => ∃ k : Nat, k ≤ l ∧ j = .int .i64 k ∧ Below w6.heap.size w6 wq) (fun j _ => l - (intOf j).toNat)
        case atStart => exact ⟨0, by omega, rfl, Hb.out⟩
        case round =>
          obtain ⟨j, hj, rfl, hb2⟩ := hrel
          by_cases hjl : j < l
          · obtain ⟨gb, goff, rfl, hgat⟩ := HR6.out (by rw [hqlen]; omega)
            obtain ⟨ob, ooff, rfl, hoat⟩ := HR5'.out (by rw [hlen]; omega)
            have r1 := cell_below hb2 (RowInts.at_ hgat (pastI_row cs hlt))
            have s1 := cell_below hb2 (RowInts.at_ hoat (scI_row cs hlt))
            have s2 := cell_below hb2 (RowInts.at_ hoat (scI_row cs hjl))
            have hgb2 : gb < wr.heap.size := World.block_lt_of_cell? _ _ r1
            have hob2 : ob < wr.heap.size := World.block_lt_of_cell? _ _ s1
            have hlt' := pastRow_lt cs i
            have hp8 : 2 ^ (i + 1) ≤ 2 ^ 8 := Nat.pow_le_pow_right (by omega) (by omega)
            have hbl := bitN_le (pastRow cs i) j
            have hj0 : (0 : Int) ≤ (j : Int) := by omega
            have hjl' : (j : Int) < (l : Int) := by omega
            have HBJ := Lib.hid (fun (W : World) => lbit_calls (pastRow cs i) j (by omega) (by omega) W)
            have Hb2 := Lib.hid hb2
            have hr1 := scRow_le cs i
            have hr2 := scRow_le cs j
            clear hb2 hgat hoat
            by_cases hij : i = j
            · subst hij
              have hne : ((i : Int) != (i : Int)) = false := by simp
              generalize pastRow cs i = ri at *
              generalize scRow cs i = si at *
              go_wp2_with fail
              refine wp_region_grow (by kernel_rfl) (by kernel_rfl) ?_
              repeat (go_big_quiet_step ((go_at_call 29; exact Calls.ext_same (HBJ.out _))))
              refine wpQuiet_end ?_
              intro w10 hb10
              go_wp2_with fail
              go_roundw
              case rel => exact ⟨i + 1, by omega, by go_num, below_trans' Hb2.out hb10⟩
              case measure => simp [intOf]; omega
            · have hne : ((i : Int) != (j : Int)) = true := by simp; omega
              have hbb : bitN (pastRow cs i) j = 0 ∨ bitN (pastRow cs i) j = 1 := by omega
              rcases hbb with hbb | hbb
              · rw [hbb] at HBJ
                clear hbb hbl hlt' hp8
                generalize pastRow cs i = ri at *
                generalize scRow cs i = si at *
                generalize scRow cs j = sj at *
                go_wp2_with fail
                refine wp_region_grow (by kernel_rfl) (by kernel_rfl) ?_
                repeat (go_big_quiet_step ((go_at_call 29; exact Calls.ext_same (HBJ.out _))))
                refine wpQuiet_end ?_
                intro w10 hb10
                go_wp2_with fail
                go_roundw
                case rel => exact ⟨j + 1, by omega, by go_num, below_trans' Hb2.out hb10⟩
                case measure => simp [intOf]; omega
              · have hrise := scRow_rise cs ((bitN_test _ _).1 hbb) hij
                rw [hbb] at HBJ
                clear hbb hbl hlt' hp8
                generalize pastRow cs i = ri at *
                generalize scRow cs i = si at *
                generalize scRow cs j = sj at *
                have hngt : ¬ ((si : Int) ≤ (sj : Int)) := by omega
                have hngd : decide ((si : Int) ≤ (sj : Int)) = false := by simpa using hngt
                have hngn : ¬ (si ≤ sj) := by omega
                have hngm : decide (si ≤ sj) = false := by simpa using hngn
                go_wp2_with fail
                refine wp_region_grow (by kernel_rfl) (by kernel_rfl) ?_
                repeat (go_big_quiet_step ((go_at_call 29; exact Calls.ext_same (HBJ.out _))))
                refine wpQuiet_end ?_
                intro w10 hb10
                go_wp2_with fail
                go_roundw
                case rel => exact ⟨j + 1, by omega, by go_num, below_trans' Hb2.out hb10⟩
                case measure => simp [intOf]; omega
          · have e1 : j = l := by omega
            subst e1
            have hge : ¬ ((j : Int) < (j : Int)) := by omega
            go_wp2_with fail
            go_roundw
            case rel => exact ⟨i + 1, by omega, by go_num, hb2⟩
            case measure => simp [intOf]; omega
      · have e1 : i = l := by omega
        subst e1
        have hge : ¬ ((i : Int) < (i : Int)) := by omega
        have Hb := Lib.hid hb
        clear hb
        go_wp2_with fail
        go_ret
        exact ⟨rfl, below_trans' HB1.out (below_trans' HB6.out Hb.out)⟩
end Go.Proofs.Ytcmecgnlhgjciaa
