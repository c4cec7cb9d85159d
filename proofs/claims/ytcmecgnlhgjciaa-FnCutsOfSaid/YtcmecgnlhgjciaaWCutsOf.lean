/-
  The walk of the law that cuts meet and join: it returns true. No condition.
-/
import Derived.Test.YtcmecgnlhgjciaaDrawCutsOf
import Derived.Test.YtcmecgnlhgjciaaCutsOf
import Derived.Test.YtcmecgnlhgjciaaCutQ
import Derived.Test.YtcmecgnlhgjciaaLawJ
namespace Go.Proofs.Ytcmecgnlhgjciaa
open Go.RowKit
set_option maxRecDepth 100000

set_option maxHeartbeats 4000000 in
theorem walk_FnCutsOf (bs : List Int) (A : Option Addr) (cap : Nat) (w : World) (hlc : bs.length ≤ cap) (hcm : cap ≤ maxLen) (hr : RowOf byteVals 1 w A bs) (hg : ∀ d ∈ bs, isByte d) (_hn : A = none → bs.length = 0 ∧ cap = 0) :
    Calls Try.prog 14 #[.slice A bs.length cap] w fun e w' => e = .returned (.bool true) ∧ Below w.heap.size w w' := by
  have hM := hcm
  unfold maxLen at hM
  have HD := Lib.hid (fun (W : World) (hW : RowOf byteVals 1 W A bs) => drawCutsOf_calls bs A bs.length cap W hW hg rfl hlc hcm)
  have HR := Lib.hid hr
  clear hr hg _hn
  generalize bs.length = n at *
  by_cases hbig : 1048576 < n
  · have hI : (1048576 : Int) < (n : Int) := by omega
    go_enter Try.func14, Try.ntmps14
    go_wp2_with fail
    go_ret
    exact ⟨rfl, Below.refl _ _⟩
  have hI : ¬ ((1048576 : Int) < (n : Int)) := by omega
  go_enter Try.func14, Try.ntmps14
  go_wp2_with fail
  refine (HD.out _ HR.out).mono ?_
  intro e w1 hd
  obtain ⟨v, cs, rfl, ho, hgd, hl, hb1⟩ := hd
  obtain ⟨Ao, co, rfl, hoc, hom, _⟩ := own_form ho
  have hrow : RowEvents w1 Ao cs := RowOf.of_own rfl (fun c _ => c.vals_len) ho
  have HRow := Lib.hid hrow
  have HB1 := Lib.hid hb1
  obtain ⟨b, hb⟩ : ∃ b, evB cs = b := ⟨_, rfl⟩
  have HV := Lib.hid hb
  clear ho hgd hrow hb1 hb
  unfold maxLen at hom
  have HI := Lib.hid (fun (W : World) (hW : RowEvents W Ao cs) => implCutsOf_calls cs Ao co W hW (by omega) hoc)
  have HS := Lib.hid (fun (W : World) (hW : RowEvents W Ao cs) => specCutsOf_calls cs Ao co W hW (by omega))
  have HVE := Lib.hid (fun (W : World) (hW : RowEvents W Ao cs) => implValidEvents_calls cs Ao co W hW (by omega) hoc b HV.out)
  have HPL := Lib.hid (cutsOfL_len cs)
  obtain ⟨l, hll⟩ : ∃ l, cs.length = l := ⟨_, rfl⟩
  rw [hll] at HI HS HVE hl hoc ⊢
  have Hll := Lib.hid hll
  clear hll
  go_wp2_with fail
  refine (HI.out _ HRow.out).mono ?_
  rintro e w2 ⟨v2, rfl, ho2, hb2⟩
  obtain ⟨A2, c2, rfl, _, _, _⟩ := own_form ho2
  have hr2 : RowInts w2 A2 (cutsOfL cs) := RowOf.of_own rfl (fun _ _ => rfl) ho2
  have HR2 := Lib.hid hr2
  have HB2 := Lib.hid hb2
  clear ho2 hr2 hb2
  go_wp2_with fail
  refine (HS.out _ (HRow.out.below HB2.out)).mono ?_
  rintro e w3 ⟨v3, rfl, ho3, hb3⟩
  obtain ⟨A3, c3, rfl, _, _, _⟩ := own_form ho3
  have hr3 : RowInts w3 A3 (cutsOfL cs) := RowOf.of_own rfl (fun _ _ => rfl) ho3
  have HR3 := Lib.hid hr3
  have HB3 := Lib.hid hb3
  clear ho3 hr3 hb3
  go_wp2_with fail
  refine (equalInts_same (cutsOfL cs) A2 A3 _ _ _ (HR2.out.below HB3.out) HR3.out HPL.out).mono ?_
  rintro e w4 ⟨rfl, hb4⟩
  have HB4 := Lib.hid (below_trans' HB2.out (below_trans' HB3.out hb4))
  have HB24 := Lib.hid (below_trans' HB3.out hb4)
  clear hb4
  go_wp2_with fail
  refine (HVE.out _ (HRow.out.below HB4.out)).mono ?_
  rintro e w5 ⟨rfl, hb5⟩
  have HB5 := Lib.hid (below_trans' HB4.out hb5)
  have HB25 := Lib.hid (below_trans' HB24.out hb5)
  clear hb5
  cases b
  · go_wp2_with fail
    refine (HS.out _ (HRow.out.below HB5.out)).mono ?_
    rintro e w6 ⟨v6, rfl, ho6, hb6⟩
    obtain ⟨A6, c6, rfl, _, _, _⟩ := own_form ho6
    have hr6 : RowInts w6 A6 (cutsOfL cs) := RowOf.of_own rfl (fun _ _ => rfl) ho6
    have HB6 := Lib.hid hb6
    have HR6 := Lib.hid hr6
    clear ho6 hr6 hb6
    go_wp2_with fail
    refine (equalInts_same (cutsOfL cs) A2 A6 _ _ _ ((HR2.out.below HB25.out).below HB6.out) HR6.out HPL.out).mono ?_
    rintro e w7 ⟨rfl, hb7⟩
    go_wp2_with fail
    go_ret
    exact ⟨rfl, below_trans' HB1.out (below_trans' (below_trans' HB5.out HB6.out) hb7)⟩
  · have hv : evB cs = true := HV.out
    have hpl : cutsOfL cs = cutsTo cs l (2 ^ l) := by simp [cutsOfL, hv, Hll.out]
    have HR5 := Lib.hid (hpl ▸ HR2.out.below HB25.out)
    have HPair := Lib.hid (fun (x y : Int) (hx : x ∈ cutsTo cs l (2 ^ l)) (hy : y ∈ cutsTo cs l (2 ^ l)) => cuts_pair hx hy)
    have HRise := Lib.hid (cutsTo_rise cs l (2 ^ l))
    have h128 : 2 ^ l ≤ 2 ^ 7 := Nat.pow_le_pow_right (by omega) hl
    rw [hpl] at HPL ⊢
    clear hpl hv HR2 HR3 HI HS HVE HD HV
    generalize cutsTo cs l (2 ^ l) = L at *
    obtain ⟨m, hm⟩ : ∃ m, L.length = m := ⟨_, rfl⟩
    have Hm := Lib.hid hm
    have hm20 : m ≤ 1048576 := by rw [← hm]; exact HPL.out
    rw [hm]
    clear hm HPL
    have hl7 : (m : Int) ≤ 1048576 := by omega
    have HIN := Lib.hid (fun (W : World) (x : Int) (hx : L.any (· == x) = true) (hW : RowInts W A2 L) => isIn_calls L m A2 c2 x W hW Hm.out hm20 true hx)
    go_wp2_with fail
    go_loopw [5] (fun i wr => ∃ k : Nat, k ≤ m ∧ i = .int .i64 k ∧ Below w5.heap.size w5 wr) (fun i _ => m - (intOf i).toNat)
    case atStart => exact ⟨0, by omega, rfl, Below.refl _ _⟩
    case round =>
      obtain ⟨i, hi, rfl, hb⟩ := hrel
      by_cases hlt : i < m
      · have Hb := Lib.hid hb
        clear hb
        have hi0 : (0 : Int) ≤ (i : Int) := by omega
        have hin : (i : Int) < (m : Int) := by omega
        go_wp2_with fail
        go_loopw [6] (fun j wq => ∃ k : Nat, k ≤ i ∧ j = .int .i64 k ∧ Below w5.heap.size w5 wq) (fun j _ => i - (intOf j).toNat)
        case atStart => exact ⟨0, by omega, rfl, Hb.out⟩
        case round =>
          obtain ⟨j, hj, rfl, hb2⟩ := hrel
          by_cases hjl : j < i
          · obtain ⟨gb, goff, rfl, hgat⟩ := HR5.out (by rw [Hm.out]; omega)
            obtain ⟨x, hx⟩ : ∃ y, L[i]? = some y := ⟨L[i]'(by rw [Hm.out]; omega), List.getElem?_eq_getElem _⟩
            obtain ⟨y, hy⟩ : ∃ y, L[j]? = some y := ⟨L[j]'(by rw [Hm.out]; omega), List.getElem?_eq_getElem _⟩
            have r1 := cell_below hb2 (RowInts.at_ hgat hx)
            have r2 := cell_below hb2 (RowInts.at_ hgat hy)
            have hgb2 : gb < wr.heap.size := World.block_lt_of_cell? _ _ r1
            obtain ⟨a, b, rfl, rfl, ha, hb, hand, hor⟩ := HPair.out x y (List.mem_of_getElem? hx) (List.mem_of_getElem? hy)
            have e1 := i64_and_nat a b (by omega) (by omega)
            have e2 := i64_or_nat a b (by omega) (by omega)
            have HROW := Lib.hid (HR5.out.below hb2)
            have HA1 := Lib.hid hand
            have HO1 := Lib.hid hor
            have Hb2 := Lib.hid hb2
            clear hb2 hgat hx hy hand hor HR5 ha hb
            have hj0 : (0 : Int) ≤ (j : Int) := by omega
            have hjl' : (j : Int) < (m : Int) := by omega
            have hji : (j : Int) < (i : Int) := by omega
            go_wp2_with fail
            refine wp_region_grow (by kernel_rfl) (by kernel_rfl) ?_
            repeat (go_big_quiet_step ((first | (go_at_call 37; with_reducible exact Calls.ext_same (HIN.out _ _ HA1.out (HROW.out.below (Wx.h _)))) | (go_at_call 37; with_reducible exact Calls.ext_same (HIN.out _ _ HO1.out (HROW.out.below (Wx.h _)))))))
            refine wpQuiet_end ?_
            intro w10 hb10
            go_wp2_with fail
            go_roundw
            case rel => exact ⟨j + 1, by omega, by go_num, below_trans' Hb2.out hb10⟩
            case measure => simp [intOf]; omega
          · have e1 : j = i := by omega
            subst e1
            have hge : ¬ ((j : Int) < (j : Int)) := by omega
            go_wp2_with fail
            go_roundw
            case rel => exact ⟨j + 1, by omega, by go_num, hb2⟩
            case measure => simp [intOf]; omega
      · have e1 : i = m := by omega
        subst e1
        have hge : ¬ ((i : Int) < (i : Int)) := by omega
        have Hb := Lib.hid hb
        clear hb
        go_wp2_with fail
        refine (ascends_calls L i A2 c2 _ (HR5.out.below Hb.out) Hm.out hm20 (fun k x y hx hy => rise_at HRise.out hx hy)).mono ?_
        rintro e w8 ⟨rfl, hb8⟩
        go_wp2_with fail
        go_ret
        exact ⟨rfl, below_trans' HB1.out (below_trans' HB5.out (below_trans' Hb.out hb8))⟩
end Go.Proofs.Ytcmecgnlhgjciaa
