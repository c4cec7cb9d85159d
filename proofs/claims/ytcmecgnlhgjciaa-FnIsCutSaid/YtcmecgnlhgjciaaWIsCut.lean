/-
  The walk of the law that the past is a cut: it returns true. No condition.
-/
import Derived.Test.YtcmecgnlhgjciaaDrawIsCut
import Derived.Test.YtcmecgnlhgjciaaCutsOf
import Derived.Test.YtcmecgnlhgjciaaCutQ
import Derived.Test.YtcmecgnlhgjciaaLawJ
import Derived.Test.YtcmecgnlhgjciaaIsCutOf
import Derived.Test.YtcmecgnlhgjciaaPastOf
namespace Go.Proofs.Ytcmecgnlhgjciaa
open Go.RowKit
set_option maxRecDepth 100000

set_option maxHeartbeats 4000000 in
theorem walk_FnIsCut (bs : List Int) (A : Option Addr) (cap : Nat) (w : World) (hlc : bs.length ≤ cap) (hcm : cap ≤ maxLen) (hr : RowOf byteVals 1 w A bs) (hg : ∀ d ∈ bs, isByte d) (_hn : A = none → bs.length = 0 ∧ cap = 0) :
    Calls Try.prog 10 #[.slice A bs.length cap] w fun e w' => e = .returned (.bool true) ∧ Below w.heap.size w w' := by
  have hM := hcm
  unfold maxLen at hM
  have HD := Lib.hid (fun (W : World) (hW : RowOf byteVals 1 W A bs) => drawIsCut_calls bs A bs.length cap W hW hg rfl hlc hcm)
  have HR := Lib.hid hr
  clear hr hg _hn
  generalize bs.length = n at *
  by_cases hbig : 1048576 < n
  · have hI : (1048576 : Int) < (n : Int) := by omega
    go_enter Try.func10, Try.ntmps10
    go_wp2_with fail
    go_ret
    exact ⟨rfl, Below.refl _ _⟩
  have hI : ¬ ((1048576 : Int) < (n : Int)) := by omega
  go_enter Try.func10, Try.ntmps10
  go_wp2_with fail
  refine (HD.out _ HR.out).mono ?_
  intro e w1 hd
  obtain ⟨v, cs, x, rfl, ho, hgd, hl, hb1, hx1, hx2⟩ := hd
  obtain ⟨Ao, co, rfl, hoc, hom, _⟩ := own_form ho
  have hrow : RowEvents w1 Ao cs := RowOf.of_own rfl (fun c _ => c.vals_len) ho
  have HRow := Lib.hid hrow
  have HB1 := Lib.hid hb1
  obtain ⟨b, hb⟩ : ∃ b, evB cs = b := ⟨_, rfl⟩
  have HV := Lib.hid hb
  obtain ⟨bx, hbx⟩ : ∃ b, isCutB cs x = b := ⟨_, rfl⟩
  have HX := Lib.hid hbx
  clear ho hgd hrow hb1 hb hbx
  unfold maxLen at hom
  have HI := Lib.hid (fun (W : World) (hW : RowEvents W Ao cs) (y : Int) (c : Bool) (hc : isCutB cs y = c) => implIsCut_calls cs Ao co y W hW (by omega) hoc c hc)
  have HS := Lib.hid (fun (W : World) (hW : RowEvents W Ao cs) => specIsCut_calls cs Ao co x W hW (by omega) bx HX.out)
  have HVE := Lib.hid (fun (W : World) (hW : RowEvents W Ao cs) => implValidEvents_calls cs Ao co W hW (by omega) hoc b HV.out)
  have HP := Lib.hid (fun (W : World) (hW : RowEvents W Ao cs) => implPastOf_calls cs Ao co W hW (by omega) hoc)
  have HCo := Lib.hid (fun (W : World) (hW : RowEvents W Ao cs) => implCutsOf_calls cs Ao co W hW (by omega) hoc)
  obtain ⟨l, hll⟩ : ∃ l, cs.length = l := ⟨_, rfl⟩
  rw [hll] at HI HS HVE HP HCo hl hoc ⊢
  have Hll := Lib.hid hll
  clear hll
  go_wp2_with fail
  refine (HI.out _ HRow.out x bx HX.out).mono ?_
  rintro e w2 ⟨rfl, hb2⟩
  have HB2 := Lib.hid hb2
  clear hb2
  go_wp2_with fail
  refine (HS.out _ (HRow.out.below HB2.out)).mono ?_
  rintro e w3 ⟨rfl, hb3⟩
  have HB3 := Lib.hid (below_trans' HB2.out hb3)
  clear hb3
  have hself : (bx != bx) = false := by simp
  go_wp2_with fail
  refine (HVE.out _ (HRow.out.below HB3.out)).mono ?_
  rintro e w4 ⟨rfl, hb4⟩
  have HB4 := Lib.hid (below_trans' HB3.out hb4)
  clear hb4 hself
  cases b
  · go_wp2_with fail
    refine (HS.out _ (HRow.out.below HB4.out)).mono ?_
    rintro e w5 ⟨rfl, hb5⟩
    cases bx
    all_goals
      go_wp2_with fail
      go_ret
      exact ⟨rfl, below_trans' HB1.out (below_trans' HB4.out hb5)⟩
  have hv : evB cs = true := HV.out
  have hpl : pastOfL cs = pastI cs l := by simp [pastOfL, hv, pastL, Hll.out]
  have hcl : cutsOfL cs = cutsTo cs l (2 ^ l) := by simp [cutsOfL, hv, Hll.out]
  have hlen : (pastI cs l).length = l := pastI_len cs l
  have hcut : ∀ s : Nat, s < 2 ^ l → cutB cs l s = true → isCutB cs (s : Int) = true := by
    intro s hs hc
    rw [isCutB, hv, Hll.out, Int.toNat_natCast, hc, inB, decide_eq_true (by rw [← two_cast]; omega)]; rfl
  have hH1 := Lib.hid (fun (i : Nat) (hi : i < l) => hcut (pastRow cs i) (Nat.lt_of_lt_of_le (pastRow_lt cs i) (Nat.pow_le_pow_right (by omega) (by omega))) (cutB_row cs hi))
  have hH0 : isCutB cs 0 = true := hcut 0 (Nat.two_pow_pos l) (cutB_none cs l)
  have hHF : isCutB cs ((2 ^ l - 1 : Nat) : Int) = true := hcut (2 ^ l - 1) (by have := Nat.two_pow_pos l; omega) (cutB_full cs l)
  have hany : (cutsTo cs l (2 ^ l)).any (· == x) = bx := by
    rw [cutsTo_in, ← HX.out, isCutB, hv, Hll.out, Bool.true_and, inB, ← two_cast]
    congr 1
    rw [Bool.eq_iff_iff, decide_eq_true_eq, decide_eq_true_eq]
    have := Nat.two_pow_pos l
    omega
  have HF0 := Lib.hid hH0
  have HFF := Lib.hid hHF
  have HAny := Lib.hid hany
  have hcn := cutsTo_len cs l (2 ^ l)
  have h128 : 2 ^ l ≤ 2 ^ 7 := Nat.pow_le_pow_right (by omega) hl
  have hpw : pw l = ((2 ^ l : Nat) : Int) := by rw [pw_eq l (by omega), two_cast]
  obtain ⟨f, hf⟩ : ∃ f, 2 ^ l = f + 1 := ⟨2 ^ l - 1, by have := Nat.two_pow_pos l; omega⟩
  have HPW := Lib.hid (fun (W : World) => lpower_calls l W (by omega))
  rw [hpw, hf] at HPW
  rw [hf, Nat.add_sub_cancel] at HFF
  clear hH0 hHF hany hcut hv HS HVE hpw HD
  have hK : (cutsTo cs l (2 ^ l)).length ≤ 1048576 := by omega
  clear hcn
  rw [hf] at h128
  have hf1 : (f : Int) ≤ 127 := by omega
  have hf0 : (0 : Int) ≤ (f : Int) := by omega
  have hl7 : (l : Int) ≤ 7 := by omega
  clear hf
  generalize 2 ^ l = K at *
  go_wp2_with fail
  refine (HP.out _ (HRow.out.below HB4.out)).mono ?_
  rintro e w5 ⟨v5, rfl, ho5, hb5⟩
  obtain ⟨A5, c5, rfl, _, _, _⟩ := own_form ho5
  have hr5 : RowInts w5 A5 (pastOfL cs) := RowOf.of_own rfl (fun _ _ => rfl) ho5
  have HR5 := Lib.hid (hpl ▸ hr5)
  have HB5 := Lib.hid (below_trans' HB4.out hb5)
  clear ho5 hr5 hb5
  rw [hpl, hlen]
  clear hpl HP
  go_wp2_with fail
  go_loopw [7] (fun i wr => ∃ k : Nat, k ≤ l ∧ i = .int .i64 k ∧ Below w5.heap.size w5 wr) (fun i _ => l - (intOf i).toNat)
  case atStart => exact ⟨0, by omega, rfl, Below.refl _ _⟩
  case round =>
    obtain ⟨i, hi, rfl, hb⟩ := hrel
    by_cases hlt : i < l
    · obtain ⟨gb, goff, rfl, hgat⟩ := HR5.out (by rw [hlen]; omega)
      have hget := pastI_row cs hlt
      have r0 := cell_below hb (RowInts.at_ hgat hget)
      have hgb : gb < wr.heap.size := World.block_lt_of_cell? _ _ r0
      have HC := Lib.hid (hH1.out i hlt)
      generalize pastRow cs i = ri at *
      have Hb := Lib.hid hb
      clear hgat hget hb
      have hi0 : (0 : Int) ≤ (i : Int) := by omega
      have hin : (i : Int) < (l : Int) := by omega
      go_wp2_with fail
      refine (HI.out _ (HRow.out.below (below_trans' HB5.out Hb.out)) _ true HC.out).mono ?_
      rintro e w6 ⟨rfl, hb6⟩
      go_wp2_with fail
      go_roundw
      case rel => exact ⟨i + 1, by omega, by go_num, below_trans' Hb.out hb6⟩
      case measure => simp [intOf]; omega
    · have e1 : i = l := by omega
      subst e1
      have hge : ¬ ((i : Int) < (i : Int)) := by omega
      have Hb := Lib.hid (below_trans' HB5.out hb)
      clear hb
      go_wp2_with fail
      refine (HI.out _ (HRow.out.below Hb.out) 0 true HF0.out).mono ?_
      rintro e w6 ⟨rfl, hb6⟩
      have HB6 := Lib.hid (below_trans' Hb.out hb6)
      clear hb6
      go_wp2_with (go_at_call 36; refine (HPW.out _).mono ?_; rintro e w7 ⟨rfl, rfl⟩)
      refine (HI.out _ (HRow.out.below HB6.out) f true HFF.out).mono ?_
      rintro e w8 ⟨rfl, hb8⟩
      have HB8 := Lib.hid (below_trans' HB6.out hb8)
      clear hb8
      go_wp2_with fail
      refine (HCo.out _ (HRow.out.below HB8.out)).mono ?_
      rintro e w9 ⟨v9, rfl, ho9, hb9⟩
      obtain ⟨A9, c9, rfl, _, _, _⟩ := own_form ho9
      have hr9 : RowInts w9 A9 (cutsOfL cs) := RowOf.of_own rfl (fun _ _ => rfl) ho9
      have HR9 := Lib.hid (hcl ▸ hr9)
      have HB9 := Lib.hid (below_trans' HB8.out hb9)
      clear ho9 hr9 hb9
      rw [hcl]
      clear hcl
      go_wp2_with fail
      refine (isIn_calls (cutsTo cs i K) _ A9 c9 x _ HR9.out rfl hK bx HAny.out).mono ?_
      rintro e w10 ⟨rfl, rfl⟩
      cases bx
      all_goals
        go_wp2_with fail
        go_ret
        exact ⟨rfl, below_trans' HB1.out HB9.out⟩
end Go.Proofs.Ytcmecgnlhgjciaa
