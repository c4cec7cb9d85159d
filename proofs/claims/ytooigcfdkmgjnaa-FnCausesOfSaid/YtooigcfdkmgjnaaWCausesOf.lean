/-
  The walk of the law that causes have causes: it returns true. No condition.
-/
import Derived.Test.YtooigcfdkmgjnaaDrawCausesOf
import Derived.Test.YtooigcfdkmgjnaaCausesOf
import Derived.Test.YtooigcfdkmgjnaaBrkQ
import Derived.Test.YtooigcfdkmgjnaaLawA
namespace Go.Proofs.Ytooigcfdkmgjnaa
open Go.RowKit
set_option maxRecDepth 100000

set_option maxHeartbeats 4000000 in
theorem walk_FnCausesOf (bs : List Int) (A : Option Addr) (cap : Nat) (w : World) (hlc : bs.length ≤ cap) (hcm : cap ≤ maxLen) (hr : RowOf byteVals 1 w A bs) (hg : ∀ d ∈ bs, isByte d) (_hn : A = none → bs.length = 0 ∧ cap = 0) :
    Calls Try.prog 7 #[.slice A bs.length cap] w fun e w' => e = .returned (.bool true) ∧ Below w.heap.size w w' := by
  have hM := hcm
  unfold maxLen at hM
  have HD := Lib.hid (fun (W : World) (hW : RowOf byteVals 1 W A bs) => drawCausesOf_calls bs A bs.length cap W hW hg rfl hlc hcm)
  have HR := Lib.hid hr
  clear hr hg _hn
  generalize bs.length = n at *
  by_cases hbig : 1048576 < n
  · have hI : (1048576 : Int) < (n : Int) := by omega
    go_enter Try.func7, Try.ntmps7
    go_wp2_with fail
    go_ret
    exact ⟨rfl, Below.refl _ _⟩
  have hI : ¬ ((1048576 : Int) < (n : Int)) := by omega
  go_enter Try.func7, Try.ntmps7
  go_wp2_with fail
  refine (HD.out _ HR.out).mono ?_
  intro e w1 hd
  obtain ⟨v, cs, rfl, ho, hl, hb1⟩ := hd
  obtain ⟨Ao, co, rfl, hoc, hom, _⟩ := own_form ho
  have hrow : RowAccesss w1 Ao cs := RowOf.of_own rfl (fun c _ => c.vals_len) ho
  have HRow := Lib.hid hrow
  have HB1 := Lib.hid hb1
  obtain ⟨b, hb⟩ : ∃ b, accB cs = b := ⟨_, rfl⟩
  have HV := Lib.hid hb
  clear ho hrow hb1 hb
  unfold maxLen at hom
  have HI := Lib.hid (fun (W : World) (hW : RowAccesss W Ao cs) => implCausesOf_calls cs Ao co W hW (by omega) hoc)
  have HS := Lib.hid (fun (W : World) (hW : RowAccesss W Ao cs) => specCausesOf_calls cs Ao co W hW (by omega))
  have HVE := Lib.hid (fun (W : World) (hW : RowAccesss W Ao cs) => implValidAccesses_calls cs Ao co W hW (by omega) hoc b HV.out)
  have HPL := Lib.hid (causesOfL_len cs)
  obtain ⟨l, hll⟩ : ∃ l, cs.length = l := ⟨_, rfl⟩
  rw [hll] at HI HS HVE hl hoc ⊢
  have Hll := Lib.hid hll
  clear hll
  go_wp2_with fail
  refine (HI.out _ HRow.out).mono ?_
  rintro e w2 ⟨v2, rfl, ho2, hb2⟩
  obtain ⟨A2, c2, rfl, _, _, _⟩ := own_form ho2
  have hr2 : RowInts w2 A2 (causesOfL cs) := RowOf.of_own rfl (fun _ _ => rfl) ho2
  have HR2 := Lib.hid hr2
  have HB2 := Lib.hid hb2
  clear ho2 hr2 hb2
  go_wp2_with fail
  refine (HS.out _ (HRow.out.below HB2.out)).mono ?_
  rintro e w3 ⟨v3, rfl, ho3, hb3⟩
  obtain ⟨A3, c3, rfl, _, _, _⟩ := own_form ho3
  have hr3 : RowInts w3 A3 (causesOfL cs) := RowOf.of_own rfl (fun _ _ => rfl) ho3
  have HR3 := Lib.hid hr3
  have HB3 := Lib.hid hb3
  clear ho3 hr3 hb3
  go_wp2_with fail
  refine (equalInts_same (causesOfL cs) A2 A3 _ _ _ (HR2.out.below HB3.out) HR3.out HPL.out).mono ?_
  rintro e w4 ⟨rfl, hb4⟩
  have HB4 := Lib.hid (below_trans' HB2.out (below_trans' HB3.out hb4))
  have HB24 := Lib.hid (below_trans' HB3.out hb4)
  clear hb4
  go_wp2_with fail
  refine (HVE.out _ (HRow.out.below HB4.out)).mono ?_
  rintro e w5 ⟨rfl, hb5⟩
  have HB5 := Lib.hid (below_trans' HB4.out hb5)
  have HB25 := Lib.hid (below_trans' HB24.out hb5)
  clear hb5
  cases b
  · go_wp2_with fail
    refine (HS.out _ (HRow.out.below HB5.out)).mono ?_
    rintro e w6 ⟨v6, rfl, ho6, hb6⟩
    obtain ⟨A6, c6, rfl, _, _, _⟩ := own_form ho6
    have hr6 : RowInts w6 A6 (causesOfL cs) := RowOf.of_own rfl (fun _ _ => rfl) ho6
    have HB6 := Lib.hid hb6
    have HR6 := Lib.hid hr6
    clear ho6 hr6 hb6
    go_wp2_with fail
    refine (equalInts_same (causesOfL cs) A2 A6 _ _ _ ((HR2.out.below HB25.out).below HB6.out) HR6.out HPL.out).mono ?_
    rintro e w7 ⟨rfl, hb7⟩
    go_wp2_with fail
    go_ret
    exact ⟨rfl, below_trans' HB1.out (below_trans' (below_trans' HB5.out HB6.out) hb7)⟩
  · have hv : accB cs = true := HV.out
    have hpl : causesOfL cs = cauI cs l := by simp [causesOfL, hv, Hll.out]
    have hle : l ≤ cs.length := by have := Hll.out; omega
    obtain ⟨W, hW⟩ : ∃ W, wrN cs l = W := ⟨_, rfl⟩
    have hlen : (cauI cs l).length = W := by rw [cauI_len hle, hW]
    have hten := wrN_ten hv l
    rw [hW] at hten
    have hget := fun (k : Nat) (hk : k < W) => cauI_get (cs := cs) (i := l) hle (by rw [hW]; exact hk)
    have hrows := cauN_rows cs (near_all hv) l hle
    have hself := fun (n : Nat) (hn : n < W) => (cauN_in hv l hle n (by rw [hW]; exact hn) n).2 (.inl rfl)
    have hlt1 := cauN_lt cs l hle
    rw [hW] at hlt1
    have hp10 : 2 ^ W ≤ 2 ^ 10 := Nat.pow_le_pow_right (by omega) hten
    have HGet := Lib.hid hget
    have HRows := Lib.hid hrows
    have HSelf := Lib.hid hself
    have HLt := Lib.hid hlt1
    have HR5 := Lib.hid (hpl ▸ HR2.out.below HB25.out)
    rw [hpl, hlen]
    clear hpl hv HR2 HR3 HPL HI HS HVE HD hget hrows hself hlt1
    generalize cauN cs l = CN at *
    have hl7 : (W : Int) ≤ 10 := by omega
    go_wp2_with fail
    go_loopw [5] (fun i wr => ∃ k : Nat, k ≤ W ∧ i = .int .i64 k ∧ Below w5.heap.size w5 wr) (fun i _ => W - (intOf i).toNat)
    case atStart => exact ⟨0, by omega, rfl, Below.refl _ _⟩
    case round =>
      obtain ⟨i, hi, rfl, hb⟩ := hrel
      by_cases hlt : i < W
      · obtain ⟨gb, goff, rfl, hgat⟩ := HR5.out (by rw [hlen]; omega)
        have r0 := cell_below hb (RowInts.at_ hgat (HGet.out i hlt))
        have hgb : gb < wr.heap.size := World.block_lt_of_cell? _ _ r0
        have hlt' := HLt.out i
        have hself := (bitN_test (CN.getD i 0) i).2 (HSelf.out i hlt)
        have HB0 := Lib.hid (fun (W : World) => hself ▸ lbit_calls (CN.getD i 0) i (by omega) (by omega) W)
        have Hgat := Lib.hid hgat
        have Hb := Lib.hid hb
        clear hgat hb hself
        have hi0 : (0 : Int) ≤ (i : Int) := by omega
        have hin : (i : Int) < (W : Int) := by omega
        have Hr0 := Lib.hid r0
        go_wp2_with fail
        refine (HB0.out _).mono ?_
        rintro e w' ⟨rfl, rfl⟩
        go_wp2_with fail
        obtain ⟨wo, hwo⟩ : ∃ wo : World, wo = wr := ⟨_, rfl⟩
        go_loopw [6] (fun j wq => ∃ k : Nat, k ≤ W ∧ j = .int .i64 k ∧ Below w5.heap.size w5 wq) (fun j _ => W - (intOf j).toNat)
        case atStart => exact ⟨0, by omega, rfl, Hb.out⟩
        case round =>
          clear hwo r0 Hr0
          obtain ⟨j, hj, rfl, hb2⟩ := hrel
          by_cases hjl : j < W
          · have r1 := cell_below hb2 (RowInts.at_ Hgat.out (HGet.out i hlt))
            have r2 := cell_below hb2 (RowInts.at_ Hgat.out (HGet.out j hjl))
            have hgb2 : gb < wr.heap.size := World.block_lt_of_cell? _ _ r1
            have hjt := HLt.out j
            have hand := i64_and_nat (CN.getD i 0) (CN.getD j 0) (by omega) (by omega)
            have hbl := bitN_le (CN.getD i 0) j
            have hj0 : (0 : Int) ≤ (j : Int) := by omega
            have hjl' : (j : Int) < (W : Int) := by omega
            have HBJ := Lib.hid (fun (W : World) => lbit_calls (CN.getD i 0) j (by omega) (by omega) W)
            have Hb2 := Lib.hid hb2
            clear hb2
            have hbb : bitN (CN.getD i 0) j = 0 ∨ bitN (CN.getD i 0) j = 1 := by omega
            rcases hbb with hbb | hbb
            · rw [hbb] at HBJ
              clear hbb hbl hand hjt hlt'
              generalize CN.getD i 0 = ri at *
              generalize CN.getD j 0 = rj at *
              go_wp2_with fail
              refine wp_region_grow (by kernel_rfl) (by kernel_rfl) ?_
              repeat (go_big_quiet_step ((go_at_call 29; exact Calls.ext_same (HBJ.out _))))
              refine wpQuiet_end ?_
              intro w10 hb10
              go_wp2_with fail
              go_roundw
              case rel => exact ⟨j + 1, by omega, by go_num, below_trans' Hb2.out hb10⟩
              case measure => simp [intOf]; omega
            · obtain ⟨hle', _, htr⟩ := HRows.out i j ((bitN_test _ _).1 hbb)
              have hsub : CN.getD i 0 &&& CN.getD j 0 = CN.getD j 0 := by
                have := subN_iff.2 htr
                rw [subN, beq_iff_eq, Nat.and_comm] at this
                exact this
              rw [hsub] at hand
              rw [hbb] at HBJ
              clear hbb hbl hjt hlt' hsub htr
              have hngt : ¬ ((i : Int) < (j : Int)) := by omega
              have hngd : decide ((i : Int) < (j : Int)) = false := by simpa using hngt
              have hngn : ¬ (i < j) := by omega
              have hngm : decide (i < j) = false := by simpa using hngn
              generalize CN.getD i 0 = ri at *
              generalize CN.getD j 0 = rj at *
              go_wp2_with fail
              refine wp_region_grow (by kernel_rfl) (by kernel_rfl) ?_
              repeat (go_big_quiet_step ((go_at_call 29; exact Calls.ext_same (HBJ.out _))))
              refine wpQuiet_end ?_
              intro w10 hb10
              go_wp2_with fail
              go_roundw
              case rel => exact ⟨j + 1, by omega, by go_num, below_trans' Hb2.out hb10⟩
              case measure => simp [intOf]; omega
          · have e1 : j = W := by omega
            subst e1
            have hge : ¬ ((j : Int) < (j : Int)) := by omega
            go_wp2_with fail
            go_roundw
            case rel => exact ⟨i + 1, by omega, by go_num, hb2⟩
            case measure => simp [intOf]; omega
      · have e1 : i = W := by omega
        subst e1
        have hge : ¬ ((i : Int) < (i : Int)) := by omega
        have Hb := Lib.hid hb
        clear hb
        go_wp2_with fail
        go_ret
        exact ⟨rfl, below_trans' HB1.out (below_trans' HB5.out Hb.out)⟩
end Go.Proofs.Ytooigcfdkmgjnaa
