/-
  The walk of the law that vectors tell the past: it returns true. No condition.
-/
import Derived.Test.YtcmecgnlhgjciaaDrawVectorsOf
import Derived.Test.YtcmecgnlhgjciaaVecs2
import Derived.Test.YtcmecgnlhgjciaaVecE
import Derived.Test.YtcmecgnlhgjciaaPastOf
namespace Go.Proofs.Ytcmecgnlhgjciaa
open Go.RowKit
set_option maxRecDepth 100000

def lessTo (cs : List EventD) (i k n p : Nat) : Bool := (List.range p).all fun q => decide (vecK cs k (q : Int) n ≤ vecK cs i (q : Int) n)
theorem lessTo_succ (cs : List EventD) (i k n p : Nat) : lessTo cs i k n (p + 1) = (lessTo cs i k n p && decide (vecK cs k (p : Int) n ≤ vecK cs i (p : Int) n)) := all_range_succ _ p
theorem lessTo_all {cs : List EventD} (hv : evB cs = true) {i k : Nat} (hi : i < cs.length) (hk : k < cs.length) : lessTo cs i k cs.length 3 = (bitN (pastRow cs i) k == 1) := by
  rw [← vec_law hv hi hk, lessTo_succ, lessTo_succ, lessTo_succ]
  simp [lessTo]
theorem Vecs.at_ {w : World} {base : Nat} {A : Option Addr} {n c : Nat} {bs : List Nat} {L : List (List Int)} (h : Vecs w base A n c bs L) {i b p : Nat} {r : List Int} {x : Int} (h1 : bs[i]? = some b) (h2 : L[i]? = some r) (h3 : r[p]? = some x) : w.cell? ⟨b, p, none⟩ = some (.int .i64 x) := by
  have ho := (h.inn i b r h1 h2).2
  have := ho.cells (g := b) rfl p (.int .i64 x) (by rw [flat_ints, List.getElem?_map, h3]; rfl)
  rwa [Addr.add_lit, Nat.zero_add] at this

set_option maxHeartbeats 4000000 in
theorem walk_FnVectorsOf (bs : List Int) (A : Option Addr) (cap : Nat) (w : World) (hlc : bs.length ≤ cap) (hcm : cap ≤ maxLen) (hr : RowOf byteVals 1 w A bs) (hg : ∀ d ∈ bs, isByte d) (_hn : A = none → bs.length = 0 ∧ cap = 0) :
    Calls Try.prog 12 #[.slice A bs.length cap] w fun e w' => e = .returned (.bool true) ∧ Below w.heap.size w w' := by
  have hM := hcm
  unfold maxLen at hM
  have HD := Lib.hid (fun (W : World) (hW : RowOf byteVals 1 W A bs) => drawVectorsOf_calls bs A bs.length cap W hW hg rfl hlc hcm)
  have HR := Lib.hid hr
  clear hr hg _hn
  generalize bs.length = n at *
  by_cases hbig : 1048576 < n
  · have hI : (1048576 : Int) < (n : Int) := by omega
    go_enter Try.func12, Try.ntmps12
    go_wp2_with fail
    go_ret
    exact ⟨rfl, Below.refl _ _⟩
  have hI : ¬ ((1048576 : Int) < (n : Int)) := by omega
  go_enter Try.func12, Try.ntmps12
  go_wp2_with fail
  refine (HD.out _ HR.out).mono ?_
  intro e w1 hd
  obtain ⟨v, cs, rfl, ho, hgd, hl, hb1⟩ := hd
  obtain ⟨Ao, co, rfl, hoc, hom, _⟩ := own_form ho
  have hrow : RowEvents w1 Ao cs := RowOf.of_own rfl (fun c _ => c.vals_len) ho
  have HRow := Lib.hid hrow
  have HB1 := Lib.hid hb1
  obtain ⟨b, hb⟩ : ∃ b, evB cs = b := ⟨_, rfl⟩
  have HV := Lib.hid hb
  clear ho hgd hrow hb1 hb
  unfold maxLen at hom
  have HI := Lib.hid (fun (W : World) (hW : RowEvents W Ao cs) => implVectorsOf_calls cs Ao co W hW (by omega) hoc)
  have HS := Lib.hid (fun (W : World) (hW : RowEvents W Ao cs) => specVectorsOf_calls cs Ao co W hW (by omega))
  have HVE := Lib.hid (fun (W : World) (hW : RowEvents W Ao cs) => implValidEvents_calls cs Ao co W hW (by omega) hoc b HV.out)
  have HPA := Lib.hid (fun (W : World) (hW : RowEvents W Ao cs) => implPastOf_calls cs Ao co W hW (by omega) hoc)
  simp only [VecPost] at HI HS
  have HPL := Lib.hid (vectorsL_len cs)
  obtain ⟨l, hll⟩ : ∃ l, cs.length = l := ⟨_, rfl⟩
  rw [hll] at HI HS HVE HPA hl hoc ⊢
  have Hll := Lib.hid hll
  clear hll
  go_wp2_with fail
  refine (HI.out _ HRow.out).mono ?_
  rintro e w2 ⟨A2, c2, bs2, rfl, V2, hb2⟩
  have HV2 := Lib.hid V2
  have HB2 := Lib.hid hb2
  clear V2 hb2
  go_wp2_with fail
  refine (HS.out _ (HRow.out.below HB2.out)).mono ?_
  rintro e w3 ⟨A3, c3, bs3, rfl, V3, hb3⟩
  have HV3 := Lib.hid V3
  have HB3 := Lib.hid hb3
  clear V3 hb3
  go_wp2_with fail
  refine (equalLists_same (vectorsL cs) _ _ A2 A3 _ c2 c3 bs2 bs3 _ (HV2.out.below HB3.out) HV3.out (by have := HPL.out; omega)).mono ?_
  rintro e w4 ⟨rfl, hb4⟩
  have HB4 := Lib.hid (below_trans' HB2.out (below_trans' HB3.out hb4))
  have HB24 := Lib.hid (below_trans' HB3.out hb4)
  clear hb4
  go_wp2_with fail
  refine (HVE.out _ (HRow.out.below HB4.out)).mono ?_
  rintro e w5 ⟨rfl, hb5⟩
  have HB5 := Lib.hid (below_trans' HB4.out hb5)
  have HB25 := Lib.hid (below_trans' HB24.out hb5)
  clear hb5
  cases b
  · go_wp2_with fail
    refine (HS.out _ (HRow.out.below HB5.out)).mono ?_
    rintro e w6 ⟨A6, c6, bs6, rfl, V6, hb6⟩
    have HV6 := Lib.hid V6
    have HB6 := Lib.hid hb6
    clear V6 hb6
    go_wp2_with fail
    refine (equalLists_same (vectorsL cs) _ _ A2 A6 _ c2 c6 bs2 bs6 _ ((HV2.out.below HB25.out).below HB6.out) HV6.out (by have := HPL.out; omega)).mono ?_
    rintro e w7 ⟨rfl, hb7⟩
    go_wp2_with fail
    go_ret
    exact ⟨rfl, below_trans' HB1.out (below_trans' (below_trans' HB5.out HB6.out) hb7)⟩
  · have hv : evB cs = true := HV.out
    have hpl : vectorsL cs = vecsTo cs l := by simp [vectorsL, hv, Hll.out]
    have hpp : pastOfL cs = pastI cs l := by simp [pastOfL, hv, pastL, Hll.out]
    have hlen := vecsTo_len cs l
    have HLess := Lib.hid (fun (i k : Nat) (hi : i < l) (hk : k < l) => lessTo_all hv (i := i) (k := k) (by rw [Hll.out]; exact hi) (by rw [Hll.out]; exact hk))
    have HR5 := Lib.hid (HV2.out.below HB25.out)
    rw [hpl, hlen] at HR5
    rw [hpl, hlen]
    rw [hpp] at HPA
    rw [Hll.out] at HLess
    clear hpl hpp hv HV2 HV3 HPL HI HS HVE HD hlen
    have hl7 : (l : Int) ≤ 7 := by omega
    go_wp2_with fail
    refine (HPA.out _ (HRow.out.below HB5.out)).mono ?_
    rintro e w6 ⟨v6, rfl, ho6, hb6⟩
    unfold OwnInts at ho6
    rw [pastI_len] at ho6
    obtain ⟨A6, c6, rfl, _, _, _⟩ := own_form ho6
    have hr6 : RowInts w6 A6 (pastI cs l) := RowOf.of_own (pastI_len cs l).symm (fun _ _ => rfl) ho6
    have HP6 := Lib.hid hr6
    have HV6 := Lib.hid (HR5.out.below hb6)
    have HB6 := Lib.hid (below_trans' HB5.out hb6)
    clear hr6 ho6 hb6 HR5
    go_wp2_with fail
    go_loopw [6, 7, 8, 9] (fun i _ _ _ wr => ∃ k : Nat, k ≤ l ∧ i = .int .i64 k ∧ Below w6.heap.size w6 wr) (fun i _ _ _ _ => l - (intOf i).toNat)
    case atStart => exact ⟨0, by omega, rfl, Below.refl _ _⟩
    case round =>
      obtain ⟨i, hi, rfl, hb⟩ := hrel
      by_cases hlt : i < l
      · have Hb := Lib.hid hb
        clear hb
        have hi0 : (0 : Int) ≤ (i : Int) := by omega
        have hin : (i : Int) < (l : Int) := by omega
        go_wp2_with fail
        go_loopw [7, 8, 9] (fun j _ _ wq => ∃ k : Nat, k ≤ l ∧ j = .int .i64 k ∧ Below w6.heap.size w6 wq) (fun j _ _ _ => l - (intOf j).toNat)
        case atStart => exact ⟨0, by omega, rfl, Hb.out⟩
        case round =>
          clear Hb
          obtain ⟨k, hk, rfl, hb⟩ := hrel
          by_cases hkl : k < l
          · have Hb := Lib.hid hb
            clear hb
            have hk0 : (0 : Int) ≤ (k : Int) := by omega
            have hkn : (k : Int) < (l : Int) := by omega
            go_wp2_with fail
            go_loopw [8, 9] (fun f p wq => ∃ m : Nat, m ≤ 3 ∧ p = .int .i64 m ∧ f = .bool (lessTo cs i k l m) ∧ Below w6.heap.size w6 wq) (fun _ p _ => 3 - (intOf p).toNat)
            case atStart => exact ⟨0, by omega, rfl, rfl, Hb.out⟩
            case round =>
              clear Hb
              obtain ⟨m, hm, rfl, rfl, hb⟩ := hrel
              by_cases hml : m < 3
              · have hVq := HV6.out.below hb
                obtain ⟨b1, r1, h1, h2, _⟩ := hVq.get hkl
                obtain ⟨b2, r2, h1', h2', _⟩ := hVq.get hlt
                have er1 : r1 = vecI cs k l := by simp only [vecsTo, List.getElem?_map, List.getElem?_range hkl, Option.map_some, Option.some.injEq] at h2; rw [← h2, vecRow_all cs hkl]
                have er2 : r2 = vecI cs i l := by simp only [vecsTo, List.getElem?_map, List.getElem?_range hlt, Option.map_some, Option.some.injEq] at h2'; rw [← h2', vecRow_all cs hlt]
                subst er1 er2
                have u1 := hVq.at_ h1 h2 (vecI_get cs k l m hml)
                have u2 := hVq.at_ h1' h2' (vecI_get cs i l m hml)
                obtain ⟨ga, rfl, ca, la⟩ := hVq.cell h1
                obtain ⟨ga', hga, ca', _⟩ := hVq.cell h1'
                injection hga with hga
                injection hga with hga
                subst hga
                rw [rowV] at ca ca'
                have z1 : b1 < wr.heap.size := World.block_lt_of_cell? _ _ u1
                have z2 : b2 < wr.heap.size := World.block_lt_of_cell? _ _ u2
                have Hls := Lib.hid (lessTo_succ cs i k l m)
                have Hb := Lib.hid hb
                clear hVq h1 h2 h1' h2' hb
                generalize lessTo cs i k l m = f at *
                generalize vecK cs k (m : Int) l = a1 at *
                generalize vecK cs i (m : Int) l = a2 at *
                have hm0 : (0 : Int) ≤ (m : Int) := by omega
                have hm3 : (m : Int) < 3 := by omega
                cases f
                · go_wp2_with fail
                  refine wp_region_grow (by kernel_rfl) (by kernel_rfl) ?_
                  repeat (go_big_quiet_step (fail))
                  refine wpQuiet_end ?_
                  intro w10 hb10
                  go_wp2_with fail
                  go_roundw
                  case rel => exact ⟨m + 1, by omega, by go_num, by rw [Hls.out]; rfl, below_trans' Hb.out hb10⟩
                  case measure => simp [intOf]; omega
                · by_cases hle : (a1 : Int) ≤ (a2 : Int)
                  · have hld : decide (a1 ≤ a2) = true := by simp; omega
                    rw [hld] at Hls
                    clear hld
                    go_wp2_with fail
                    refine wp_region_grow (by kernel_rfl) (by kernel_rfl) ?_
                    repeat (go_big_quiet_step (fail))
                    refine wpQuiet_end ?_
                    intro w10 hb10
                    go_wp2_with fail
                    go_roundw
                    case rel => exact ⟨m + 1, by omega, by go_num, by rw [Hls.out]; first | rfl | (simp; done) | (simp; omega), below_trans' Hb.out hb10⟩
                    case measure => simp [intOf]; omega
                  · have hld : decide (a1 ≤ a2) = false := by simp; omega
                    rw [hld] at Hls
                    clear hld
                    go_wp2_with fail
                    refine wp_region_grow (by kernel_rfl) (by kernel_rfl) ?_
                    repeat (go_big_quiet_step (fail))
                    refine wpQuiet_end ?_
                    intro w10 hb10
                    go_wp2_with fail
                    go_roundw
                    case rel => exact ⟨m + 1, by omega, by go_num, by rw [Hls.out]; first | rfl | (simp; done) | (simp; omega), below_trans' Hb.out hb10⟩
                    case measure => simp [intOf]; omega
              · have e1 : m = 3 := by omega
                subst e1
                rw [HLess.out i k hlt hkl]
                obtain ⟨gb, goff, rfl, hgat⟩ := HP6.out (by rw [pastI_len]; omega)
                have r0 := cell_below hb (RowInts.at_ hgat (pastI_row cs hlt))
                have hgb : gb < wr.heap.size := World.block_lt_of_cell? _ _ r0
                have hlt' := pastRow_lt cs i
                have hp8 : 2 ^ (i + 1) ≤ 2 ^ 8 := Nat.pow_le_pow_right (by omega) (by omega)
                have HB0 := Lib.hid (fun (W : World) => lbit_calls (pastRow cs i) k (by omega) (by omega) W)
                have hbl := bitN_le (pastRow cs i) k
                have Hb := Lib.hid hb
                clear hgat hb hlt' hp8
                generalize pastRow cs i = ri at *
                generalize bitN ri k = bb at *
                have hbb : bb = 0 ∨ bb = 1 := by omega
                rcases hbb with rfl | rfl
                all_goals
                  go_wp2_with fail
                  refine (HB0.out _).mono ?_
                  rintro e w' ⟨rfl, rfl⟩
                  go_wp2_with fail
                  go_roundw
                  case rel => exact ⟨k + 1, by omega, by go_num, Hb.out⟩
                  case measure => simp [intOf]; omega
          · have e1 : k = l := by omega
            subst e1
            have hge : ¬ ((k : Int) < (k : Int)) := by omega
            go_wp2_with fail
            go_roundw
            case rel => exact ⟨i + 1, by omega, by go_num, hb⟩
            case measure => simp [intOf]; omega
      · have e1 : i = l := by omega
        subst e1
        have hge : ¬ ((i : Int) < (i : Int)) := by omega
        have hie : ((i : Int) == (i : Int)) = true := by simp
        have Hb := Lib.hid hb
        clear hb
        go_wp2_with fail
        go_ret
        exact ⟨rfl, below_trans' HB1.out (below_trans' HB6.out Hb.out)⟩
end Go.Proofs.Ytcmecgnlhgjciaa
