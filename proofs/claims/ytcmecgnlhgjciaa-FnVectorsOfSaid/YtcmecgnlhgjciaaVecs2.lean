/-
  The vector times of events, as the reference makes them, in memory of its own. No condition but lengths of at most 2 to the 20.
-/
import Derived.Test.YtcmecgnlhgjciaaVecs
import Derived.Test.YtcmecgnlhgjciaaPast2
import Derived.Test.YtcmecgnlhgjciaaBitC
import Derived.Test.YtcmecgnlhgjciaaHeldT
namespace Go.Proofs.Ytcmecgnlhgjciaa
open Go.RowKit
set_option maxRecDepth 100000

set_option maxHeartbeats 4000000 in
theorem specVectorsOf_calls (cs : List EventD) (A : Option Addr) (cap : Nat) (w : World) (hr : RowEvents w A cs) (hl : cs.length ≤ 1048576) :
    Calls Try.prog 39 #[.slice A cs.length cap] w fun e w' => VecPost cs w w' e := by
  obtain ⟨i0, hi0, hz0, hz1, hz2⟩ := info_parts vecs_info
  obtain ⟨j0, hj0, hy0, hy1, hy2⟩ := info_parts ints_info
  have HR := Lib.hid hr
  clear hr
  cases hv : evB cs
  · have E1 := Lib.hid (show vectorsL cs = [] by simp [vectorsL, hv])
    have HV := Lib.hid hv
    clear hv
    go_enter Try.func39, Try.ntmps39
    go_wp2_with (go_at_call 49; refine (specValid_calls cs A cap _ HR.out hl false HV.out).mono ?_; rintro e w1 ⟨rfl, hb1⟩)
    go_ret
    unfold VecPost
    rw [E1.out]
    exact ⟨_, _, _, rfl, Vecs.nil _ _, hb1⟩
  have E1 := Lib.hid (show vectorsL cs = vecsTo cs cs.length by simp [vectorsL, hv])
  have HV := Lib.hid hv
  have h7 := evB_len hv
  have HPC := Lib.hid (fun (i : Nat) (c : EventD) (hc : cs[i]? = some c) => ev_proc hv hc)
  clear hv
  go_enter Try.func39, Try.ntmps39
  go_wp2_with (go_at_call 49; refine (specValid_calls cs A cap _ HR.out hl true HV.out).mono ?_; rintro e w1 ⟨rfl, hb1⟩)
  refine (specpast_calls cs A cap _ (HR.out.below hb1) (by omega)).mono ?_
  rintro e w2 ⟨vr, rfl, hor, hb2⟩
  have hbw2 : Below w.heap.size w w2 := below_trans' hb1 hb2
  unfold OwnInts at hor
  rw [show (pastL cs).length = cs.length from pastI_len _ _] at hor
  obtain ⟨Ar, cr, rfl, hrc, hrm, _⟩ := own_form hor
  unfold pastL at hor
  have hlr := hor.lt
  clear hb1 hb2 HV
  generalize hn : cs.length = n at *
  have Hn := Lib.hid hn
  clear hn
  have hV2 := Vecs.start w2 w.heap.size hbw2.size
  have HV2 := Lib.hid hV2
  have HO := Lib.hid (hor.alloc (.cells #[] 32))
  have HB2 := Lib.hid (below_alloc hbw2 (.cells #[] 32))
  have HA := Lib.hid (show ∀ k, Value.ownBlock (.slice Ar n cr) = some k → (Value.slice (some ⟨w2.heap.size, 0, none⟩) 0 0).ownBlock ≠ some k from fun k hk h => by have := (hlr k hk).2; simp only [Value.ownBlock, Option.some.injEq] at h; omega)
  obtain ⟨br, hbr⟩ : ∃ b, w1.heap.size = b := ⟨_, rfl⟩
  rw [hbr] at HO
  clear hor hbw2 hV2 hlr hbr
  have hlen : (n : Int) ≤ 7 := by omega
  go_wp2_with fail
  go_loopw [4, 5, 6, 7] (fun v i _ _ wr => ∃ (k : Nat) (Ao : Option Addr) (co : Nat) (bs : List Nat), k ≤ n ∧ i = .int .i64 k ∧ v = .slice Ao k co ∧ Vecs wr w.heap.size Ao k co bs (vecsTo cs k) ∧ Below w.heap.size w wr ∧ Hid (wr.ownsRow br 3 1 (.slice Ar n cr) n ((pastI cs n).flatMap intVals)) ∧ Hid (∀ k, Value.ownBlock (.slice Ar n cr) = some k → v.ownBlock ≠ some k)) (fun _ i _ _ _ => n - (intOf i).toNat)
  case atStart => exact ⟨0, _, _, _, by omega, rfl, rfl, HV2.out, HB2.out, HO.out, HA.out⟩
  case round =>
    clear HO HB2 HA HV2
    obtain ⟨i, Ao, co, bs, hi, rfl, rfl, hV, hb, HP, HAp⟩ := hrel
    obtain ⟨wo, rfl⟩ : ∃ wo : World, wo = wr := ⟨_, rfl⟩
    by_cases hlt : i < n
    · have hrow : RowInts wo Ar (pastI cs n) := RowOf.of_own (pastI_len cs n).symm (fun _ _ => rfl) HP.out
      obtain ⟨gb, goff, rfl, hgat⟩ := hrow (by rw [pastI_len]; omega)
      have r0 := RowInts.at_ hgat (pastI_row cs hlt)
      have hgb : gb < wo.heap.size := World.block_lt_of_cell? _ _ r0
      have hrl := pastRow_lt cs i
      have hp1 : 2 ^ (i + 1) ≤ 2 ^ 8 := Nat.pow_le_pow_right (by omega) (by omega)
      have hr20 : pastRow cs i < 2 ^ 60 := by omega
      have HVo := Lib.hid hV
      have HBo := Lib.hid hb
      have hws := hb.size
      clear hrow hgat hV hb hrl hp1
      have hi0' : (0 : Int) ≤ (i : Int) := by omega
      have hin : (i : Int) < (n : Int) := by omega
      go_wp2_with (at_make; refine wpList_make_full _ rfl _ _ 32 rfl w.heap.size 3 j0 _ 1 Try.underlying32 hj0 hy0 hy1 _ _ _ _ 3 rfl rfl rfl rfl (by rw [hy2]; omega) (by unfold maxLen; omega) (by omega) ?_; intro w5 hown5 hgrow5)
      have hb5 : Below wo.heap.size wo w5 := (Below.refl _ _).grown hgrow5 (Nat.le_refl _) (by simp)
      have hk5 : IntBlk w5 wo.heap.size (vecI cs i 0) := by rw [vecI_zero]; exact IntBlk.made hown5
      obtain ⟨gv, hgv⟩ : ∃ gv, wo.heap.size = gv := ⟨_, rfl⟩
      rw [hgv] at hk5 ⊢
      have Hgv := Lib.hid hgv
      clear hown5 hgrow5 hgv
      go_loopw [7] (fun j wq => ∃ k : Nat, k ≤ i + 1 ∧ j = .int .i64 k ∧ Below wo.heap.size wo wq ∧ IntBlk wq gv (vecI cs i k)) (fun j _ => i + 1 - (intOf j).toNat)
      case atStart => exact ⟨0, by omega, rfl, hb5, hk5⟩
      case round =>
        clear hb5 hk5
        obtain ⟨k, hk, rfl, hbq, hkq⟩ := hrel
        by_cases hkl : k ≤ i
        · obtain ⟨b0, off, rfl, hat⟩ := HR.out (by have := Hn.out; omega)
          obtain ⟨c, hc⟩ : ∃ c, cs[k]? = some c := ⟨cs[k]'(by have := Hn.out; omega), List.getElem?_eq_getElem _⟩
          obtain ⟨p, hp, hp3⟩ := HPC.out k c hc
          have hbw := HBo.out.trans (hbq.mono HBo.out.size)
          obtain ⟨x0, x1, x2⟩ := (RowEvents.at_ hat hc).below hbw
          have hbz : b0 < wr.heap.size := World.block_lt_of_cell? _ _ x0
          rw [hp] at x0
          have rq := cell_below hbq r0
          have hgq : gb < wr.heap.size := World.block_lt_of_cell? _ _ rq
          have hgz := hkq.lt
          have cv := hkq.cell (vecI_get cs i k p hp3)
          have fv := hkq.free (i := p)
          have hset := vecI_set cs i k p hp3 (by rw [evAt_eq hc]; exact hp)
          have hvl := vecK_le cs i (p : Int) k
          have hbl := bitN_le (pastRow cs i) k
          have HBC := Lib.hid (fun (W : World) => bit_calls (pastRow cs i) k hr20 (by omega) W)
          have Hset := Lib.hid hset
          have HBQ := Lib.hid hbq
          have HKQ := Lib.hid hkq
          clear hat hc hbw hbq hkq hset r0
          generalize vecK cs i (p : Int) k = vk at *
          generalize bitN (pastRow cs i) k = bb at *
          generalize pastRow cs i = ri at *
          have hk0 : (0 : Int) ≤ (k : Int) := by omega
          have hkn : (k : Int) < (n : Int) := by omega
          have hki : (k : Int) ≤ (i : Int) := by omega
          have hp0 : (0 : Int) ≤ (p : Int) := by omega
          have hp3' : (p : Int) < 3 := by omega
          have hvk : (vk : Int) ≤ 7 := by omega
          have hbb : (bb : Int) ≤ 1 := by omega
          have hvk0 : (0 : Int) ≤ (vk : Int) := by omega
          have hbb0 : (0 : Int) ≤ (bb : Int) := by omega
          have K6 := HKQ.out.set_ (i := p) ((vk + bb : Nat) : Int)
          rw [Hset.out, show ((vk + bb : Nat) : Int) = (vk : Int) + (bb : Int) by omega] at K6
          have B6 := HBQ.out.setCell (p := ⟨gv, p, none⟩) (by have := Hgv.out; show wo.heap.size ≤ gv; omega) (.int .i64 ((vk : Int) + (bb : Int)))
          have HK6 := Lib.hid K6
          have HB6 := Lib.hid B6
          clear K6 B6
          go_wp2_with fail
          refine tailed_start 21 (fun w' => w'.cell? ⟨b0, off + k * 3, none⟩ = some (.int .i64 (p : Int)) ∧ w'.cell? ⟨gv, p, none⟩ = some (.int .i64 (vk : Int)) ∧ w'.cell? ⟨gb, goff + i, none⟩ = some (.int .i64 (ri : Int))) (by kernel_rfl) ?_ (fun hHeld => ?_)
          · exact ⟨x0, cv, rq⟩
          refine Tailed.pure (i := 0) (v := ?hv1) rfl (by kernel_rfl) (by kernel_rfl) (by kernel_rfl) (by omega) (by kernel_rfl) (by kernel_rfl) (fun _ _ _ h => h) (by assumption) (Or.inl ⟨by rfl, ?hy1⟩) ?hr1
          case hy1 => (intro w' _hSw; go_simp; try with_reducible rfl)
          (try simp only [Act.put, List.getElem_toArray, List.getElem_cons_zero, List.getElem_cons_succ, List.setIfInBounds_toArray, List.set_cons_zero, List.set_cons_succ])
          refine Tailed.pure (i := 1) (v := ?hv2) rfl (by kernel_rfl) (by kernel_rfl) (by kernel_rfl) (by omega) (by kernel_rfl) (by kernel_rfl) (fun _ _ _ h => h) (by assumption) (Or.inl ⟨by rfl, ?hy2⟩) ?hr2
          case hy2 => (intro w' _hSw; go_simp; try with_reducible rfl)
          (try simp only [Act.put, List.getElem_toArray, List.getElem_cons_zero, List.getElem_cons_succ, List.setIfInBounds_toArray, List.set_cons_zero, List.set_cons_succ])
          refine Tailed.pure (i := 2) (v := ?hv3) rfl (by kernel_rfl) (by kernel_rfl) (by kernel_rfl) (by omega) (by kernel_rfl) (by kernel_rfl) (fun _ _ _ h => h) (by assumption) (Or.inl ⟨by rfl, ?hy3⟩) ?hr3
          case hy3 => (intro w' _hSw; go_simp; try with_reducible rfl)
          (try simp only [Act.put, List.getElem_toArray, List.getElem_cons_zero, List.getElem_cons_succ, List.setIfInBounds_toArray, List.set_cons_zero, List.set_cons_succ])
          refine Tailed.pure (i := 3) (v := ?hv4) rfl (by kernel_rfl) (by kernel_rfl) (by kernel_rfl) (by omega) (by kernel_rfl) (by kernel_rfl) (fun _ _ _ h => h) (by assumption) (Or.inl ⟨by rfl, ?hy4⟩) ?hr4
          case hy4 => (intro w' _hSw; go_simp; try with_reducible rfl)
          (try simp only [Act.put, List.getElem_toArray, List.getElem_cons_zero, List.getElem_cons_succ, List.setIfInBounds_toArray, List.set_cons_zero, List.set_cons_succ])
          refine Tailed.pure (i := 4) (v := ?hv5) rfl (by kernel_rfl) (by kernel_rfl) (by kernel_rfl) (by omega) (by kernel_rfl) (by kernel_rfl) (fun _ _ _ h => h) (by assumption) (Or.inl ⟨by rfl, ?hy5⟩) ?hr5
          case hy5 => (intro w' _hSw; go_simp; try with_reducible rfl)
          (try simp only [Act.put, List.getElem_toArray, List.getElem_cons_zero, List.getElem_cons_succ, List.setIfInBounds_toArray, List.set_cons_zero, List.set_cons_succ])
          refine Tailed.take (i := 5) (v := ?hv6) rfl (by kernel_rfl) (by kernel_rfl) (by kernel_rfl) (by kernel_rfl) (by kernel_rfl) (by kernel_rfl) (fun _ _ _ h => h) (by assumption) (Or.inl ⟨by rfl, ?hy6⟩) ?hr6
          case hy6 => (intro w' hSw; (try dsimp only at hSw); go_simp; try with_reducible rfl)
          (try simp only [Act.put, List.getElem_toArray, List.getElem_cons_zero, List.getElem_cons_succ, List.setIfInBounds_toArray, List.set_cons_zero, List.set_cons_succ])
          refine Tailed.pure (i := 6) (v := ?hv7) rfl (by kernel_rfl) (by kernel_rfl) (by kernel_rfl) (by omega) (by kernel_rfl) (by kernel_rfl) (fun _ _ _ h => h) (by assumption) (Or.inl ⟨by rfl, ?hy7⟩) ?hr7
          case hy7 => (intro w' _hSw; go_simp; try with_reducible rfl)
          (try simp only [Act.put, List.getElem_toArray, List.getElem_cons_zero, List.getElem_cons_succ, List.setIfInBounds_toArray, List.set_cons_zero, List.set_cons_succ])
          refine Tailed.pure (i := 7) (v := ?hv8) rfl (by kernel_rfl) (by kernel_rfl) (by kernel_rfl) (by omega) (by kernel_rfl) (by kernel_rfl) (fun _ _ _ h => h) (by assumption) (Or.inl ⟨by rfl, ?hy8⟩) ?hr8
          case hy8 => (intro w' _hSw; go_simp; try with_reducible rfl)
          (try simp only [Act.put, List.getElem_toArray, List.getElem_cons_zero, List.getElem_cons_succ, List.setIfInBounds_toArray, List.set_cons_zero, List.set_cons_succ])
          refine Tailed.pure (i := 8) (v := ?hv9) rfl (by kernel_rfl) (by kernel_rfl) (by kernel_rfl) (by omega) (by kernel_rfl) (by kernel_rfl) (fun _ _ _ h => h) (by assumption) (Or.inl ⟨by rfl, ?hy9⟩) ?hr9
          case hy9 => (intro w' _hSw; go_simp; try with_reducible rfl)
          (try simp only [Act.put, List.getElem_toArray, List.getElem_cons_zero, List.getElem_cons_succ, List.setIfInBounds_toArray, List.set_cons_zero, List.set_cons_succ])
          refine Tailed.pure (i := 9) (v := ?hv10) rfl (by kernel_rfl) (by kernel_rfl) (by kernel_rfl) (by omega) (by kernel_rfl) (by kernel_rfl) (fun _ _ _ h => h) (by assumption) (Or.inl ⟨by rfl, ?hy10⟩) ?hr10
          case hy10 => (intro w' _hSw; go_simp; try with_reducible rfl)
          (try simp only [Act.put, List.getElem_toArray, List.getElem_cons_zero, List.getElem_cons_succ, List.setIfInBounds_toArray, List.set_cons_zero, List.set_cons_succ])
          refine Tailed.pure (i := 10) (v := ?hv11) rfl (by kernel_rfl) (by kernel_rfl) (by kernel_rfl) (by omega) (by kernel_rfl) (by kernel_rfl) (fun _ _ _ h => h) (by assumption) (Or.inl ⟨by rfl, ?hy11⟩) ?hr11
          case hy11 => (intro w' _hSw; go_simp; try with_reducible rfl)
          (try simp only [Act.put, List.getElem_toArray, List.getElem_cons_zero, List.getElem_cons_succ, List.setIfInBounds_toArray, List.set_cons_zero, List.set_cons_succ])
          refine Tailed.take (i := 11) (v := ?hv12) rfl (by kernel_rfl) (by kernel_rfl) (by kernel_rfl) (by kernel_rfl) (by kernel_rfl) (by kernel_rfl) (fun _ _ _ h => h) (by assumption) (Or.inl ⟨by rfl, ?hy12⟩) ?hr12
          case hy12 => (intro w' hSw; (try dsimp only at hSw); go_simp; try with_reducible rfl)
          (try simp only [Act.put, List.getElem_toArray, List.getElem_cons_zero, List.getElem_cons_succ, List.setIfInBounds_toArray, List.set_cons_zero, List.set_cons_succ])
          refine Tailed.pure (i := 12) (v := ?hv13) rfl (by kernel_rfl) (by kernel_rfl) (by kernel_rfl) (by omega) (by kernel_rfl) (by kernel_rfl) (fun _ _ _ h => h) (by assumption) (Or.inl ⟨by rfl, ?hy13⟩) ?hr13
          case hy13 => (intro w' _hSw; go_simp; try with_reducible rfl)
          (try simp only [Act.put, List.getElem_toArray, List.getElem_cons_zero, List.getElem_cons_succ, List.setIfInBounds_toArray, List.set_cons_zero, List.set_cons_succ])
          refine Tailed.take (i := 13) (v := ?hv14) rfl (by kernel_rfl) (by kernel_rfl) (by kernel_rfl) (by kernel_rfl) (by kernel_rfl) (by kernel_rfl) (fun _ _ _ h => h) (by assumption) (Or.inl ⟨by rfl, ?hy14⟩) ?hr14
          case hy14 => (intro w' hSw; (try dsimp only at hSw); go_simp; try with_reducible rfl)
          (try simp only [Act.put, List.getElem_toArray, List.getElem_cons_zero, List.getElem_cons_succ, List.setIfInBounds_toArray, List.set_cons_zero, List.set_cons_succ])
          refine Tailed.pure (i := 14) (v := ?hv15) rfl (by kernel_rfl) (by kernel_rfl) (by kernel_rfl) (by omega) (by kernel_rfl) (by kernel_rfl) (fun _ _ _ h => h) (by assumption) (Or.inl ⟨by rfl, ?hy15⟩) ?hr15
          case hy15 => (intro w' _hSw; go_simp; try with_reducible rfl)
          (try simp only [Act.put, List.getElem_toArray, List.getElem_cons_zero, List.getElem_cons_succ, List.setIfInBounds_toArray, List.set_cons_zero, List.set_cons_succ])
          refine Tailed.pure (i := 15) (v := ?hv16) rfl (by kernel_rfl) (by kernel_rfl) (by kernel_rfl) (by omega) (by kernel_rfl) (by kernel_rfl) (fun _ _ _ h => h) (by assumption) (Or.inl ⟨by rfl, ?hy16⟩) ?hr16
          case hy16 => (intro w' _hSw; go_simp; try with_reducible rfl)
          (try simp only [Act.put, List.getElem_toArray, List.getElem_cons_zero, List.getElem_cons_succ, List.setIfInBounds_toArray, List.set_cons_zero, List.set_cons_succ])
          refine Tailed.pure (i := 16) (v := ?hv17) rfl (by kernel_rfl) (by kernel_rfl) (by kernel_rfl) (by omega) (by kernel_rfl) (by kernel_rfl) (fun _ _ _ h => h) (by assumption) (Or.inl ⟨by rfl, ?hy17⟩) ?hr17
          case hy17 => (intro w' _hSw; go_simp; try with_reducible rfl)
          (try simp only [Act.put, List.getElem_toArray, List.getElem_cons_zero, List.getElem_cons_succ, List.setIfInBounds_toArray, List.set_cons_zero, List.set_cons_succ])
          refine Tailed.take (i := 17) (v := ?hv18) rfl (by kernel_rfl) (by kernel_rfl) (by kernel_rfl) (by kernel_rfl) (by kernel_rfl) (by kernel_rfl) (fun _ _ _ h => h) (by assumption) (Or.inl ⟨by rfl, ?hy18⟩) ?hr18
          case hy18 => (intro w' hSw; (try dsimp only at hSw); go_simp; try with_reducible rfl)
          (try simp only [Act.put, List.getElem_toArray, List.getElem_cons_zero, List.getElem_cons_succ, List.setIfInBounds_toArray, List.set_cons_zero, List.set_cons_succ])
          refine Tailed.pure (i := 18) (v := ?hv19) rfl (by kernel_rfl) (by kernel_rfl) (by kernel_rfl) (by omega) (by kernel_rfl) (by kernel_rfl) (fun _ _ _ h => h) (by assumption) (Or.inl ⟨by rfl, ?hy19⟩) ?hr19
          case hy19 => (intro w' _hSw; go_simp; try with_reducible rfl)
          (try simp only [Act.put, List.getElem_toArray, List.getElem_cons_zero, List.getElem_cons_succ, List.setIfInBounds_toArray, List.set_cons_zero, List.set_cons_succ])
          refine Tailed.ways (rs := [19]) (by kernel_rfl) (by simp) ?_
          refine TailedAll.cons rfl (fun K hK => ?_) ?_
          · skip
            go_simp
            go_at_call 58
            refine (HBC.out _).mono ?_
            rintro e w' ⟨rfl, rfl⟩
            go_wp2_with fail
            refine hK.out _ _ ?_ (fun hHeld => ?_)
            · exact ⟨x0, cv, rq⟩
            clear hK K
            (try simp only [Act.put, List.getElem_toArray, List.getElem_cons_zero, List.getElem_cons_succ, List.setIfInBounds_toArray, List.set_cons_zero, List.set_cons_succ])
            refine Tailed.pure (i := 20) (v := ?hv20) rfl (by kernel_rfl) (by kernel_rfl) (by kernel_rfl) (by omega) (by kernel_rfl) (by kernel_rfl) (fun _ _ _ h => h) (by assumption) (Or.inl ⟨by rfl, ?hy20⟩) ?hr20
            case hy20 => (intro w' _hSw; go_simp; try with_reducible rfl)
            (try simp only [Act.put, List.getElem_toArray, List.getElem_cons_zero, List.getElem_cons_succ, List.setIfInBounds_toArray, List.set_cons_zero, List.set_cons_succ])
            refine Tailed.ways (rs := [21]) (by kernel_rfl) (by simp) ?_
            refine TailedAll.tail rfl (by kernel_rfl) (fun K hK => ?_) ?_
            · skip
              go_simp
              refine hK.out _ _ ?_
              clear hK K
              (try simp only [Act.put, List.getElem_toArray, List.getElem_cons_zero, List.getElem_cons_succ, List.setIfInBounds_toArray, List.set_cons_zero, List.set_cons_succ])
              refine Tailed.ways (rs := [22]) (by kernel_rfl) (by simp) ?_
              refine TailedAll.tail rfl (by kernel_rfl) (fun K hK => ?_) ?_
              · skip
                go_simp
                refine hK.out _ _ ?_
                clear hK K
                (try simp only [Act.put, List.getElem_toArray, List.getElem_cons_zero, List.getElem_cons_succ, List.setIfInBounds_toArray, List.set_cons_zero, List.set_cons_succ])
                refine Tailed.done (by kernel_rfl) ?_
                go_wp2_with fail
                go_roundw
                case rel => exact ⟨k + 1, by omega, by go_num, HB6.out.drew, HK6.out⟩
                case measure => simp [intOf]; omega
              exact TailedAll.nil
            exact TailedAll.nil
          exact TailedAll.nil
        · have e1 : k = i + 1 := by omega
          subst e1
          have hge : ¬ (((i + 1 : Nat) : Int) ≤ (i : Int)) := by omega
          have hVq := HVo.out.below hbq
          have hnb : gv ∉ bs := fun h => by have := (HVo.out.inn_ge gv h).2; have := Hgv.out; omega
          have hno : (Value.slice Ao i co).ownBlock ≠ some gv := fun h => by have := (HVo.out.out_ge gv h).2; have := Hgv.out; omega
          have hgl := hkq.lt
          have hrow := hkq.own (base := w.heap.size) (n := 3) (vecI_len cs i _) (by have := Hgv.out; omega) (by unfold maxLen; omega)
          have hsz := hbq.size
          have HVq := Lib.hid hVq
          have Hrow := Lib.hid (show wr.ownsRow w.heap.size 3 1 (rowV gv) 3 ((vecRow cs i).flatMap intVals) from hrow)
          have HBQ := Lib.hid (below_trans' HBo.out hbq)
          have HPQ := Lib.hid (own_below HP.out hbq)
          clear hVq hrow hkq hbq HP HVo HBo r0 hgb
          go_wp2_with (at_builtin; refine wpList_append_lies _ rfl (.tmp 48) (.tmp 50) 44 rfl w.heap.size 32 i0 _ 1 24 Try.underlying44 hi0 hz0 hz1 hz2 rfl (by omega) _ i (bs.map rowV) rfl (HVq.out.below (below_alloc (Below.refl _ _) _)).out _ 1 1 [rowV gv] rfl rfl (val_new' _ _ _ rfl) (rowV_one _) (by omega) (by unfold maxLen; omega) (by omega) (by simp; omega) _ rfl ?_; intro g1 cap1 wz hown1 hgrow1 hat1 hlt1)
          have hVz := (HVq.out.below (below_alloc (Below.refl _ _) _)).snoc (r := vecRow cs i) hown1 hgrow1 hat1 rfl rfl (Hrow.out.alloc _) hnb hno
          rw [← vecsTo_succ] at hVz
          have HVz := Lib.hid hVz
          have hPz : wz.ownsRow br 3 1 (.slice (some ⟨gb, goff, none⟩) n cr) n ((pastI cs n).flatMap intVals) := by
            refine (HPQ.out.alloc _).kept hgrow1 ?_
            cases hvr : Value.ownBlock (Value.slice (some ⟨gb, goff, none⟩) n cr) with
            | none => exact .inl rfl
            | some q => exact .inr fun e => HAp.out q hvr e.symm
          have hAz : ∀ q, Value.ownBlock (Value.slice (some ⟨gb, goff, none⟩) n cr) = some q → (Value.slice (some ⟨g1, 0, none⟩) (i + 1) cap1).ownBlock ≠ some q := by
            intro q hq h
            simp only [Value.ownBlock, Option.some.injEq] at h
            subst h
            rcases hat1 with e | e
            · exact HAp.out _ hq e
            · have h1 := (HPQ.out.lt _ hq).2
              simp at e
              omega
          have hBz : Below w.heap.size w wz := (below_alloc HBQ.out _).grown hgrow1 (by simp; omega) (fun q hq => (HVq.out.out_ge q hq).1)
          have HBz := Lib.hid hBz
          have HPz := Lib.hid hPz
          have HAz := Lib.hid hAz
          clear hVz hPz hAz hBz hown1 hgrow1 hat1
          go_roundw
          case rel => exact ⟨i + 1, _, _, _, by omega, by go_num, rfl, HVz.out, HBz.out, HPz.out, HAz.out⟩
          case measure => simp [intOf]; omega
    · have e1 : i = n := by omega
      subst e1
      have hge : ¬ ((i : Int) < (i : Int)) := by omega
      have hvl := vecsTo_len cs i
      have HVo := Lib.hid hV
      have HBo := Lib.hid hb
      clear hV hb HP HAp
      go_wp2_with fail
      go_ret
      unfold VecPost
      rw [E1.out, hvl]
      exact ⟨_, _, _, rfl, HVo.out, HBo.out⟩
end Go.Proofs.Ytcmecgnlhgjciaa
