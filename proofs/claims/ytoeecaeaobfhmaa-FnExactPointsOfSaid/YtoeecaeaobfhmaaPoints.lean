/-
  What PointsOf answers, of the program and of the reference, in memory of its own. No condition but lengths of at most 2 to the 20.
-/
import Derived.Test.YtoeecaeaobfhmaaOrd
import Derived.Test.YtoeecaeaobfhmaaHist
import Derived.Test.YtoeecaeaobfhmaaPow
import Derived.OwnWalk
namespace Go.Proofs.Ytoeecaeaobfhmaa
open Go.RowKit
set_option maxRecDepth 100000

theorem pts_info : (Try.prog.info? 3).map (fun i => (i.zero, i.size, i.bytes)) = some (some (.int .i64 0), 1, 8) := by kernel_rfl
def PtsPost (cs : List CallD) (L : List Int) (w w' : World) (e : Ending) : Prop := ∃ v, e = .returned (.tuple #[v, .bool (ptsOk cs L)]) ∧ OwnInts w' w.heap.size v (ptsL cs L) ∧ Below w.heap.size w w'
theorem pts_bad {cs : List CallD} {L : List Int} {w w' : World} (h : ptsOk cs L = false) (hb : Below w.heap.size w w') : PtsPost cs L w w' (.returned (.tuple #[.slice none 0 0, .bool false])) := by
  refine ⟨_, by rw [h], ?_, hb⟩
  unfold OwnInts
  rw [show ptsL cs L = [] by simp [ptsL, h]]
  exact World.ownsRow_nil _ _ _ _

set_option maxHeartbeats 2000000 in
theorem implPointsOf_calls (cs : List CallD) (L : List Int) (A : Option Addr) (n cap : Nat) (B : Option Addr) (m capB : Nat) (w : World) (hr : RowCalls w A cs) (hn : cs.length = n) (hl : n ≤ 1048576) (hcap : n ≤ cap) (hrB : RowInts w B L) (hm : L.length = m) (hlB : m ≤ 1048576) (hcapB : m ≤ capB) :
    Calls Try.prog 30 #[.slice A n cap, .slice B m capB] w fun e w' => PtsPost cs L w w' e := by
  have HR := Lib.hid hr
  have HRB := Lib.hid hrB
  have Hn := Lib.hid hn
  have Hm := Lib.hid hm
  have HW := Lib.hid (fun (b : Bool) (hb : histB cs = b) => hn ▸ implValid_calls cs A cap w hr (by omega) (by omega) b hb)
  have HO := Lib.hid (fun (W : World) (hW : RowInts W B L) (b : Bool) (hb : orderB n L = b) => isOrder_calls L n B m capB W hW hm hlB hcapB hl b hb)
  clear hr hrB
  cases hv : histB cs
  · have HB := Lib.hid (fun (w' : World) (hb : Below w.heap.size w w') => pts_bad (cs := cs) (L := L) (by simp [ptsOk, hv]) hb)
    have HV := Lib.hid hv
    clear hv hn hm
    go_enter Try.func30, Try.ntmps30
    go_wp2_with fail
    refine (HW.out _ HV.out).mono ?_
    rintro e w1 ⟨rfl, hb1⟩
    go_wp2_with fail
    go_ret2
    exact HB.out _ hb1
  cases ho : orderB n L
  · have HB := Lib.hid (fun (w' : World) (hb : Below w.heap.size w w') => pts_bad (cs := cs) (L := L) (by simp [ptsOk, hn, ho]) hb)
    have HV := Lib.hid hv
    have HOb := Lib.hid ho
    clear hv ho hn hm
    go_enter Try.func30, Try.ntmps30
    go_wp2_with fail
    refine (HW.out _ HV.out).mono ?_
    rintro e w1 ⟨rfl, hb1⟩
    have HB1 := Lib.hid hb1
    clear hb1
    go_wp2_with fail
    refine (HO.out _ (HRB.out.below HB1.out) _ HOb.out).mono ?_
    rintro e w2 ⟨rfl, rfl⟩
    go_wp2_with fail
    go_ret2
    exact HB.out _ HB1.out
  have hmn : m = n := by rw [← hm]; exact orderB_len ho
  have h6 := histB_len hv
  rw [hn] at h6
  have HV := Lib.hid hv
  have HOb := Lib.hid ho
  have HBadK := Lib.hid (fun (k : Nat) (hk : k < m) (e : pRow cs L k = false) (w' : World) (hb : Below w.heap.size w w') => pts_bad (cs := cs) (L := L) (by rw [ptsOk, hm, all_range_false hk e, Bool.and_false]) hb)
  have HGood := Lib.hid (fun (e : (List.range m).all (pRow cs L) = true) => (⟨by rw [ptsOk, hv, hn, ho, hm, e]; rfl, by rw [ptsL, ptsOk, hv, hn, ho, hm, e]; rfl⟩ : ptsOk cs L = true ∧ ptsL cs L = ptsK cs L m))
  have HT := Lib.hid (tAt_bd hv L)
  clear hv ho hn hm
  obtain ⟨i0, hi0, hz0, hz1, hz2⟩ := info_parts pts_info
  have hlen : (m : Int) ≤ 6 := by omega
  have HMN := Lib.hid hmn
  clear hmn
  go_enter Try.func30, Try.ntmps30
  go_wp2_with fail
  refine (HW.out _ HV.out).mono ?_
  rintro e w1 ⟨rfl, hb1⟩
  have HB1 := Lib.hid hb1
  clear hb1
  go_wp2_with fail
  refine (HO.out _ (HRB.out.below HB1.out) _ HOb.out).mono ?_
  rintro e w2 ⟨rfl, rfl⟩
  go_wp2_with fail
  have hown0 : (w1.alloc (.cells #[] 3)).ownsRow w.heap.size 3 1 (.slice (some ⟨w1.heap.size, 0, none⟩) 0 0) 0 ((ptsK cs L 0).flatMap intVals) := by
    have := World.ownsRow_made (base := w.heap.size) (e := 3) (size := 1) w1 #[] 0 HB1.out.size (by simp [maxLen]) rfl
    simpa [ptsK] using this
  have Hown0 := Lib.hid hown0
  clear hown0
  go_loopw [6, 7, 23] (fun v t i wr => ∃ k : Nat, k ≤ m ∧ i = .int .i64 k ∧ t = .int .i64 (tAt cs L k) ∧ wr.ownsRow w.heap.size 3 1 v k ((ptsK cs L k).flatMap intVals) ∧ Below w.heap.size w wr ∧ Hid ((List.range k).all (pRow cs L) = true)) (fun _ _ i _ => m - (intOf i).toNat)
  case atStart => exact ⟨0, by omega, rfl, rfl, Hown0.out, below_alloc HB1.out _, rfl⟩
  case round =>
    obtain ⟨k, hk, rfl, rfl, hown, hb, HG⟩ := hrel
    by_cases hlt : k < m
    · obtain ⟨x, hx⟩ : ∃ y, L[k]? = some y := ⟨L[k]'(by rw [Hm.out]; exact hlt), List.getElem?_eq_getElem _⟩
      obtain ⟨j, hxj, hjn⟩ := orderB_at HOb.out hx
      have hgd : L.getD k 0 = (j : Int) := by rw [List.getD, hx, ← hxj]; rfl
      subst hxj
      obtain ⟨c, hc⟩ : ∃ c, cs[j]? = some c := ⟨cs[j]'(by rw [Hn.out]; exact hjn), List.getElem?_eq_getElem _⟩
      have hcn : callN cs L k = c := by rw [callN, hgd, Int.toNat_natCast, hAt_eq hc]
      obtain ⟨b1, o1, rfl, hat1⟩ := HRB.out (by rw [Hm.out]; omega)
      obtain ⟨b0, off, rfl, hat⟩ := HR.out (by rw [Hn.out]; omega)
      have r0 := cell_below hb (RowInts.at_ hat1 hx)
      obtain ⟨x0, x1, x2, x3, x4, x5, x6⟩ := (RowCalls.at7 hat hc).below hb
      have htn : tAt cs L (k + 1) = if tAt cs L k < c.fr then c.fr else tAt cs L k := by rw [tAt, hcn]
      have hpr : pRow cs L k = decide (tAt cs L (k + 1) < c.till) := by rw [pRow, hcn]
      have hsu := ptsK_succ cs L k
      have ht0 := HT.out k
      have ht1 := HT.out (k + 1)
      have hlt5 := hown.lt
      obtain ⟨Ao, co, rfl, hoc, hom, _⟩ := own_form hown
      have HBadR := Lib.hid (fun (e : pRow cs L k = false) => HBadK.out k hlt e)
      have HOk := Lib.hid (fun (e : pRow cs L k = true) => show Hid ((List.range (k + 1)).all (pRow cs L) = true) by show _ = true; rw [all_range_succ, HG.out, e]; rfl)
      generalize tAt cs L k = t at *
      generalize hT' : tAt cs L (k + 1) = t' at *
      have HT' := Lib.hid hT'
      clear hT'
      have Htn := Lib.hid htn
      have Hpr := Lib.hid hpr
      have Hsu := Lib.hid hsu
      have Hown := Lib.hid hown
      have Hlt5 := Lib.hid hlt5
      have Hb := Lib.hid hb
      have hsz := hb.size
      clear hx hgd hc hcn hat1 hat htn hpr hsu hown hlt5 hb
      obtain ⟨ht00, ht03⟩ := ht0
      have hk0 : (0 : Int) ≤ (k : Int) := by omega
      have hkm : (k : Int) < (m : Int) := by omega
      have hj0 : (0 : Int) ≤ (j : Int) := by omega
      have hjn' : (j : Int) < (n : Int) := by omega
      by_cases hmax : t < c.fr
      all_goals
        have hte := Htn.out
        first
          | rw [if_pos hmax] at hte
          | rw [if_neg hmax] at hte
        by_cases hbad : t' < c.till
        · have Hq := HOk.out (by rw [Hpr.out, decide_eq_true hbad])
          have Hte := Lib.hid hte
          rw [hte] at hbad
          clear hte
          go_wp2_with (at_builtin; refine wpList_append_own _ rfl (.tmp 41) (.tmp 43) 24 rfl w.heap.size 3 i0 _ 1 8 Try.underlying24 hi0 hz0 (by assumption) hz2 rfl (by omega) _ k ((ptsK cs L k).flatMap intVals) rfl (Hown.out.alloc _) ⟨wr.heap.size, 0, none⟩ 1 1 [_] rfl rfl (int_new _ _ _) (int_one _) (by unfold maxLen; omega) (by omega) (by simp; omega) ?_; intro v1 wz hown1 hgrow _)
          go_roundw
          case rel =>
            refine ⟨k + 1, by omega, by go_num, by rw [HT'.out, Hte.out], ?_, ?_, Hq⟩
            · rw [Hsu.out, List.flatMap_append, Hte.out]
              simpa [intVals] using hown1
            · exact (below_alloc Hb.out _).grown hgrow (by simp; omega) (fun q hq => (Hlt5.out q hq).1)
          case measure => simp [intOf]; omega
        · have HX := Lib.hid (HBadR.out (by rw [Hpr.out]; exact decide_eq_false hbad))
          rw [hte] at hbad
          clear hte
          go_wp2
          go_ret2
          exact HX.out _ Hb.out
    · have hge : ¬ ((k : Int) < (m : Int)) := by omega
      have e1 : k = m := by omega
      subst e1
      obtain ⟨g1, g2⟩ := HGood.out HG.out
      have G1 := Lib.hid g1
      have G2 := Lib.hid g2
      have Hown := Lib.hid hown
      have Hb := Lib.hid hb
      clear hb hown g1 g2
      go_wp2
      go_ret2
      refine ⟨_, by rw [G1.out]; rfl, ?_, Hb.out⟩
      unfold OwnInts
      rw [G2.out, ptsK_len]
      exact Hown.out

set_option maxHeartbeats 2000000 in
theorem specPointsOf_calls (cs : List CallD) (L : List Int) (A : Option Addr) (n cap : Nat) (B : Option Addr) (m capB : Nat) (w : World) (hr : RowCalls w A cs) (hn : cs.length = n) (hl : n ≤ 1048576) (hrB : RowInts w B L) (hm : L.length = m) (hlB : m ≤ 1048576) (hcapB : m ≤ capB) :
    Calls Try.prog 28 #[.slice A n cap, .slice B m capB] w fun e w' => PtsPost cs L w w' e := by
  have HR := Lib.hid hr
  have HRB := Lib.hid hrB
  have Hn := Lib.hid hn
  have Hm := Lib.hid hm
  have HW := Lib.hid (fun (b : Bool) (hb : histB cs = b) => hn ▸ specValid_calls cs A cap w hr (by omega) b hb)
  have HO := Lib.hid (fun (W : World) (hW : RowInts W B L) (b : Bool) (hb : orderB n L = b) => validOrder_calls L n B m capB W hW hm hlB hcapB hl b hb)
  clear hr hrB
  cases hv : histB cs
  · have HB := Lib.hid (fun (w' : World) (hb : Below w.heap.size w w') => pts_bad (cs := cs) (L := L) (by simp [ptsOk, hv]) hb)
    have HV := Lib.hid hv
    clear hv hn hm
    go_enter Try.func28, Try.ntmps28
    go_wp2_with fail
    refine (HW.out _ HV.out).mono ?_
    rintro e w1 ⟨rfl, hb1⟩
    go_wp2_with fail
    go_ret2
    exact HB.out _ hb1
  cases ho : orderB n L
  · have HB := Lib.hid (fun (w' : World) (hb : Below w.heap.size w w') => pts_bad (cs := cs) (L := L) (by simp [ptsOk, hn, ho]) hb)
    have HV := Lib.hid hv
    have HOb := Lib.hid ho
    clear hv ho hn hm
    go_enter Try.func28, Try.ntmps28
    go_wp2_with fail
    refine (HW.out _ HV.out).mono ?_
    rintro e w1 ⟨rfl, hb1⟩
    have HB1 := Lib.hid hb1
    clear hb1
    go_wp2_with fail
    refine (HO.out _ (HRB.out.below HB1.out) _ HOb.out).mono ?_
    rintro e w2 ⟨rfl, hb2⟩
    go_wp2_with fail
    go_ret2
    exact HB.out _ (below_trans' HB1.out hb2)
  have hmn : m = n := by rw [← hm]; exact orderB_len ho
  have h6 := histB_len hv
  rw [hn] at h6
  have HV := Lib.hid hv
  have HOb := Lib.hid ho
  have HBadK := Lib.hid (fun (k : Nat) (hk : k < m) (e : pRow cs L k = false) (w' : World) (hb : Below w.heap.size w w') => pts_bad (cs := cs) (L := L) (by rw [ptsOk, hm, all_range_false hk e, Bool.and_false]) hb)
  have HGood := Lib.hid (fun (e : (List.range m).all (pRow cs L) = true) => (⟨by rw [ptsOk, hv, hn, ho, hm, e]; rfl, by rw [ptsL, ptsOk, hv, hn, ho, hm, e]; rfl⟩ : ptsOk cs L = true ∧ ptsL cs L = ptsK cs L m))
  have HT := Lib.hid (tAt_bd hv L)
  clear hv ho hn hm
  obtain ⟨i0, hi0, hz0, hz1, hz2⟩ := info_parts pts_info
  have hlen : (m : Int) ≤ 6 := by omega
  have HMN := Lib.hid hmn
  clear hmn
  go_enter Try.func28, Try.ntmps28
  go_wp2_with fail
  refine (HW.out _ HV.out).mono ?_
  rintro e w1 ⟨rfl, hb1⟩
  have HB1 := Lib.hid hb1
  clear hb1
  go_wp2_with fail
  refine (HO.out _ (HRB.out.below HB1.out) _ HOb.out).mono ?_
  rintro e w2 ⟨rfl, hb2⟩
  have HB2 := Lib.hid (below_trans' HB1.out hb2)
  clear hb2
  go_wp2_with fail
  have hown0 : (w2.alloc (.cells #[] 3)).ownsRow w.heap.size 3 1 (.slice (some ⟨w2.heap.size, 0, none⟩) 0 0) 0 ((ptsK cs L 0).flatMap intVals) := by
    have := World.ownsRow_made (base := w.heap.size) (e := 3) (size := 1) w2 #[] 0 HB2.out.size (by simp [maxLen]) rfl
    simpa [ptsK] using this
  have Hown0 := Lib.hid hown0
  clear hown0
  go_loopw [6, 7, 8] (fun v t i wr => ∃ k : Nat, k ≤ m ∧ i = .int .i64 k ∧ t = .int .i64 (tAt cs L k) ∧ wr.ownsRow w.heap.size 3 1 v k ((ptsK cs L k).flatMap intVals) ∧ Below w.heap.size w wr ∧ Hid ((List.range k).all (pRow cs L) = true)) (fun _ _ i _ => m - (intOf i).toNat)
  case atStart => exact ⟨0, by omega, rfl, rfl, Hown0.out, below_alloc HB2.out _, rfl⟩
  case round =>
    obtain ⟨k, hk, rfl, rfl, hown, hb, HG⟩ := hrel
    by_cases hlt : k < m
    · obtain ⟨x, hx⟩ : ∃ y, L[k]? = some y := ⟨L[k]'(by rw [Hm.out]; exact hlt), List.getElem?_eq_getElem _⟩
      obtain ⟨j, hxj, hjn⟩ := orderB_at HOb.out hx
      have hgd : L.getD k 0 = (j : Int) := by rw [List.getD, hx, ← hxj]; rfl
      subst hxj
      obtain ⟨c, hc⟩ : ∃ c, cs[j]? = some c := ⟨cs[j]'(by rw [Hn.out]; exact hjn), List.getElem?_eq_getElem _⟩
      have hcn : callN cs L k = c := by rw [callN, hgd, Int.toNat_natCast, hAt_eq hc]
      obtain ⟨b1, o1, rfl, hat1⟩ := HRB.out (by rw [Hm.out]; omega)
      obtain ⟨b0, off, rfl, hat⟩ := HR.out (by rw [Hn.out]; omega)
      have r0 := cell_below hb (RowInts.at_ hat1 hx)
      obtain ⟨x0, x1, x2, x3, x4, x5, x6⟩ := (RowCalls.at7 hat hc).below hb
      have htn : tAt cs L (k + 1) = if tAt cs L k < c.fr then c.fr else tAt cs L k := by rw [tAt, hcn]
      have hpr : pRow cs L k = decide (tAt cs L (k + 1) < c.till) := by rw [pRow, hcn]
      have hsu := ptsK_succ cs L k
      have ht0 := HT.out k
      have hlt5 := hown.lt
      obtain ⟨Ao, co, rfl, hoc, hom, _⟩ := own_form hown
      have HBadR := Lib.hid (fun (e : pRow cs L k = false) => HBadK.out k hlt e)
      have HOk := Lib.hid (fun (e : pRow cs L k = true) => show Hid ((List.range (k + 1)).all (pRow cs L) = true) by show _ = true; rw [all_range_succ, HG.out, e]; rfl)
      generalize tAt cs L k = t at *
      generalize hT' : tAt cs L (k + 1) = t' at *
      have HT' := Lib.hid hT'
      clear hT'
      have Htn := Lib.hid htn
      have Hpr := Lib.hid hpr
      have Hsu := Lib.hid hsu
      have Hown := Lib.hid hown
      have Hlt5 := Lib.hid hlt5
      have Hb := Lib.hid hb
      have hsz := hb.size
      clear hx hgd hc hcn hat1 hat htn hpr hsu hown hlt5 hb
      obtain ⟨ht00, ht03⟩ := ht0
      have hk0 : (0 : Int) ≤ (k : Int) := by omega
      have hkm : (k : Int) < (m : Int) := by omega
      have hj0 : (0 : Int) ≤ (j : Int) := by omega
      have hjn' : (j : Int) < (n : Int) := by omega
      by_cases hmax : t < c.fr
      all_goals
        have hte := Htn.out
        first
          | rw [if_pos hmax] at hte
          | rw [if_neg hmax] at hte
        by_cases hbad : t' < c.till
        · have Hq := HOk.out (by rw [Hpr.out, decide_eq_true hbad])
          have Hte := Lib.hid hte
          rw [hte] at hbad
          clear hte
          go_wp2_with (at_builtin; refine wpList_append_own _ rfl (.tmp 46) (.tmp 48) 24 rfl w.heap.size 3 i0 _ 1 8 Try.underlying24 hi0 hz0 (by assumption) hz2 rfl (by omega) _ k ((ptsK cs L k).flatMap intVals) rfl (Hown.out.alloc _) ⟨wr.heap.size, 0, none⟩ 1 1 [_] rfl rfl (int_new _ _ _) (int_one _) (by unfold maxLen; omega) (by omega) (by simp; omega) ?_; intro v1 wz hown1 hgrow _)
          go_roundw
          case rel =>
            refine ⟨k + 1, by omega, by go_num, by rw [HT'.out, Hte.out], ?_, ?_, Hq⟩
            · rw [Hsu.out, List.flatMap_append, Hte.out]
              simpa [intVals] using hown1
            · exact (below_alloc Hb.out _).grown hgrow (by simp; omega) (fun q hq => (Hlt5.out q hq).1)
          case measure => simp [intOf]; omega
        · have HX := Lib.hid (HBadR.out (by rw [Hpr.out]; exact decide_eq_false hbad))
          rw [hte] at hbad
          clear hte
          go_wp2
          go_ret2
          exact HX.out _ Hb.out
    · have hge : ¬ ((k : Int) < (m : Int)) := by omega
      have e1 : k = m := by omega
      subst e1
      obtain ⟨g1, g2⟩ := HGood.out HG.out
      have G1 := Lib.hid g1
      have G2 := Lib.hid g2
      have Hown := Lib.hid hown
      have Hb := Lib.hid hb
      clear hb hown g1 g2
      go_wp2
      go_ret2
      refine ⟨_, by rw [G1.out]; rfl, ?_, Hb.out⟩
      unfold OwnInts
      rw [G2.out, ptsK_len]
      exact Hown.out
end Go.Proofs.Ytoeecaeaobfhmaa
