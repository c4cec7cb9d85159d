/-
  What SourcesOf answers, of the program and of the reference, in memory of its own. No condition but lengths of at most 2 to the 20.
-/
import Derived.Test.YtoeecaeaobfhmaaSrc
import Derived.Test.YtoeecaeaobfhmaaWriter
import Derived.Test.YtoeecaeaobfhmaaIntS
import Derived.Test.YtoeecaeaobfhmaaPow
namespace Go.Proofs.Ytoeecaeaobfhmaa
open Go.RowKit
set_option maxRecDepth 100000

theorem ints_info : (Try.prog.info? 3).map (fun i => (i.zero, i.size, i.bytes)) = some (some (.int .i64 0), 1, 8) := by kernel_rfl
theorem looksL_len (cs : List CallD) : (looksL cs).length ≤ 1048576 := by
  unfold looksL
  split
  · next h => have h1 := lookI_len cs cs.length; have := writerB_len h; omega
  · simp
theorem lookI_yes {cs : List CallD} {k : Nat} {c : CallD} (hc : hAt cs k = c) (h : (c.kind == 2) = true) : lookI cs (k + 1) = lookI cs k ++ [srcB cs c] := by rw [lookI, hc, if_pos h]
theorem lookI_no {cs : List CallD} {k : Nat} {c : CallD} (hc : hAt cs k = c) (h : (c.kind == 2) = false) : lookI cs (k + 1) = lookI cs k := by rw [lookI, hc, if_neg (by rw [h]; simp)]

set_option maxHeartbeats 2000000 in
theorem implSourcesOf_calls (cs : List CallD) (A : Option Addr) (cap : Nat) (w : World) (hr : RowCalls w A cs) (hl : cs.length ≤ 1048576) (hcap : cs.length ≤ cap) :
    Calls Try.prog 36 #[.slice A cs.length cap] w fun e w' => ∃ v, e = .returned v ∧ OwnInts w' w.heap.size v (looksL cs) ∧ Below w.heap.size w w' := by
  have HR := Lib.hid hr
  clear hr
  cases hv : writerB cs
  · have E1 := Lib.hid (show looksL cs = [] by simp [looksL, hv])
    have HV := Lib.hid hv
    clear hv
    go_enter Try.func36, Try.ntmps36
    go_wp2_with (go_at_call 32; refine (implIsOneWriter_calls cs A cap _ (HR.out.below (by repeat (first | exact Below.refl _ _ | assumption | refine below_alloc ?_ _ | refine below_trans' ?_ (by assumption) | refine Below.drew ?_))) hl hcap false HV.out).mono ?_; rintro e w1 ⟨rfl, hb1⟩)
    go_ret
    refine ⟨_, rfl, ?_, (by repeat (first | exact Below.refl _ _ | assumption | refine below_alloc ?_ _ | refine below_trans' ?_ (by assumption) | refine Below.drew ?_))⟩
    unfold OwnInts
    rw [E1.out]
    exact own_below (World.ownsRow_made w #[] 0 (Nat.le_refl _) (by simp [maxLen]) rfl) hb1
  have E1 := Lib.hid (show looksL cs = lookI cs cs.length by simp [looksL, hv])
  have HV := Lib.hid hv
  have h6 := writerB_len hv
  clear hv
  obtain ⟨i0, hi0, hz0, hz1, hz2⟩ := info_parts ints_info
  go_enter Try.func36, Try.ntmps36
  go_wp2_with (go_at_call 32; refine (implIsOneWriter_calls cs A cap _ (HR.out.below (by repeat (first | exact Below.refl _ _ | assumption | refine below_alloc ?_ _ | refine below_trans' ?_ (by assumption) | refine Below.drew ?_))) hl hcap true HV.out).mono ?_; rintro e w1 ⟨rfl, hb1⟩)
  have hown1 : w1.ownsRow w.heap.size 3 1 (.slice (some ⟨w.heap.size, 0, none⟩) 0 0) (lookI cs 0).length ((lookI cs 0).flatMap intVals) := own_below (World.ownsRow_made w #[] 0 (Nat.le_refl _) (by simp [maxLen]) rfl) hb1
  have hbw1 : Below w.heap.size w w1 := (by repeat (first | exact Below.refl _ _ | assumption | refine below_alloc ?_ _ | refine below_trans' ?_ (by assumption) | refine Below.drew ?_))
  have Hown1 := Lib.hid hown1
  have Hbw1 := Lib.hid hbw1
  clear hown1 hbw1 hb1
  generalize hn : cs.length = n at *
  have Hn := Lib.hid hn
  clear hn
  have hlen : (n : Int) ≤ 6 := by omega
  go_loopw [3, 13] (fun v i wr => ∃ k : Nat, k ≤ n ∧ i = .int .i64 k ∧ wr.ownsRow w.heap.size 3 1 v (lookI cs k).length ((lookI cs k).flatMap intVals) ∧ Below w.heap.size w wr) (fun _ i _ => n - (intOf i).toNat)
  case atStart => exact ⟨0, by omega, rfl, Hown1.out, Hbw1.out⟩
  case round =>
    obtain ⟨i, hi, rfl, hown, hb⟩ := hrel
    by_cases hlt : i < n
    · obtain ⟨b0, off, rfl, hat⟩ := HR.out (by have := Hn.out; omega)
      obtain ⟨c, hc⟩ : ∃ c, cs[i]? = some c := ⟨cs[i]'(by have := Hn.out; omega), List.getElem?_eq_getElem _⟩
      obtain ⟨x0, x1, x2, x3, x4, x5, x6⟩ := (RowCalls.at7 hat hc).below hb
      obtain ⟨v, hv⟩ : ∃ v, srcB cs c = v := ⟨_, rfl⟩
      have Hv := Lib.hid hv
      have Hrow := Lib.hid (HR.out.below hb)
      have HS := Lib.hid (fun (W : World) (hW : RowCalls W (some ⟨b0, off, none⟩) cs) => sourceOf_calls cs c (some ⟨b0, off, none⟩) n cap W hW Hn.out hl v Hv.out)
      have Hc := Lib.hid (hAt_eq hc)
      have hll := lookI_len cs i
      have hlt5 := hown.lt
      obtain ⟨Ao, co, rfl, hoc, hom, hob⟩ := own_form hown
      have Hb := Lib.hid hb
      have Hown := Lib.hid hown
      have Hlt5 := Lib.hid hlt5
      obtain ⟨l, hl2⟩ : ∃ l, (lookI cs i).length = l := ⟨_, rfl⟩
      rw [hl2] at Hown Hlt5 hoc hll ⊢
      have Hl2 := Lib.hid hl2
      clear hv hat hc hb hown hlt5 HR hl2 hob
      have hi0' : (0 : Int) ≤ (i : Int) := by omega
      have hin : (i : Int) < (n : Int) := by omega
      have hl6 : (l : Int) ≤ 6 := by omega
      cases hk : (c.kind == 2)
      · have Hk := Lib.hid (lookI_no Hc.out hk)
        go_wp2
        go_roundw
        case rel => exact ⟨i + 1, by omega, by go_num, by rw [Hk.out, Hl2.out]; exact Hown.out.alloc _, below_alloc Hb.out _⟩
        case measure => simp [intOf]; omega
      · have Hk := Lib.hid (lookI_yes Hc.out hk)
        go_wp2_with fail
        clear hk
        refine (HS.out _ (Hrow.out.below (below_alloc (Below.refl _ _) _))).mono ?_
        rintro e w2 ⟨rfl, hb2⟩
        have hown2 := own_below (Hown.out.alloc _) hb2
        have hbw2 : Below w.heap.size w w2 := below_trans' (below_alloc Hb.out _) hb2
        have hsz := hbw2.size
        have Hown2 := Lib.hid hown2
        have Hbw2 := Lib.hid hbw2
        clear hb2 hown2 hbw2 x0 x1 x2 x3 x4 x5 x6
        go_wp2_with (at_builtin; refine wpList_append_own _ rfl (.tmp 20) (.tmp 24) 24 rfl w.heap.size 3 i0 _ 1 8 Try.underlying24 hi0 hz0 (by assumption) hz2 rfl (by omega) _ l ((lookI cs i).flatMap intVals) rfl (Hown2.out.alloc _) ⟨w2.heap.size, 0, none⟩ 1 1 [_] rfl rfl (int_new _ _ _) (int_one _) (by unfold maxLen; omega) (by omega) (by simp; omega) ?_; intro v1 wz hown1 hgrow _)
        go_roundw
        case rel =>
          refine ⟨i + 1, by omega, by go_num, ?_, ?_⟩
          · rw [Hk.out, List.flatMap_append, List.length_append, Hl2.out, Hv.out]
            simpa [intVals] using hown1
          · exact (below_alloc Hbw2.out _).grown hgrow (by simp; omega) (fun q hq => (Hlt5.out q hq).1)
        case measure => simp [intOf]; omega
    · have hge : ¬ ((i : Int) < (n : Int)) := by omega
      have e1 : i = n := by omega
      subst e1
      go_wp2
      go_ret
      refine ⟨_, rfl, ?_, hb⟩
      unfold OwnInts
      rw [E1.out]
      exact hown

set_option maxHeartbeats 2000000 in
theorem specSourcesOf_calls (cs : List CallD) (A : Option Addr) (cap : Nat) (w : World) (hr : RowCalls w A cs) (hl : cs.length ≤ 1048576) :
    Calls Try.prog 35 #[.slice A cs.length cap] w fun e w' => ∃ v, e = .returned v ∧ OwnInts w' w.heap.size v (looksL cs) ∧ Below w.heap.size w w' := by
  have HR := Lib.hid hr
  clear hr
  cases hv : writerB cs
  · have E1 := Lib.hid (show looksL cs = [] by simp [looksL, hv])
    have HV := Lib.hid hv
    clear hv
    go_enter Try.func35, Try.ntmps35
    go_wp2_with (go_at_call 58; refine (specWriter_calls cs A cap _ HR.out hl false HV.out).mono ?_; rintro e w1 ⟨rfl, hb1⟩)
    go_ret
    exact ⟨_, rfl, by unfold OwnInts; rw [E1.out]; exact World.ownsRow_nil _ _ _ _, hb1⟩
  have E1 := Lib.hid (show looksL cs = lookI cs cs.length by simp [looksL, hv])
  have HV := Lib.hid hv
  have h6 := writerB_len hv
  clear hv
  obtain ⟨i0, hi0, hz0, hz1, hz2⟩ := info_parts ints_info
  go_enter Try.func35, Try.ntmps35
  go_wp2_with (go_at_call 58; refine (specWriter_calls cs A cap _ HR.out hl true HV.out).mono ?_; rintro e w1 ⟨rfl, hb1⟩)
  have hown1 : (w1.alloc (.cells #[] 3)).ownsRow w.heap.size 3 1 (.slice (some ⟨w1.heap.size, 0, none⟩) 0 0) (lookI cs 0).length ((lookI cs 0).flatMap intVals) := World.ownsRow_made w1 #[] 0 hb1.size (by simp [maxLen]) rfl
  have hbw1 : Below w.heap.size w (w1.alloc (.cells #[] 3)) := (by repeat (first | exact Below.refl _ _ | assumption | refine below_alloc ?_ _ | refine below_trans' ?_ (by assumption) | refine Below.drew ?_))
  have Hown1 := Lib.hid hown1
  have Hbw1 := Lib.hid hbw1
  clear hown1 hbw1 hb1
  generalize hn : cs.length = n at *
  have Hn := Lib.hid hn
  clear hn
  have hlen : (n : Int) ≤ 6 := by omega
  go_loopw [3, 4] (fun v i wr => ∃ k : Nat, k ≤ n ∧ i = .int .i64 k ∧ wr.ownsRow w.heap.size 3 1 v (lookI cs k).length ((lookI cs k).flatMap intVals) ∧ Below w.heap.size w wr) (fun _ i _ => n - (intOf i).toNat)
  case atStart => exact ⟨0, by omega, rfl, Hown1.out, Hbw1.out⟩
  case round =>
    obtain ⟨i, hi, rfl, hown, hb⟩ := hrel
    by_cases hlt : i < n
    · obtain ⟨b0, off, rfl, hat⟩ := HR.out (by have := Hn.out; omega)
      obtain ⟨c, hc⟩ : ∃ c, cs[i]? = some c := ⟨cs[i]'(by have := Hn.out; omega), List.getElem?_eq_getElem _⟩
      obtain ⟨x0, x1, x2, x3, x4, x5, x6⟩ := (RowCalls.at7 hat hc).below hb
      obtain ⟨v, hv⟩ : ∃ v, srcB cs c = v := ⟨_, rfl⟩
      have Hv := Lib.hid hv
      have Hrow := Lib.hid (HR.out.below hb)
      have HS := Lib.hid (fun (W : World) (hW : RowCalls W (some ⟨b0, off, none⟩) cs) => source_calls cs i c hc (some ⟨b0, off, none⟩) n cap W hW Hn.out hl v Hv.out)
      have Hc := Lib.hid (hAt_eq hc)
      have hll := lookI_len cs i
      have hlt5 := hown.lt
      obtain ⟨Ao, co, rfl, hoc, hom, hob⟩ := own_form hown
      have Hb := Lib.hid hb
      have Hown := Lib.hid hown
      have Hlt5 := Lib.hid hlt5
      obtain ⟨l, hl2⟩ : ∃ l, (lookI cs i).length = l := ⟨_, rfl⟩
      rw [hl2] at Hown Hlt5 hoc hll ⊢
      have Hl2 := Lib.hid hl2
      clear hv hat hc hb hown hlt5 HR hl2 hob
      have hi0' : (0 : Int) ≤ (i : Int) := by omega
      have hin : (i : Int) < (n : Int) := by omega
      have hl6 : (l : Int) ≤ 6 := by omega
      cases hk : (c.kind == 2)
      · have Hk := Lib.hid (lookI_no Hc.out hk)
        go_wp2
        go_roundw
        case rel => exact ⟨i + 1, by omega, by go_num, by rw [Hk.out, Hl2.out]; exact Hown.out, Hb.out⟩
        case measure => simp [intOf]; omega
      · have Hk := Lib.hid (lookI_yes Hc.out hk)
        go_wp2_with fail
        clear hk
        refine (HS.out _ Hrow.out).mono ?_
        rintro e w2 ⟨rfl, hb2⟩
        have hown2 := own_below Hown.out hb2
        have hbw2 : Below w.heap.size w w2 := below_trans' Hb.out hb2
        have hsz := hbw2.size
        have Hown2 := Lib.hid hown2
        have Hbw2 := Lib.hid hbw2
        clear hb2 hown2 hbw2 x0 x1 x2 x3 x4 x5 x6
        go_wp2_with (at_builtin; refine wpList_append_own _ rfl (.tmp 21) (.tmp 25) 24 rfl w.heap.size 3 i0 _ 1 8 Try.underlying24 hi0 hz0 (by assumption) hz2 rfl (by omega) _ l ((lookI cs i).flatMap intVals) rfl (Hown2.out.alloc _) ⟨w2.heap.size, 0, none⟩ 1 1 [_] rfl rfl (int_new _ _ _) (int_one _) (by unfold maxLen; omega) (by omega) (by simp; omega) ?_; intro v1 wz hown1 hgrow _)
        go_roundw
        case rel =>
          refine ⟨i + 1, by omega, by go_num, ?_, ?_⟩
          · rw [Hk.out, List.flatMap_append, List.length_append, Hl2.out, Hv.out]
            simpa [intVals] using hown1
          · exact (below_alloc Hbw2.out _).grown hgrow (by simp; omega) (fun q hq => (Hlt5.out q hq).1)
        case measure => simp [intOf]; omega
    · have hge : ¬ ((i : Int) < (n : Int)) := by omega
      have e1 : i = n := by omega
      subst e1
      go_wp2
      go_ret
      refine ⟨_, rfl, ?_, hb⟩
      unfold OwnInts
      rw [E1.out]
      exact hown
end Go.Proofs.Ytoeecaeaobfhmaa
