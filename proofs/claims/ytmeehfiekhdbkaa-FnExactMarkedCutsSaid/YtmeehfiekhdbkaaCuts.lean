/-
  What CutsOf answers, of the program, in memory of its own. No condition but lengths of at most 2 to the 20.
-/
import Derived.Test.YtmeehfiekhdbkaaCut
import Derived.Test.YtmeehfiekhdbkaaAppD
namespace Go.Proofs.Ytmeehfiekhdbkaa
open Go.RowKit
set_option maxRecDepth 100000

def cutsTo (cs : List EventD) (n k : Nat) : List Int := ((List.range k).filter (cutB cs n)).map Int.ofNat
theorem cutsTo_len (cs : List EventD) (n k : Nat) : (cutsTo cs n k).length ≤ k := by
  rw [cutsTo, List.length_map]
  exact Nat.le_trans (List.length_filter_le _ _) (by simp)
theorem cutsTo_yes {cs : List EventD} {n k : Nat} (h : cutB cs n k = true) : cutsTo cs n (k + 1) = cutsTo cs n k ++ [(k : Int)] := by
  simp [cutsTo, List.range_succ, List.filter_append, h]
theorem cutsTo_no {cs : List EventD} {n k : Nat} (h : cutB cs n k = false) : cutsTo cs n (k + 1) = cutsTo cs n k := by
  simp [cutsTo, List.range_succ, List.filter_append, h]
def cutsOfL (cs : List EventD) : List Int := if evB cs then cutsTo cs cs.length (2 ^ cs.length) else []
theorem cutsOfL_len (cs : List EventD) : (cutsOfL cs).length ≤ 1048576 := by
  unfold cutsOfL
  split
  · next h =>
    have h7 := evB_len h
    have h1 := cutsTo_len cs cs.length (2 ^ cs.length)
    have h2 : 2 ^ cs.length ≤ 2 ^ 7 := Nat.pow_le_pow_right (by omega) h7
    omega
  · simp

set_option maxHeartbeats 2000000 in
theorem implCutsOf_calls (cs : List EventD) (A : Option Addr) (cap : Nat) (w : World) (hr : RowEvents w A cs) (hl : cs.length ≤ 1048576) (hcap : cs.length ≤ cap) :
    Calls Try.prog 31 #[.slice A cs.length cap] w fun e w' => ∃ v, e = .returned v ∧ OwnInts w' w.heap.size v (cutsOfL cs) ∧ Below w.heap.size w w' := by
  have HR := Lib.hid hr
  clear hr
  cases hv : evB cs
  · have E1 := Lib.hid (show cutsOfL cs = [] by simp [cutsOfL, hv])
    have HV := Lib.hid hv
    clear hv
    go_enter Try.func31, Try.ntmps31
    go_wp2_with (go_at_call 36; refine (implValidEvents_calls cs A cap _ (HR.out.below (by repeat (first | exact Below.refl _ _ | assumption | refine below_alloc ?_ _ | refine below_trans' ?_ (by assumption) | refine Below.drew ?_))) hl hcap false HV.out).mono ?_; rintro e w1 ⟨rfl, hb1⟩)
    go_ret
    refine ⟨_, rfl, ?_, (by repeat (first | exact Below.refl _ _ | assumption | refine below_alloc ?_ _ | refine below_trans' ?_ (by assumption) | refine Below.drew ?_))⟩
    unfold OwnInts
    rw [E1.out]
    exact own_below (World.ownsRow_made w #[] 0 (Nat.le_refl _) (by simp [maxLen]) rfl) hb1
  have E1 := Lib.hid (show cutsOfL cs = cutsTo cs cs.length (2 ^ cs.length) by simp [cutsOfL, hv])
  have HV := Lib.hid hv
  have h7 := evB_len hv
  clear hv
  obtain ⟨i0, hi0, hz0, hz1, hz2⟩ := info_parts ints_info
  go_enter Try.func31, Try.ntmps31
  go_wp2_with (go_at_call 36; refine (implValidEvents_calls cs A cap _ (HR.out.below (by repeat (first | exact Below.refl _ _ | assumption | refine below_alloc ?_ _ | refine below_trans' ?_ (by assumption) | refine Below.drew ?_))) hl hcap true HV.out).mono ?_; rintro e w1 ⟨rfl, hb1⟩)
  have hown1 : w1.ownsRow w.heap.size 3 1 (.slice (some ⟨w.heap.size, 0, none⟩) 0 0) 0 [] := own_below (World.ownsRow_made w #[] 0 (Nat.le_refl _) (by simp [maxLen]) rfl) hb1
  have hbw1 : Below w.heap.size w w1 := (by repeat (first | exact Below.refl _ _ | assumption | refine below_alloc ?_ _ | refine below_trans' ?_ (by assumption) | refine Below.drew ?_))
  have hz1 : w.heap.size < w1.heap.size := by have := hb1.size; simp at this; omega
  refine (implpast_calls cs A cap _ (HR.out.below hbw1) (by omega) hcap).mono ?_
  rintro e w2 ⟨vr, rfl, hor, hb2⟩
  have hown2 := own_below hown1 hb2
  have hbw2 : Below w.heap.size w w2 := below_trans' hbw1 hb2
  unfold OwnInts at hor
  rw [show (pastL cs).length = cs.length from pastI_len _ _] at hor
  have hapart : ∀ k, vr.ownBlock = some k → w.heap.size < k := fun k hk => by have := (hor.lt k hk).1; omega
  obtain ⟨Ar, cr, rfl, hrc, hrm, _⟩ := own_form hor
  unfold pastL at hor
  clear hown1 hb1 hb2 hbw1 hz1 HR HV
  generalize hn : cs.length = n at *
  generalize hbr : w1.heap.size = br at *
  have HO := Lib.hid hor
  have HB2 := Lib.hid hbw2
  have HA := Lib.hid hapart
  clear hor hbw2 hn hapart
  have hlen : (n : Int) ≤ 7 := by omega
  have hM : 2 ^ n ≤ 2 ^ 7 := Nat.pow_le_pow_right (by omega) (by omega)
  have hw0 : wrap64 (2 ^ n) = ((2 ^ n : Nat) : Int) := by
    rw [← two_cast]
    generalize (2 ^ n : Nat) = t at *
    exact IntWalk.wrap64_in _ ⟨by omega, by omega⟩
  obtain ⟨M, hMe⟩ : ∃ M, 2 ^ n = M := ⟨_, rfl⟩
  rw [hMe] at hM hw0 E1
  have HM := Lib.hid hMe
  clear hMe
  have hn64 : (n : Int) ≤ 64 := by omega
  go_wp2_with fail
  rw [hw0]
  clear hw0
  go_loopw [3, 17] (fun v i wr => ∃ k : Nat, k ≤ M ∧ i = .int .i64 k ∧ wr.ownsRow w.heap.size 3 1 v (cutsTo cs n k).length ((cutsTo cs n k).flatMap intVals) ∧ Below w.heap.size w wr ∧ Hid (wr.ownsRow br 3 1 (.slice Ar n cr) n ((pastI cs n).flatMap intVals)) ∧ Hid (∀ k, Value.ownBlock (.slice Ar n cr) = some k → v.ownBlock ≠ some k)) (fun _ i _ => M - (intOf i).toNat)
  case atStart => exact ⟨0, by omega, rfl, hown2, HB2.out, HO.out, fun k hk h => by have := HA.out k hk; simp [Value.ownBlock] at h; omega⟩
  case round =>
    obtain ⟨i, hi, rfl, hown, hb, HP, HAp⟩ := hrel
    obtain ⟨wo, rfl⟩ : ∃ wo : World, wo = wr := ⟨_, rfl⟩
    clear HO HB2 HA hown2
    by_cases hlt : i < M
    · have hrow : RowInts wo Ar (pastI cs n) := RowOf.of_own (pastI_len cs n).symm (fun _ _ => rfl) HP.out
      have Hrow := Lib.hid hrow
      have hll := cutsTo_len cs n i
      have hyes := @cutsTo_yes cs n i
      have hno := @cutsTo_no cs n i
      obtain ⟨L, hL⟩ : ∃ L, cutsTo cs n i = L := ⟨_, rfl⟩
      rw [hL] at hll hyes hno hown
      obtain ⟨l, hl'⟩ : ∃ l, L.length = l := ⟨_, rfl⟩
      rw [hl'] at hll hown
      have HL := Lib.hid hl'
      have Hyes := Lib.hid hyes
      have Hno := Lib.hid hno
      have Hb := Lib.hid hb
      have Hown := Lib.hid hown
      have hlt5 := hown.lt
      have Hlt5 := Lib.hid hlt5
      clear hrow hb hown hlt5 hyes hno hL hl'
      have hi0' : (0 : Int) ≤ (i : Int) := by omega
      have hin : (i : Int) < (M : Int) := by omega
      have his : i < 2 ^ n := by rw [HM.out]; exact hlt
      have Hs := Lib.hid his
      clear his
      cases hcb : cutB cs n i
      · have Hcb := Lib.hid hcb
        clear hcb
        go_wp2_with (go_at_call 48; refine (implisCut_calls cs n i Ar cr _ Hrow.out (by omega) Hs.out _ Hcb.out).mono ?_; rintro e w3 ⟨rfl, rfl⟩)
        first
          | exact ⟨⟨i + 1, by omega, by go_num, by rw [Hno.out Hcb.out, HL.out]; exact Hown.out, Hb.out, HP, HAp⟩, by simp [intOf]; omega⟩
          | (go_roundw
             case rel => exact ⟨i + 1, by omega, by go_num, by rw [Hno.out Hcb.out, HL.out]; exact Hown.out, Hb.out, HP, HAp⟩
             case measure => simp [intOf]; omega)
      · have Hcb := Lib.hid hcb
        clear hcb
        have hown := Hown.out
        have hszb := Hb.out.size
        go_wp2_with (first
          | (go_at_call 48; refine (implisCut_calls cs n i Ar cr _ Hrow.out (by omega) Hs.out _ Hcb.out).mono ?_; rintro e w3 ⟨rfl, rfl⟩)
          | (at_builtin; refine wpList_append_apart _ rfl (.tmp 23) (.tmp 25) 24 rfl w.heap.size 3 i0 _ 1 8 Try.underlying24 hi0 hz0 (by assumption) hz2 rfl (by omega) _ l (L.flatMap intVals) rfl (hown.alloc _) ⟨wo.heap.size, 0, none⟩ 1 1 [_] rfl (by omega) rfl (int_new _ _ _) (int_one _) (by unfold maxLen; omega) (by omega) (by simp; omega) ?_; intro v1 wz hown1 hgrow hblk))
        go_roundw
        case rel =>
          refine ⟨i + 1, by omega, by go_num, ?_, ?_, ?_, ?_⟩
          · rw [Hyes.out Hcb.out, List.flatMap_append, List.length_append, HL.out]
            simpa [intVals] using hown1
          · exact (below_alloc Hb.out _).grown hgrow (by simp; omega) (fun q hq => (Hlt5.out q hq).1)
          · refine (HP.out.alloc _).kept hgrow ?_
            cases hvr : Value.ownBlock (Value.slice Ar n cr) with
            | none => exact .inl rfl
            | some k => exact .inr fun e => HAp.out k hvr e.symm
          · intro k hk h
            rcases hblk with e | e
            · exact HAp.out k hk (e.symm.trans h)
            · have h1 := (HP.out.lt k hk).2
              rw [e] at h
              simp at h
              omega
        case measure => simp [intOf]; omega
    · have hge : ¬ ((i : Int) < (M : Int)) := by omega
      have e1 : i = M := by omega
      subst e1
      go_wp2
      go_ret
      refine ⟨_, rfl, ?_, hb⟩
      unfold OwnInts
      rw [E1.out]
      exact hown
end Go.Proofs.Ytmeehfiekhdbkaa
