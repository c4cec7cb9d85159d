/-
  The marked cuts, of the reference, in memory of its own: the same list. No condition but lengths of at most 2 to the 20.
-/
import Derived.Test.YtmeehfiekhdbkaaMkC
namespace Go.Proofs.Ytmeehfiekhdbkaa
open Go.RowKit
set_option maxRecDepth 100000

theorem filt_yes {p : Int → Bool} {P : List Int} {k : Nat} {x : Int} (hx : P[k]? = some x) (hp : p x = true) : (P.take (k + 1)).filter p = (P.take k).filter p ++ [x] := by
  rw [take_next hx, List.filter_append]; simp [hp]
theorem filt_no {p : Int → Bool} {P : List Int} {k : Nat} {x : Int} (hx : P[k]? = some x) (hp : p x = false) : (P.take (k + 1)).filter p = (P.take k).filter p := by
  rw [take_next hx, List.filter_append]; simp [hp]

set_option maxHeartbeats 4000000 in
theorem specMarkedCuts_calls (cs : List EventD) (A : Option Addr) (cap : Nat) (x : Int) (w : World) (hr : RowEvents w A cs) (hl : cs.length ≤ 1048576) :
    Calls Try.prog 8 #[.slice A cs.length cap, .int .i64 x] w fun e w' => ∃ v, e = .returned v ∧ OwnInts w' w.heap.size v (markedL cs x) ∧ Below w.heap.size w w' := by
  obtain ⟨i0, hi0, hz0, hz1, hz2⟩ := info_parts ints_info
  have HR := Lib.hid hr
  clear hr
  cases hv : evB cs
  · have E1 := Lib.hid (show markedL cs x = [] by simp [markedL, hv])
    have HV := Lib.hid hv
    clear hv
    go_enter Try.func8, Try.ntmps8
    go_wp2_with (go_at_call 23; refine (specValid_calls cs A cap _ HR.out hl false HV.out).mono ?_; rintro e w1 ⟨rfl, hb1⟩)
    go_ret
    exact ⟨_, rfl, by unfold OwnInts; rw [E1.out]; exact World.ownsRow_nil _ _ _ _, hb1⟩
  have HV := Lib.hid hv
  have h7 := evB_len hv
  have hM : 2 ^ cs.length ≤ 2 ^ 7 := Nat.pow_le_pow_right (by omega) (by omega)
  have hM1 : 1 ≤ 2 ^ cs.length := Nat.two_pow_pos _
  have hpw : pw cs.length = ((2 ^ cs.length : Nat) : Int) := by rw [pw_eq _ (by omega), two_cast]
  have HPW := Lib.hid (fun (W : World) => hpw ▸ power_calls cs.length W (by omega))
  cases hin : inB x 0 (((2 ^ cs.length : Nat) : Int) - 1)
  · have E1 := Lib.hid (show markedL cs x = [] by rw [markedL, hv, ← two_cast, hin]; rfl)
    have HWI := Lib.hid (fun (W : World) => hin ▸ inRange_calls x 0 (((2 ^ cs.length : Nat) : Int) - 1) W)
    clear hv hpw hin
    generalize 2 ^ cs.length = M at *
    have hMi : (M : Int) ≤ 128 := by omega
    have hMj : (1 : Int) ≤ (M : Int) := by omega
    go_enter Try.func8, Try.ntmps8
    go_wp2_with (first
      | (go_at_call 23; refine (specValid_calls cs A cap _ HR.out hl true HV.out).mono ?_; rintro e w1 ⟨rfl, hb1⟩)
      | (go_at_call 25; with_reducible refine (HPW.out _).mono ?_; rintro e w' ⟨rfl, rfl⟩)
      | (go_at_call 24; with_reducible refine (HWI.out _).mono ?_; rintro e w' ⟨rfl, rfl⟩))
    go_ret
    exact ⟨_, rfl, by unfold OwnInts; rw [E1.out]; exact World.ownsRow_nil _ _ _ _, hb1⟩
  have HWI := Lib.hid (fun (W : World) => hin ▸ inRange_calls x 0 (((2 ^ cs.length : Nat) : Int) - 1) W)
  have E1 := Lib.hid (show markedL cs x = (cutsTo cs cs.length (2 ^ cs.length)).filter (mkP cs x.toNat) by rw [markedL, hv, ← two_cast, hin]; rfl)
  rw [two_cast] at hin
  obtain ⟨m, rfl, hs⟩ := inB_two hin
  rw [Int.toNat_natCast] at E1
  have HC := Lib.hid (show ∀ (W : World) (S : Nat), S < 2 ^ cs.length → RowEvents W A cs → Calls Try.prog 27 #[.slice A cs.length cap, .int .i64 m, .int .i64 S] W fun e w' => e = .returned (.bool (mkP cs m S)) ∧ W = w' from
    fun W S hS hW => by
      rw [mkP, Int.toNat_natCast]
      exact marked_calls cs S m A cap W hW (by omega) (by omega) (by omega) _ rfl)
  have HPM := Lib.hid (show ∀ y, y ∈ cutsTo cs cs.length (2 ^ cs.length) → ∃ S : Nat, y = S ∧ S < 2 ^ cs.length from fun y hy => by
    obtain ⟨S, h1, _, h2⟩ := cutsTo_mem.1 hy
    exact ⟨S, h2, h1⟩)
  have HCU := Lib.hid (fun (W : World) (hW : RowEvents W A cs) => speccuts_calls cs A cap W hW h7)
  have hll := cutsTo_len cs cs.length (2 ^ cs.length)
  clear hv hpw hin hs
  generalize cutsTo cs cs.length (2 ^ cs.length) = P at *
  generalize mkP cs m = p at *
  generalize 2 ^ cs.length = M at *
  have hMi : (M : Int) ≤ 128 := by omega
  have hMj : (1 : Int) ≤ (M : Int) := by omega
  go_enter Try.func8, Try.ntmps8
  go_wp2_with (first
    | (go_at_call 23; refine (specValid_calls cs A cap _ HR.out hl true HV.out).mono ?_; rintro e w1 ⟨rfl, hb1⟩)
    | (go_at_call 25; with_reducible refine (HPW.out _).mono ?_; rintro e w' ⟨rfl, rfl⟩)
    | (go_at_call 24; with_reducible refine (HWI.out _).mono ?_; rintro e w' ⟨rfl, rfl⟩))
  have hown1 : (w1.alloc (.cells #[] 3)).ownsRow w1.heap.size 3 1 (.slice (some ⟨w1.heap.size, 0, none⟩) 0 0) 0 [] := World.ownsRow_made w1 #[] 0 (Nat.le_refl _) (by simp [maxLen]) rfl
  have hbw2 : Below w.heap.size w (w1.alloc (.cells #[] 3)) := below_alloc hb1 _
  have hz2 : w1.heap.size < (w1.alloc (.cells #[] 3)).heap.size := by simp
  generalize w1.alloc (.cells #[] 3) = w2 at *
  refine (HCU.out _ (HR.out.below hbw2)).mono ?_
  rintro e w3 ⟨v, rfl, ho, hb3⟩
  unfold OwnInts at ho
  obtain ⟨Ar, cr, rfl, hrc, hrm, hrl⟩ := own_form ho
  have hown3 := own_below hown1 hb3
  have hbw3 := below_trans' hbw2 hb3
  have hapart : ∀ k, Value.ownBlock (.slice Ar P.length cr) = some k → w1.heap.size < k := fun k hk => by have := (ho.lt k hk).1; omega
  have hw1 := hb1.size
  clear hown1 hb3 hrl HCU HPW HWI HV
  generalize hbr : w2.heap.size = br at *
  generalize hbb : w1.heap.size = bb at *
  generalize hnn : P.length = n at *
  have HN := Lib.hid hnn
  have HO := Lib.hid ho
  have HB3 := Lib.hid hbw3
  have HA := Lib.hid hapart
  have HW1 := Lib.hid hw1
  have HO3 := Lib.hid hown3
  have HZ2 := Lib.hid hz2
  clear ho hbw3 hapart hbw2 hb1 hbr hbb hnn hw1 hown3 hz2
  have hlen : (n : Int) ≤ 128 := by omega
  go_wp2_with fail
  go_loopw [5, 7] (fun v i wr => ∃ k : Nat, k ≤ n ∧ i = .int .i64 k ∧ wr.ownsRow bb 3 1 v ((P.take k).filter p).length (((P.take k).filter p).flatMap intVals) ∧ Below w.heap.size w wr ∧ Hid (wr.ownsRow br 3 1 (.slice Ar n cr) n (P.flatMap intVals)) ∧ Hid (∀ k, Value.ownBlock (.slice Ar n cr) = some k → v.ownBlock ≠ some k)) (fun _ i _ => n - (intOf i).toNat)
  case atStart => exact ⟨0, by omega, rfl, HO3.out, HB3.out, HO.out, fun k hk h => by have := HA.out k hk; simp [Value.ownBlock] at h; omega⟩
  case round =>
    obtain ⟨i, hi, rfl, hown, hb, HP, HAp⟩ := hrel
    obtain ⟨wo, rfl⟩ : ∃ wo : World, wo = wr := ⟨_, rfl⟩
    clear HO HB3 HA HO3
    by_cases hlt : i < n
    · have hrow : RowInts wo Ar P := RowOf.of_own HN.out.symm (fun _ _ => rfl) HP.out
      obtain ⟨b0, off, rfl, hat⟩ := hrow (by have := HN.out; omega)
      obtain ⟨y, hy⟩ : ∃ y, P[i]? = some y := ⟨P[i]'(by have := HN.out; omega), List.getElem?_eq_getElem _⟩
      obtain ⟨S, rfl, hS⟩ := HPM.out y (List.mem_of_getElem? hy)
      have c0 := RowInts.at_ hat hy
      have hbz : b0 < wo.heap.size := World.block_lt_of_cell? _ _ c0
      have hbbw : bb ≤ wo.heap.size := by have h1 := (HP.out.lt b0 rfl).1; have h2 := HZ2.out; omega
      have Hy := Lib.hid hy
      have HCL := Lib.hid (HC.out wo S hS (HR.out.below hb))
      obtain ⟨L, hL⟩ : ∃ L, (P.take i).filter p = L := ⟨_, rfl⟩
      have hLl : L.length ≤ i := by rw [← hL]; exact Nat.le_trans (List.length_filter_le _ _) (by simp; omega)
      rw [hL] at hown
      have HLL := Lib.hid hL
      obtain ⟨l, hl'⟩ : ∃ l, L.length = l := ⟨_, rfl⟩
      rw [hl'] at hown hLl
      have HL := Lib.hid hl'
      have Hb := Lib.hid hb
      have Hown := Lib.hid hown
      have hlt5 := hown.lt
      have Hlt5 := Lib.hid hlt5
      have hszb := hb.size
      clear hrow hat hy hb hown hlt5 hL hl'
      have hi0' : (0 : Int) ≤ (i : Int) := by omega
      have hin : (i : Int) < (n : Int) := by omega
      cases hp : p S
      · have Hp := Lib.hid hp
        rw [hp] at HCL
        clear hp
        go_wp2_with (go_at_call 27; with_reducible refine (HCL.out).mono ?_; rintro e w4 ⟨rfl, rfl⟩)
        go_roundw
        case rel => exact ⟨i + 1, by omega, by go_num, by rw [filt_no Hy.out Hp.out, HLL.out, HL.out]; exact Hown.out, Hb.out, HP, HAp⟩
        case measure => simp [intOf]; omega
      · have Hp := Lib.hid hp
        rw [hp] at HCL
        clear hp
        have hown := Hown.out
        have hw1' := HW1.out
        go_wp2_with (first
          | (go_at_call 27; with_reducible refine (HCL.out).mono ?_; rintro e w4 ⟨rfl, rfl⟩)
          | (at_builtin; refine wpList_append_apart _ rfl (.tmp 36) (.tmp 41) 24 rfl bb 3 i0 _ 1 8 Try.underlying24 hi0 hz0 (by assumption) hz2 rfl (by omega) _ l (L.flatMap intVals) rfl (hown.alloc _) ⟨wo.heap.size, 0, none⟩ 1 1 [_] rfl (by omega) rfl (int_new _ _ _) (int_one _) (by unfold maxLen; omega) (by omega) (by simp; omega) ?_; intro v1 wz hown1 hgrow hblk))
        go_roundw
        case rel =>
          refine ⟨i + 1, by omega, by go_num, ?_, ?_, ?_, ?_⟩
          · rw [filt_yes Hy.out Hp.out, HLL.out, List.flatMap_append, List.length_append, HL.out]
            simpa [intVals] using hown1
          · exact (below_alloc Hb.out _).grown hgrow (by simp; omega) (fun q hq => by have h1 := (Hlt5.out q hq).1; have h2 := HW1.out; omega)
          · refine (HP.out.alloc _).kept hgrow ?_
            cases hvr : Value.ownBlock (Value.slice (some ⟨b0, off, none⟩) n cr) with
            | none => exact .inl rfl
            | some k => exact .inr fun e => HAp.out k hvr e.symm
          · intro k hk h
            rcases hblk with e | e
            · exact HAp.out k hk (e.symm.trans h)
            · have h1 := (HP.out.lt k hk).2
              rw [e] at h
              simp at h
              omega
        case measure => simp [intOf]; omega
    · have hge : ¬ ((i : Int) < (n : Int)) := by omega
      have e1 : i = n := by omega
      have HE := Lib.hid (show (P.take i).filter p = P.filter p by rw [List.take_of_length_le (by rw [HN.out]; omega)])
      subst e1
      have HW2 := HW1.out
      go_wp2
      go_ret
      refine ⟨_, rfl, ?_, hb⟩
      unfold OwnInts
      rw [E1.out, ← HE.out]
      exact own_base hown HW2
end Go.Proofs.Ytmeehfiekhdbkaa
