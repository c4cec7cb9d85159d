/-
  The causes of each write, as the reference answers them in memory of its own. Asked: valid accesses.
-/
import Derived.Test.YtooigcfdkmgjnaaAccC
import Derived.Test.YtooigcfdkmgjnaaCauP
import Derived.Test.YtooigcfdkmgjnaaBitA
import Derived.Test.YtooigcfdkmgjnaaIntS
namespace Go.Proofs.Ytooigcfdkmgjnaa
open Go.RowKit
set_option maxRecDepth 100000

set_option maxHeartbeats 2000000 in
theorem speccauses_calls (cs : List AccessD) (A : Option Addr) (cap : Nat) (w : World) (hr : RowAccesss w A cs) (hv : accB cs = true) :
    Calls Try.prog 45 #[.slice A cs.length cap] w fun e w' => ∃ v, e = .returned v ∧ OwnInts w' w.heap.size v (cauI cs cs.length) ∧ Below w.heap.size w w' := by
  obtain ⟨i0, hi0, hz0, hz1, hz2⟩ := info_parts ints_info
  have hl := accB_len hv
  have HR := Lib.hid hr
  have HMI := Lib.hid (fun (i : Nat) (c : AccessD) (hc : cs[i]? = some c) (W : World) (hW : RowAccesss W A cs) => mine_calls cs i c A cap W hW (by omega) hc)
  have HSE := Lib.hid (fun (i : Nat) (c : AccessD) (hc : cs[i]? = some c) (W : World) (hW : RowAccesss W A cs) => seen_calls cs i c A cap W hW hv hc)
  have HV := Lib.hid hv
  have HLN := Lib.hid (fun (i : Nat) (h : i ≤ cs.length) => cauI_len (cs := cs) h)
  have HGT := Lib.hid (fun (i k : Nat) (h : i ≤ cs.length) (hk : k < wrN cs i) => cauI_get (cs := cs) h hk)
  have HLT := Lib.hid (cauN_lt cs)
  have HNE := Lib.hid (fun (i : Nat) (h : i ≤ cs.length) => nearN_lt hv h)
  have HML := Lib.hid (fun (i : Nat) (s : Int) (h : i ≤ cs.length) => mineK_lt cs s i h)
  have HSL := Lib.hid (fun (i : Nat) (s : Int) (h : i ≤ cs.length) => seenK_lt hv s i h)
  clear hr hv
  generalize hn : cs.length = n at *
  have Hn := Lib.hid hn
  clear hn
  have hlen : (n : Int) ≤ 10 := by omega
  go_enter Try.func45, Try.ntmps45
  go_wp2
  go_loopw [3, 4] (fun v i wr => ∃ k : Nat, k ≤ n ∧ i = .int .i64 k ∧ wr.ownsRow w.heap.size 3 1 v (wrN cs k) ((cauI cs k).flatMap intVals) ∧ Below w.heap.size w wr) (fun _ i _ => n - (intOf i).toNat)
  case atStart => exact ⟨0, by omega, rfl, World.ownsRow_made w #[] 0 (Nat.le_refl _) (by simp [maxLen]) rfl, below_alloc (Below.refl _ _) _⟩
  case round =>
    obtain ⟨i, hi, rfl, hown, hb⟩ := hrel
    obtain ⟨wo, rfl⟩ : ∃ wo : World, wo = wr := ⟨_, rfl⟩
    by_cases hlt : i < n
    · obtain ⟨b0, off, rfl, hat⟩ := HR.out (by have := Hn.out; omega)
      obtain ⟨c, hc⟩ : ∃ c, cs[i]? = some c := ⟨cs[i]'(by have := Hn.out; omega), List.getElem?_eq_getElem _⟩
      obtain ⟨x0, x1, x2⟩ := (RowAccesss.at_ hat hc).below hb
      obtain ⟨Ao, co, rfl, hoc, hom, hob⟩ := own_form hown
      have hwl := HV.out
      have hw10 := wrN_ten HV.out i
      have hws := wrN_succ hc
      have hrow : RowInts wo Ao (cauI cs i) := RowOf.of_own (HLN.out i (by omega)).symm (fun _ _ => rfl) hown
      have Hrow := Lib.hid hrow
      have hra := HR.out.below hb
      have Hra := Lib.hid hra
      have Hc := Lib.hid hc
      have Hb := Lib.hid hb
      have Hown := Lib.hid hown
      have hlt5 := hown.lt
      have Hlt5 := Lib.hid hlt5
      have Hws := Lib.hid hws
      clear hat hc hb hown hlt5 hrow hra hob hwl hws
      have hi0' : (0 : Int) ≤ (i : Int) := by omega
      have hin : (i : Int) < (n : Int) := by omega
      cases hwr : c.write
      · have Hwr := Lib.hid hwr
        go_wp2
        first
          | exact ⟨⟨i + 1, by omega, by go_num, by rw [Hws.out, cauI_read Hc.out Hwr.out, hwr]; exact Hown.out, Hb.out⟩, by simp [intOf]; omega⟩
          | (go_roundw
             case rel => exact ⟨i + 1, by omega, by go_num, by rw [Hws.out, cauI_read Hc.out Hwr.out, hwr]; exact Hown.out, Hb.out⟩
             case measure => simp [intOf]; omega)
      · have Hwr := Lib.hid hwr
        have hsucc := cauI_write Hc.out hwr
        have hwsu : wrN cs (i + 1) = wrN cs i + 1 := by rw [Hws.out, hwr]; rfl
        have hne := nearN_eq Hc.out
        have hnl := HNE.out i (by omega)
        have hml := HML.out i c.session (by omega)
        have hsl := HSL.out i c.session (by omega)
        have hp : 2 ^ wrN cs i ≤ 2 ^ 10 := Nat.pow_le_pow_right (by omega) hw10
        have hor := i64_or_nat (mineK cs c.session i) (seenK cs c.session i) (by omega) (by omega)
        rw [← hne] at hor
        have hpw : pw (wrN cs i) = ((2 ^ wrN cs i : Nat) : Int) := by rw [pw_eq _ (by omega), two_cast]
        have HPW := Lib.hid (fun (W : World) => power_calls (wrN cs i) W (by omega))
        rw [hpw] at HPW
        have HMC := Lib.hid (HMI.out i c Hc.out)
        have HSC := Lib.hid (HSE.out i c Hc.out)
        have hGT := HGT.out i
        have hLT := HLT.out i (by have := Hn.out; omega)
        have hLN := HLN.out i (by omega)
        have hst : cauK (nearN cs i) (cauN cs i) (2 ^ wrN cs i) 0 = 2 ^ wrN cs i := rfl
        have hKL := cauK_lt (nearN cs i) (cauN cs i) (2 ^ wrN cs i) (wrN cs i + 1) (Nat.pow_lt_pow_right (by omega) (by omega)) (fun j => Nat.lt_trans (hLT j) (Nat.pow_lt_pow_right (by omega) (by omega)))
        have hp2 : 2 ^ (wrN cs i + 1) ≤ 2 ^ 11 := Nat.pow_le_pow_right (by omega) (by omega)
        generalize nearN cs i = near at *
        generalize mineK cs c.session i = mm at *
        generalize seenK cs c.session i = ss at *
        generalize wrN cs i = l at *
        generalize 2 ^ l = st at *
        have Hsucc := Lib.hid hsucc
        have Hwsu := Lib.hid hwsu
        have HGt := Lib.hid hGT
        have HLt := Lib.hid hLT
        have HLn := Lib.hid hLN
        have HKl := Lib.hid hKL
        have Hst := Lib.hid hst
        clear hsucc hwsu hGT hLT hLN hKL hst hne hpw x2 x0 Hws
        have hl0 : (0 : Int) ≤ (l : Int) := by omega
        have hl10 : (l : Int) ≤ 10 := by omega
        go_wp2_with (first
          | (go_at_call 58; refine (HPW.out _).mono ?_; rintro e w' ⟨rfl, rfl⟩)
          | (go_at_call 46; refine (HMC.out _ Hra.out).mono ?_; rintro e w1 ⟨rfl, hb1⟩)
          | (go_at_call 47; refine (HSC.out _ (Hra.out.below hb1)).mono ?_; rintro e w2 ⟨rfl, hb2⟩))
        have hbo2 : Below wo.heap.size wo w2 := below_trans' hb1 hb2
        have Hbo2 := Lib.hid hbo2
        clear hbo2 hb1 hb2
        go_loopw [5, 7] (fun m j wq => ∃ k : Nat, k ≤ l ∧ j = .int .i64 k ∧ m = .int .i64 (cauK near (cauN cs i) st k) ∧ Below wo.heap.size wo wq) (fun _ j _ => l - (intOf j).toNat)
        case atStart => exact ⟨0, by omega, rfl, rfl, Hbo2.out⟩
        case round =>
          obtain ⟨j, hj, rfl, rfl, hb3⟩ := hrel
          by_cases hjlt : j < l
          · obtain ⟨gb, goff, rfl, hgat⟩ := Hrow.out (by rw [HLn.out]; omega)
            have r0 := cell_below hb3 (RowInts.at_ hgat (HGt.out j (by omega) hjlt))
            have hgb : gb < wr.heap.size := World.block_lt_of_cell? _ _ r0
            have hks : cauK near (cauN cs i) st (j + 1) = if bitN near j = 1 then cauK near (cauN cs i) st j ||| (cauN cs i).getD j 0 else cauK near (cauN cs i) st j := rfl
            have hk1 := HKl.out j
            have hk2 := HLt.out j
            have hor2 := i64_or_nat (cauK near (cauN cs i) st j) ((cauN cs i).getD j 0) (by omega) (by omega)
            have HBC := Lib.hid (fun (W : World) => bit_calls near j (by omega) (by omega) W)
            have hbl := bitN_le near j
            generalize cauK near (cauN cs i) st j = s at *
            generalize (cauN cs i).getD j 0 = t at *
            generalize bitN near j = bb at *
            have Hks := Lib.hid hks
            have Hb3 := Lib.hid hb3
            clear hgat hks hk1 hk2 hb3
            have hj0 : (0 : Int) ≤ (j : Int) := by omega
            have hjl : (j : Int) < (l : Int) := by omega
            have hbb : bb = 0 ∨ bb = 1 := by omega
            rcases hbb with rfl | rfl
            all_goals
              go_wp2_with (go_at_call 48; refine (HBC.out _).mono ?_; rintro e w' ⟨rfl, rfl⟩)
              first
                | exact ⟨⟨j + 1, by omega, by go_num, by rw [Hks.out]; simp, Hb3.out⟩, by simp [intOf]; omega⟩
                | (go_roundw
                   case rel => exact ⟨j + 1, by omega, by go_num, by rw [Hks.out]; simp, Hb3.out⟩
                   case measure => simp [intOf]; omega)
          · have hge : ¬ ((j : Int) < (l : Int)) := by omega
            have e1 : j = l := by omega
            subst e1
            have hown := own_below Hown.out hb3
            have hsb := hb3.size
            have hszb := Hb.out.size
            generalize cauK near (cauN cs i) st j = s at *
            have Hb3 := Lib.hid hb3
            clear hb3
            go_wp2_with (at_builtin; refine wpList_append_own _ rfl (.tmp 47) (.tmp 49) 32 rfl w.heap.size 3 i0 _ 1 8 Try.underlying32 hi0 hz0 (by assumption) hz2 rfl (by omega) _ j ((cauI cs i).flatMap intVals) rfl (hown.alloc _) ⟨wr.heap.size, 0, none⟩ 1 1 [_] rfl rfl (int_new _ _ _) (int_one _) (by unfold maxLen; omega) (by omega) (by simp; omega) ?_; intro v1 wz hown1 hgrow _)
            go_roundw
            case rel =>
              refine ⟨i + 1, by omega, by go_num, ?_, ?_⟩
              · rw [Hsucc.out, Hwsu.out, List.flatMap_append]
                simpa [intVals] using hown1
              · exact (below_alloc (below_trans' Hb.out Hb3.out) _).grown hgrow (by simp; omega) (fun q hq => (Hlt5.out q hq).1)
            case measure => simp [intOf]; omega
    · have hge : ¬ ((i : Int) < (n : Int)) := by omega
      have e1 : i = n := by omega
      subst e1
      have hLN := HLN.out i (Nat.le_refl _)
      go_wp2
      go_ret
      refine ⟨_, rfl, ?_, hb⟩
      unfold OwnInts
      rw [hLN]
      exact hown
end Go.Proofs.Ytooigcfdkmgjnaa
