/-
  The ways that the program counts, set by set, over sets that are cuts and that a question lets by. Asked: at most seven events; the question answers without touching memory that was there.
-/
import Derived.Test.YtmeehfiekhdbkaaWayQ
import Derived.Test.YtmeehfiekhdbkaaCut
import Derived.Test.YtmeehfiekhdbkaaIntB
namespace Go.Proofs.Ytmeehfiekhdbkaa
open Go.RowKit
set_option maxRecDepth 100000

/-- The table while the set S is worked on: those ahead of it are done, it has x. -/
def tabW (op : Nat → Bool) (n M S x : Nat) : List Int := (wayL op n S).map Int.ofNat ++ (x : Int) :: List.replicate (M - S - 1) 0
def rowT (op : Nat → Bool) (n M S : Nat) : List Int := (wayL op n S).map Int.ofNat ++ List.replicate (M - S) 0
theorem rowT_zero (op : Nat → Bool) (n M : Nat) : rowT op n M 0 = List.replicate M 0 := by simp [rowT, wayL]
theorem rowT_len {op : Nat → Bool} {n M S : Nat} (h : S ≤ M) : (rowT op n M S).length = M := by simp [rowT, wayL_len]; omega
theorem rowT_tab {op : Nat → Bool} {n M S : Nat} (h : S < M) : rowT op n M S = tabW op n M S 0 := by
  rw [rowT, tabW, show M - S = (M - S - 1) + 1 by omega, List.replicate_succ]; rfl
theorem tabW_get {op : Nat → Bool} {n M S x : Nat} : (tabW op n M S x)[S]? = some (x : Int) := by
  rw [tabW, List.getElem?_append_right (by simp [wayL_len])]; simp [wayL_len]
theorem tabW_low {op : Nat → Bool} {n M S x j : Nat} (h : j < S) : (tabW op n M S x)[j]? = some (((wayL op n S).getD j 0 : Nat) : Int) := by
  rw [tabW, List.getElem?_append_left (by simp [wayL_len]; exact h), List.getElem?_map, wayL_get op n h, List.getD, wayL_get op n h]; rfl
theorem tabW_set {op : Nat → Bool} {n M S x y : Nat} : (tabW op n M S x).set S (y : Int) = tabW op n M S y := by
  rw [tabW, List.set_append_right _ _ (by simp [wayL_len])]; simp [wayL_len, tabW]
theorem tabW_next {op : Nat → Bool} {n M S x : Nat} (_h : S < M) (hx : entry op n (wayL op n S) S = x) : tabW op n M S x = rowT op n M (S + 1) := by
  rw [tabW, rowT, wayL, hx, show M - (S + 1) = M - S - 1 by omega]; simp
theorem rowT_last {op : Nat → Bool} {n M : Nat} (h : 0 < M) : (rowT op n M M)[M - 1]? = some ((way op n (M - 1) : Nat) : Int) := by
  rw [rowT, List.getElem?_append_left (by simp [wayL_len]; omega), List.getElem?_map, wayL_get op n (by omega)]; rfl
theorem two_wrap {k : Nat} (hk : k ≤ 20) : wrap64 ((2 : Int) ^ k) = ((2 ^ k : Nat) : Int) := by
  have hp : 2 ^ k ≤ 2 ^ 20 := Nat.pow_le_pow_right (by omega) hk
  rw [← two_cast]
  generalize (2 ^ k : Nat) = t at *
  exact IntWalk.wrap64_in _ ⟨by omega, by omega⟩
theorem andNot_bit {S k : Nat} (hS : S < 1048576) (hk : k ≤ 20) (h : bitN S k = 1) : bits .andNot .i64 (S : Int) (wrap64 ((2 : Int) ^ k)) = ((S - 2 ^ k : Nat) : Int) := by
  have hp : 2 ^ k ≤ 2 ^ 20 := Nat.pow_le_pow_right (by omega) hk
  have hb := (bitN_test S k).1 h
  rw [two_wrap hk, i64_andNot_nat _ _ (by omega) (by omega)]
  congr 1
  apply Nat.eq_of_testBit_eq
  intro j
  rw [sub_bit S k hb, Nat.testBit_xor, Nat.testBit_and, Nat.testBit_two_pow]
  by_cases e : k = j
  · subst e; simp [hb]
  · have e' : (j != k) = true := by simpa using fun h => e h.symm
    simp [e, e']

theorem opW_eq (cs : List EventD) (f : Nat → Bool) (S : Nat) : opW cs f S = (cutB cs cs.length S && f S) := by rw [opW]
def WayPost (cs : List EventD) (f : Nat → Bool) (w w' : World) (e : Ending) : Prop := e = .returned (.int .i64 (way (opW cs f) cs.length (2 ^ cs.length - 1) : Nat)) ∧ Below w.heap.size w w'

theorem way_post {cs : List EventD} {f : Nat → Bool} {w w' : World} {x : Int} (hx : x = (way (opW cs f) cs.length (2 ^ cs.length - 1) : Nat)) (hb : Below w.heap.size w w') : WayPost cs f w w' (.returned (.int .i64 x)) := ⟨by rw [hx], hb⟩
set_option maxHeartbeats 4000000 in
theorem implways_calls (F : FuncId) (capt : Array Value) (cs : List EventD) (f : Nat → Bool) (A : Option Addr) (cap : Nat) (w : World) (hr : RowEvents w A cs) (hl : cs.length ≤ 7) (hcap : cs.length ≤ cap)
    (hcf : ∀ (v : Value) (W : World), (callFunc F (#[v] ++ capt)).run Try.prog W = .ok (.enter F (#[v] ++ capt)) W)
    (hw : ∀ (W : World) (S : Nat), Below w.heap.size w W → S < 2 ^ cs.length → Calls Try.prog F (#[.int .i64 S] ++ capt) W fun e w' => e = .returned (.bool (f S)) ∧ Below W.heap.size W w') :
    Calls Try.prog 37 #[.slice A cs.length cap, .func (.func F) #[] capt] w fun e w' => WayPost cs f w w' e := by
  obtain ⟨i0, hi0, hz0, hz1, hz2⟩ := info_parts ints_info
  have HR := Lib.hid hr
  have HW := Lib.hid hw
  clear hr hw
  go_enter Try.func37, Try.ntmps37
  go_wp2_with fail
  refine (implpast_calls cs A cap _ HR.out (by omega) hcap).mono ?_
  rintro e w1 ⟨vr, rfl, hor, hb1⟩
  unfold OwnInts at hor
  rw [show (pastL cs).length = cs.length from pastI_len _ _] at hor
  obtain ⟨Ar, cr, rfl, hrc, hrm, _⟩ := own_form hor
  unfold pastL at hor
  have hr1 : RowInts w1 Ar (pastI cs cs.length) := RowOf.of_own (pastI_len cs cs.length).symm (fun _ _ => rfl) hor
  have HW1 := Lib.hid (fun (W : World) (S : Nat) (hW : Below w1.heap.size w1 W) (hS : S < 2 ^ cs.length) => HW.out W S (below_trans' hb1 hW) hS)
  have HPost := Lib.hid (fun (W : World) (hW : Below w1.heap.size w1 W) (x : Int) (hx : x = (way (opW cs f) cs.length (2 ^ cs.length - 1) : Nat)) => way_post hx (below_trans' hb1 hW))
  have HOP := Lib.hid (opW_eq cs f)
  have HSM := Lib.hid (fun (S j : Nat) => preK_small (opW cs f) hl S j)
  have HWS := Lib.hid (fun (S : Nat) => way_small (opW cs f) hl S)
  have HR1 := Lib.hid hr1
  clear hr1 hor hb1 HR HW
  generalize opW cs f = op at *
  generalize hn : cs.length = n at *
  have hlen : (n : Int) ≤ 7 := by omega
  have hM : 2 ^ n ≤ 2 ^ 7 := Nat.pow_le_pow_right (by omega) (by omega)
  have hM1 : 1 ≤ 2 ^ n := Nat.two_pow_pos n
  have hw0 : wrap64 (2 ^ n) = ((2 ^ n : Nat) : Int) := two_wrap (by omega)
  obtain ⟨M, hMe⟩ : ∃ M, 2 ^ n = M := ⟨_, rfl⟩
  rw [hMe] at hM hM1 hw0 HPost HW1
  have HM := Lib.hid hMe
  have Hn := Lib.hid hn
  clear hMe hn
  have hn64 : (n : Int) ≤ 64 := by omega
  go_wp2_with (at_make; (try rw [hw0]); refine wpList_make_full _ rfl _ _ 24 rfl w1.heap.size 3 i0 _ 1 Try.underlying24 hi0 hz0 hz1 _ _ _ _ M rfl rfl rfl rfl (by rw [hz2]; omega) (by unfold maxLen; omega) (Nat.le_refl _) ?_; intro w2 hown hgrow)
  have hb2 : Below w1.heap.size w1 w2 := (Below.refl _ _).grown hgrow (Nat.le_refl _) (by simp)
  have hk2 : IntBlk w2 w1.heap.size (rowT op n M 0) := by rw [rowT_zero]; exact IntBlk.made hown
  clear hown hgrow hw0
  go_loopw [18] (fun i wr => ∃ k : Nat, k ≤ M ∧ i = .int .i64 k ∧ Below w1.heap.size w1 wr ∧ IntBlk wr w1.heap.size (rowT op n M k)) (fun i _ => M - (intOf i).toNat)
  case atStart => exact ⟨0, by omega, rfl, hb2, hk2⟩
  case round =>
    clear hb2 hk2
    obtain ⟨S, hS, rfl, hb, hk⟩ := hrel
    obtain ⟨wo, rfl⟩ : ∃ wo : World, wo = wr := ⟨_, rfl⟩
    by_cases hlt : S < M
    · have HNX := Lib.hid (fun (x : Nat) (h : entry op n (wayL op n S) S = x) => tabW_next (op := op) (n := n) hlt h)
      have hk' : IntBlk wo w1.heap.size (tabW op n M S 0) := by rw [← rowT_tab hlt]; exact hk
      have HPK := Lib.hid (fun (j : Nat) => preK_small op (show n ≤ 7 by omega) S j)
      have HRW := Lib.hid (HR1.out.below hb)
      have Hb := Lib.hid hb
      have Hk := Lib.hid hk'
      have HSn := Lib.hid (show S < 2 ^ n by rw [HM.out]; exact hlt)
      have hop := HOP.out S
      clear hb hk hk'
      have hS0 : (0 : Int) ≤ (S : Int) := by omega
      have hSM : (S : Int) < (M : Int) := by omega
      cases hcb : cutB cs n S
      · have HCB := Lib.hid hcb
        have HOF := Lib.hid (show op S = false by rw [hop, hcb]; rfl)
        clear hcb hop
        go_wp2_with (go_at_call 48; refine (implisCut_calls cs n S Ar cr _ HRW.out (by omega) HSn.out _ HCB.out).mono ?_; rintro e w3 ⟨rfl, rfl⟩)
        go_roundw
        case rel => exact ⟨S + 1, by omega, by go_num, Hb.out, by rw [← HNX.out 0 (by rw [entry, HOF.out]; rfl)]; exact Hk.out⟩
        case measure => simp [intOf]; omega
      · have HCB := Lib.hid hcb
        rw [hcb, Bool.true_and] at hop
        have HC := HW1.out wo S Hb.out hlt
        have HCL := Lib.hid HC
        clear hcb HC
        cases hfs : f S
        · have HOF := Lib.hid (show op S = false by rw [hop, hfs])
          rw [hfs] at HCL
          clear hop
          go_wp2_with (first
            | (go_at_call 48; refine (implisCut_calls cs n S Ar cr _ HRW.out (by omega) HSn.out _ HCB.out).mono ?_; rintro e w3 ⟨rfl, rfl⟩)
            | ((with_reducible refine (HCL.out).mono ?_); rintro e w3 ⟨rfl, hb3⟩))
          go_roundw
          case rel => exact ⟨S + 1, by omega, by go_num, below_trans' Hb.out hb3, by rw [← HNX.out 0 (by rw [entry, HOF.out]; rfl)]; exact Hk.out.below hb3⟩
          case measure => simp [intOf]; omega
        · have HOT := Lib.hid (show op S = true by rw [hop, hfs])
          rw [hfs] at HCL
          clear hop
          by_cases hs0 : S = 0
          · have H0 := Lib.hid hs0
            have HS1 := Lib.hid (show preK (wayL op n S) S 0 = 1 by rw [preK, if_pos hs0])
            have hs0b : ((S : Int) == 0) = true := by simp; omega
            have hf0 := fun (W : World) (h : IntBlk W w1.heap.size (tabW op n M S 0)) => h.free (i := S)
            have HF0 := Lib.hid hf0
            clear hf0 hs0
            go_wp2_with (first
              | (go_at_call 48; refine (implisCut_calls cs n S Ar cr _ HRW.out (by omega) HSn.out _ HCB.out).mono ?_; rintro e w3 ⟨rfl, rfl⟩)
              | ((with_reducible refine (HCL.out).mono ?_); rintro e w3 ⟨rfl, hb3⟩; have hcS := (Hk.out.below hb3).cell (tabW_get); have hfS := HF0.out w3 (Hk.out.below hb3)))
            have hk5 : IntBlk (w3.setCell ⟨w1.heap.size, S, none⟩ (.int .i64 1)) w1.heap.size (tabW op n M S (preK (wayL op n S) S 0)) := by
              have := (Hk.out.below hb3).set_ (i := S) (1 : Nat)
              rw [tabW_set] at this
              rw [HS1.out]
              exact this
            have hb5 : Below w1.heap.size w1 (w3.setCell ⟨w1.heap.size, S, none⟩ (.int .i64 1)) := (below_trans' Hb.out hb3).setCell (Nat.le_refl _) _
            go_loopw [38] (fun i wq => ∃ k : Nat, k ≤ n ∧ i = .int .i64 k ∧ Below w1.heap.size w1 wq ∧ IntBlk wq w1.heap.size (tabW op n M S (preK (wayL op n S) S k))) (fun i _ => n - (intOf i).toNat)
            case atStart => exact ⟨0, by omega, rfl, hb5, hk5⟩
            case round =>
              clear hb5 hk5 hb3
              obtain ⟨k, hk, rfl, hbq, hkq⟩ := hrel
              by_cases hkl : k < n
              · have hst : preK (wayL op n S) S (k + 1) = if S.testBit k = true then preK (wayL op n S) S k + (wayL op n S).getD (S - 2 ^ k) 0 else preK (wayL op n S) S k := by rw [preK]
                have hbit := bit_and (r := S) (by omega) k
                have hbl := bitN_le S k
                have hbt := bitN_test S k
                have hsm := HPK.out k
                have Hbq := Lib.hid hbq
                have Hkq := Lib.hid hkq
                have hk0 : (0 : Int) ≤ (k : Int) := by omega
                have hkn : (k : Int) < (n : Int) := by omega
                have hk64 : (k : Int) ≤ 64 := by omega
                clear hbq hkq
                have hbb : bitN S k = 0 ∨ bitN S k = 1 := by omega
                rcases hbb with hbb | hbb
                · rw [hbb] at hbit hbt
                  have Hst := Lib.hid (show preK (wayL op n S) S (k + 1) = preK (wayL op n S) S k by rw [hst, if_neg (fun h => by have := hbt.2 h; omega)])
                  clear hst hbt hbl hsm
                  go_wp2
                  go_roundw
                  case rel => exact ⟨k + 1, by omega, by go_num, Hbq.out, by rw [Hst.out]; exact Hkq.out⟩
                  case measure => simp [intOf]; omega
                · have hge2 := bit_ge (hbt.1 hbb)
                  have hp2 := Nat.two_pow_pos k
                  have han := andNot_bit (by omega : S < 1048576) (by omega : k ≤ 20) hbb
                  have hlow : S - 2 ^ k < S := by omega
                  have hws := HWS.out (S - 2 ^ k)
                  have hgd := wayL_getD op n hlow
                  rw [hbb] at hbit
                  rw [if_pos (hbt.1 hbb)] at hst
                  rw [← hgd] at hws
                  have ci := Hkq.out.cell tabW_get
                  have cj := Hkq.out.cell (tabW_low hlow)
                  have fi := Hkq.out.free (i := S)
                  have hgz := Hkq.out.lt
                  clear hgd hbt hbl hbb
                  generalize S - 2 ^ k = T at *
                  generalize (wayL op n S).getD T 0 = y at *
                  have hk7 : k ≤ 7 := by omega
                  have Hst := Lib.hid hst
                  clear hst
                  generalize hx : preK (wayL op n S) S k = x at *
                  have Hx := Lib.hid hx
                  clear hx
                  have hxs : (x : Int) ≤ 40000 := by omega
                  have hys : (y : Int) ≤ 5040 := by omega
                  have hx0 : (0 : Int) ≤ (x : Int) := by omega
                  have hy0 : (0 : Int) ≤ (y : Int) := by omega
                  have hTS : (T : Int) < (M : Int) := by omega
                  have hT0 : (0 : Int) ≤ (T : Int) := by omega
                  have ew : IntKind.i64.wrap ((x : Int) + (y : Int)) = (x : Int) + (y : Int) := IntWalk.i64_in _ (by omega)
                  have hK6 := Hkq.out.set_ (i := S) ((x + y : Nat) : Int)
                  rw [tabW_set, Int.natCast_add] at hK6
                  have HK6 := Lib.hid hK6
                  have HB6 := Lib.hid (show Below w1.heap.size w1 (wr.setCell ⟨w1.heap.size, S, none⟩ (.int .i64 ((x : Int) + (y : Int)))) from Hbq.out.setCell (Nat.le_refl _) _)
                  clear hsm hws hge2 hp2 hlow hK6
                  go_wp2_with fail
                  go_region
                  all_goals go_wp2_with fail
                  go_roundw
                  case rel => exact ⟨k + 1, by omega, by go_num, ⟨HB6.out.os, HB6.out.tape, HB6.out.output, HB6.out.size, HB6.out.block⟩, by rw [Hst.out]; exact HK6.out⟩
                  case measure => simp [intOf]; omega
              · have e1 : k = n := by omega
                subst e1
                have hge : ¬ ((k : Int) < (k : Int)) := by omega
                have Hbq := Lib.hid hbq
                have Hkq := Lib.hid hkq
                clear hbq hkq
                go_wp2
                go_roundw
                case rel => exact ⟨S + 1, by omega, by go_num, Hbq.out, by rw [← HNX.out _ (by rw [entry, if_pos HOT.out])]; exact Hkq.out⟩
                case measure => simp [intOf]; omega
          · have HS1 := Lib.hid (show preK (wayL op n S) S 0 = 0 by rw [preK, if_neg hs0])
            have hs0' : ¬ (S : Int) = 0 := by omega
            have hs0b : ((S : Int) == 0) = false := by simpa using hs0'
            clear hs0
            go_wp2_with (first
              | (go_at_call 48; refine (implisCut_calls cs n S Ar cr _ HRW.out (by omega) HSn.out _ HCB.out).mono ?_; rintro e w3 ⟨rfl, rfl⟩)
              | ((with_reducible refine (HCL.out).mono ?_); rintro e w3 ⟨rfl, hb3⟩))
            have hk5 : IntBlk w3 w1.heap.size (tabW op n M S (preK (wayL op n S) S 0)) := by
              rw [HS1.out]
              exact Hk.out.below hb3
            have hb5 : Below w1.heap.size w1 w3 := below_trans' Hb.out hb3
            go_loopw [38] (fun i wq => ∃ k : Nat, k ≤ n ∧ i = .int .i64 k ∧ Below w1.heap.size w1 wq ∧ IntBlk wq w1.heap.size (tabW op n M S (preK (wayL op n S) S k))) (fun i _ => n - (intOf i).toNat)
            case atStart => exact ⟨0, by omega, rfl, hb5, hk5⟩
            case round =>
              clear hb5 hk5 hb3
              obtain ⟨k, hk, rfl, hbq, hkq⟩ := hrel
              by_cases hkl : k < n
              · have hst : preK (wayL op n S) S (k + 1) = if S.testBit k = true then preK (wayL op n S) S k + (wayL op n S).getD (S - 2 ^ k) 0 else preK (wayL op n S) S k := by rw [preK]
                have hbit := bit_and (r := S) (by omega) k
                have hbl := bitN_le S k
                have hbt := bitN_test S k
                have hsm := HPK.out k
                have Hbq := Lib.hid hbq
                have Hkq := Lib.hid hkq
                have hk0 : (0 : Int) ≤ (k : Int) := by omega
                have hkn : (k : Int) < (n : Int) := by omega
                have hk64 : (k : Int) ≤ 64 := by omega
                clear hbq hkq
                have hbb : bitN S k = 0 ∨ bitN S k = 1 := by omega
                rcases hbb with hbb | hbb
                · rw [hbb] at hbit hbt
                  have Hst := Lib.hid (show preK (wayL op n S) S (k + 1) = preK (wayL op n S) S k by rw [hst, if_neg (fun h => by have := hbt.2 h; omega)])
                  clear hst hbt hbl hsm
                  go_wp2
                  go_roundw
                  case rel => exact ⟨k + 1, by omega, by go_num, Hbq.out, by rw [Hst.out]; exact Hkq.out⟩
                  case measure => simp [intOf]; omega
                · have hge2 := bit_ge (hbt.1 hbb)
                  have hp2 := Nat.two_pow_pos k
                  have han := andNot_bit (by omega : S < 1048576) (by omega : k ≤ 20) hbb
                  have hlow : S - 2 ^ k < S := by omega
                  have hws := HWS.out (S - 2 ^ k)
                  have hgd := wayL_getD op n hlow
                  rw [hbb] at hbit
                  rw [if_pos (hbt.1 hbb)] at hst
                  rw [← hgd] at hws
                  have ci := Hkq.out.cell tabW_get
                  have cj := Hkq.out.cell (tabW_low hlow)
                  have fi := Hkq.out.free (i := S)
                  have hgz := Hkq.out.lt
                  clear hgd hbt hbl hbb
                  generalize S - 2 ^ k = T at *
                  generalize (wayL op n S).getD T 0 = y at *
                  have hk7 : k ≤ 7 := by omega
                  have Hst := Lib.hid hst
                  clear hst
                  generalize hx : preK (wayL op n S) S k = x at *
                  have Hx := Lib.hid hx
                  clear hx
                  have hxs : (x : Int) ≤ 40000 := by omega
                  have hys : (y : Int) ≤ 5040 := by omega
                  have hx0 : (0 : Int) ≤ (x : Int) := by omega
                  have hy0 : (0 : Int) ≤ (y : Int) := by omega
                  have hTS : (T : Int) < (M : Int) := by omega
                  have hT0 : (0 : Int) ≤ (T : Int) := by omega
                  have ew : IntKind.i64.wrap ((x : Int) + (y : Int)) = (x : Int) + (y : Int) := IntWalk.i64_in _ (by omega)
                  have hK6 := Hkq.out.set_ (i := S) ((x + y : Nat) : Int)
                  rw [tabW_set, Int.natCast_add] at hK6
                  have HK6 := Lib.hid hK6
                  have HB6 := Lib.hid (show Below w1.heap.size w1 (wr.setCell ⟨w1.heap.size, S, none⟩ (.int .i64 ((x : Int) + (y : Int)))) from Hbq.out.setCell (Nat.le_refl _) _)
                  clear hsm hws hge2 hp2 hlow hK6
                  go_wp2_with fail
                  go_region
                  all_goals go_wp2_with fail
                  go_roundw
                  case rel => exact ⟨k + 1, by omega, by go_num, ⟨HB6.out.os, HB6.out.tape, HB6.out.output, HB6.out.size, HB6.out.block⟩, by rw [Hst.out]; exact HK6.out⟩
                  case measure => simp [intOf]; omega
              · have e1 : k = n := by omega
                subst e1
                have hge : ¬ ((k : Int) < (k : Int)) := by omega
                have Hbq := Lib.hid hbq
                have Hkq := Lib.hid hkq
                clear hbq hkq
                go_wp2
                go_roundw
                case rel => exact ⟨S + 1, by omega, by go_num, Hbq.out, by rw [← HNX.out _ (by rw [entry, if_pos HOT.out])]; exact Hkq.out⟩
                case measure => simp [intOf]; omega
    · have hge : ¬ ((S : Int) < (M : Int)) := by omega
      have e1 : S = M := by omega
      subst e1
      have HL := Lib.hid (rowT_last (op := op) (n := n) (M := S) (by omega))
      have hc := hk.cell HL.out
      have e2 : (S : Int) - 1 = ((S - 1 : Nat) : Int) := by omega
      have Hb := Lib.hid hb
      have Hk := Lib.hid hk
      have hgz := hk.lt
      clear hb hk
      go_wp2
      go_ret
      exact HPost.out _ Hb.out _ rfl
end Go.Proofs.Ytmeehfiekhdbkaa
