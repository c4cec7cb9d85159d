/-
  The walk of the law that PointsOf answers as the reference does, in memory of its own: it returns true. No condition.
-/
import Derived.Test.YtoeecaeaobfhmaaPoints
import Derived.Test.YtoeecaeaobfhmaaCallS
import Derived.Test.YtoeecaeaobfhmaaIntM
import Derived.Test.YtoeecaeaobfhmaaMkCall
import Derived.Test.YtoeecaeaobfhmaaMkInt
import Derived.Test.YtoeecaeaobfhmaaHeInt
namespace Go.Proofs.Ytoeecaeaobfhmaa
open Go.RowKit
set_option maxRecDepth 100000

set_option maxHeartbeats 4000000 in
theorem walk_FnExactPointsOf (cs : List CallD) (A : Option Addr) (cap : Nat) (L : List Int) (D : Option Addr) (capD : Nat) (w : World) (hlc : cs.length ≤ cap) (hcm : cap ≤ maxLen) (hr : RowCalls w A cs) (_hg : ∀ d ∈ cs, d.good) (_hn : A = none → cs.length = 0 ∧ cap = 0)
    (hlcD : L.length ≤ capD) (hcmD : capD ≤ maxLen) (hrD : RowInts w D L) (_hgD : ∀ d ∈ L, I64 d) (_hnD : D = none → L.length = 0 ∧ capD = 0) :
    Calls Try.prog 7 #[.slice A cs.length cap, .slice D L.length capD] w fun e w' => e = .returned (.bool true) ∧ Below w.heap.size w w' := by
  have hM : L.length ≤ maxLen := by omega
  unfold maxLen at hM
  by_cases hbigD : 1048576 < L.length
  · have hI : (1048576 : Int) < (L.length : Int) := by omega
    go_enter Try.func7, Try.ntmps7
    go_wp2_with fail
    go_ret
    exact ⟨rfl, Below.refl _ _⟩
  have hlD : L.length ≤ 1048576 := by omega
  have hlD' : (L.length : Int) ≤ 1048576 := by omega
  have hID : ¬ ((1048576 : Int) < (L.length : Int)) := by omega
  by_cases hbig : 1048576 < cs.length
  · go_enter Try.func7, Try.ntmps7
    go_wp2_with (go_at_call 13; refine (szCallS_big A cs.length cap _ hbig (by omega)).mono ?_; rintro e w1 ⟨rfl, rfl⟩)
    go_ret
    exact ⟨rfl, Below.refl _ _⟩
  have hl : cs.length ≤ 1048576 := by omega
  have hl' : (cs.length : Int) ≤ 1048576 := by omega
  have HR := Lib.hid hr
  have HRD := Lib.hid hrD
  have HP := Lib.hid (ptsL_len cs L)
  have HI0 := Lib.hid (fun (W : World) (B : Option Addr) (c : Nat) (F : Option Addr) (f : Nat) (hW : RowCalls W B cs) (hc : cs.length ≤ c) (hF : RowInts W F L) (hf : L.length ≤ f) => implPointsOf_calls cs L B cs.length c F L.length f W hW rfl hl hc hF rfl hlD hf)
  have HS0 := Lib.hid (fun (W : World) (B : Option Addr) (c : Nat) (F : Option Addr) (f : Nat) (hW : RowCalls W B cs) (hF : RowInts W F L) (hf : L.length ≤ f) => specPointsOf_calls cs L B cs.length c F L.length f W hW rfl hl hF rfl hlD hf)
  unfold PtsPost at HI0 HS0
  obtain ⟨P, hP⟩ : ∃ P, ptsL cs L = P := ⟨_, rfl⟩
  obtain ⟨ok, hok⟩ : ∃ ok, ptsOk cs L = ok := ⟨_, rfl⟩
  rw [hP] at HP
  simp only [hP, hok] at HI0 HS0
  have HI := Lib.hid HI0.out
  have HS := Lib.hid HS0.out
  have HT := Lib.hid (fun (W : World) (hW : RowCalls W A cs) => toCallS_calls cs A cap W hW hl)
  have HTD := Lib.hid (fun (W : World) (hW : RowInts W D L) => toIntS_calls L D capD W hW hlD)
  clear hr hrD _hn _hg _hnD _hgD hP hok HI0 HS0
  go_enter Try.func7, Try.ntmps7
  go_wp2_with (go_at_call 13; refine (szCallS_small A cs.length cap _ hl).mono ?_; rintro e w1 ⟨rfl, rfl⟩)
  refine (HT.out _ HR.out).mono ?_
  rintro e w1 ⟨g1, rfl, ho1, hb1⟩
  have hr1 : RowCalls w1 _ cs := RowOf.of_own rfl (fun c _ => c.vals_len) ho1
  go_wp2_with fail
  refine (HTD.out _ (HRD.out.below hb1)).mono ?_
  rintro e w1' ⟨g1', rfl, ho1', hb1'⟩
  have hr1' : RowInts w1' _ L := RowOf.of_own rfl (fun _ _ => rfl) ho1'
  have hbw1 : Below w.heap.size w w1' := (by repeat (first | exact Below.refl _ _ | assumption | refine below_alloc ?_ _ | refine below_trans' ?_ (by assumption) | refine Below.drew ?_))
  go_wp2_with fail
  -- the reference's answer
  refine (HS.out _ _ _ _ _ (hr1.below hb1') hr1' (Nat.le_refl _)).mono ?_
  rintro e w2 ⟨v0, rfl, own0, hb2⟩
  have hbw2 : Below w.heap.size w w2 := (by repeat (first | exact Below.refl _ _ | assumption | refine below_alloc ?_ _ | refine below_trans' ?_ (by assumption) | refine Below.drew ?_))
  have lt0 := own0.lt
  go_wp2_with fail
  refine (HT.out _ (HR.out.below hbw2)).mono ?_
  rintro e w3a ⟨g3, rfl, own3a, hb3a⟩
  have hbw3a : Below w.heap.size w w3a := (by repeat (first | exact Below.refl _ _ | assumption | refine below_alloc ?_ _ | refine below_trans' ?_ (by assumption) | refine Below.drew ?_))
  have lt3 := own3a.lt g3 rfl
  go_wp2_with fail
  refine (HTD.out _ (HRD.out.below hbw3a)).mono ?_
  rintro e w3 ⟨h3, rfl, own3d, hb3⟩
  have hbw3 : Below w.heap.size w w3 := (by repeat (first | exact Below.refl _ _ | assumption | refine below_alloc ?_ _ | refine below_trans' ?_ (by assumption) | refine Below.drew ?_))
  have lt3d := own3d.lt h3 rfl
  have own3 := own_below own3a hb3
  have hr3 : RowCalls w3 _ cs := RowOf.of_own rfl (fun c _ => c.vals_len) own3
  have hr3d : RowInts w3 _ L := RowOf.of_own rfl (fun _ _ => rfl) own3d
  have o0_3 := own_below (own_below own0 hb3a) hb3
  go_wp2_with fail
  -- the program's answer
  refine (HI.out _ _ _ _ _ hr3 (Nat.le_refl _) hr3d (Nat.le_refl _)).mono ?_
  rintro e w4 ⟨v4, rfl, own4, hb4⟩
  have hbw4 : Below w.heap.size w w4 := (by repeat (first | exact Below.refl _ _ | assumption | refine below_alloc ?_ _ | refine below_trans' ?_ (by assumption) | refine Below.drew ?_))
  have lt4 := own4.lt
  have hs3a := hb3a.size
  have hs3 := hb3.size
  have hs4 := hb4.size
  have hs2 := hbw2.size
  have o0_4 := own_below o0_3 hb4
  have o3_4 := own_below own3 hb4
  have d3_4 := own_below own3d hb4
  obtain ⟨A0, c0, rfl, hnc0, hcm0, _⟩ := own_form own0
  obtain ⟨A4, c4, rfl, hnc4, hcm4, _⟩ := own_form own4
  clear ho1 ho1' own0 own3a own3 own3d o0_3 hr1 hr1'
  go_wp2_with fail
  refine (eqIntS_same P A4 A0 _ _ _ (RowOf.of_own rfl (fun _ _ => rfl) own4) (RowOf.of_own rfl (fun _ _ => rfl) o0_4) HP.out).mono ?_
  rintro e w5 ⟨rfl, hb5⟩
  have hbw5 : Below w.heap.size w w5 := (by repeat (first | exact Below.refl _ _ | assumption | refine below_alloc ?_ _ | refine below_trans' ?_ (by assumption) | refine Below.drew ?_))
  have hs5 := hb5.size
  have o0_5 := own_below o0_4 hb5
  have o3_5 := own_below o3_4 hb5
  have d3_5 := own_below d3_4 hb5
  have o4_5 := own_below own4 hb5
  clear o0_4 o3_4 d3_4 own4
  cases ok
  all_goals
    go_wp2_with fail
    refine (HT.out _ (HR.out.below hbw5)).mono ?_
    rintro e w6 ⟨g6, rfl, own6, hb6⟩
    have hbw6 : Below w.heap.size w w6 := (by repeat (first | exact Below.refl _ _ | assumption | refine below_alloc ?_ _ | refine below_trans' ?_ (by assumption) | refine Below.drew ?_))
    have hs6 := hb6.size
    have o0_6 := own_below o0_5 hb6
    have o3_6 := own_below o3_5 hb6
    have d3_6 := own_below d3_5 hb6
    have o4_6 := own_below o4_5 hb6
    clear o0_5 o3_5 d3_5 o4_5
    go_wp2_with fail
    refine (eqCallS_same cs _ _ _ _ _ (RowOf.of_own rfl (fun c _ => c.vals_len) o3_6) (RowOf.of_own rfl (fun c _ => c.vals_len) own6) hl).mono ?_
    rintro e w7 ⟨rfl, hb7⟩
    have hbw7 : Below w.heap.size w w7 := (by repeat (first | exact Below.refl _ _ | assumption | refine below_alloc ?_ _ | refine below_trans' ?_ (by assumption) | refine Below.drew ?_))
    have hs7 := hb7.size
    have o0_7 := own_below o0_6 hb7
    have o3_7 := own_below o3_6 hb7
    have d3_7 := own_below d3_6 hb7
    have o4_7 := own_below o4_6 hb7
    clear o0_6 o3_6 d3_6 o4_6 own6
    go_wp2_with fail
    refine (HTD.out _ (HRD.out.below hbw7)).mono ?_
    rintro e w6' ⟨g6', rfl, own6', hb6'⟩
    have hbw6' : Below w.heap.size w w6' := (by repeat (first | exact Below.refl _ _ | assumption | refine below_alloc ?_ _ | refine below_trans' ?_ (by assumption) | refine Below.drew ?_))
    have hs6' := hb6'.size
    have o0_6 := own_below o0_7 hb6'
    have o3_6 := own_below o3_7 hb6'
    have d3_6 := own_below d3_7 hb6'
    have o4_6 := own_below o4_7 hb6'
    clear o0_7 o3_7 d3_7 o4_7
    go_wp2_with fail
    refine (eqIntS_same L _ _ _ _ _ (RowOf.of_own rfl (fun _ _ => rfl) d3_6) (RowOf.of_own rfl (fun _ _ => rfl) own6') hlD).mono ?_
    rintro e w7' ⟨rfl, hb7'⟩
    have hbw7' : Below w.heap.size w w7' := (by repeat (first | exact Below.refl _ _ | assumption | refine below_alloc ?_ _ | refine below_trans' ?_ (by assumption) | refine Below.drew ?_))
    have hs7' := hb7'.size
    have o0_7 := own_below o0_6 hb7'
    have o3_7 := own_below o3_6 hb7'
    have d3_7 := own_below d3_6 hb7'
    have o4_7 := own_below o4_6 hb7'
    clear o0_6 o3_6 d3_6 o4_6 own6'
    go_wp2_with fail
    -- the arguments' copies are overwritten
    refine (markCallS_calls _ _ _ _ _ 1 _ o3_7 (by omega) (by omega)).mono ?_
    rintro e w8a ⟨rfl, _, hg8⟩
    have hs8a := hg8.size
    have hbw8a : Below w.heap.size w w8a := hbw7'.grown hg8 hbw7'.size (by intro k hk; simp only [Value.ownBlock, Option.some.injEq] at hk; omega)
    have o0_8a := own_low o0_7 (N := w2.heap.size) (fun k hk => (lt0 k hk).2) hg8 (by intro k hk; simp only [Value.ownBlock, Option.some.injEq] at hk; omega)
    have o4_8a := own_high o4_7 hg8 (by intro k hk; simp only [Value.ownBlock, Option.some.injEq] at hk; omega)
    have d3_8a := own_high d3_7 hg8 (by intro k hk; simp only [Value.ownBlock, Option.some.injEq] at hk; omega)
    clear o0_7 o3_7 d3_7 o4_7 hg8
    go_wp2_with fail
    refine (markIntS_calls _ _ _ _ _ (1 + 7 * (cs.length : Int)) _ d3_8a (by omega) (by omega)).mono ?_
    rintro e w8 ⟨rfl, _, hg8⟩
    have hs8 := hg8.size
    have hbw8 : Below w.heap.size w w8 := hbw8a.grown hg8 hbw8a.size (by intro k hk; simp only [Value.ownBlock, Option.some.injEq] at hk; omega)
    have o0_8 := own_low o0_8a (N := w2.heap.size) (fun k hk => (lt0 k hk).2) hg8 (by intro k hk; simp only [Value.ownBlock, Option.some.injEq] at hk; omega)
    have o4_8 := own_high o4_8a hg8 (by intro k hk; simp only [Value.ownBlock, Option.some.injEq] at hk; omega)
    clear o0_8a o4_8a d3_8a hg8
    have hk1 : ¬ ((1 : Int) + 7 * (cs.length : Int) + (L.length : Int) < 0) := by omega
    have hk2 : decide ((1 : Int) + 7 * (cs.length : Int) + (L.length : Int) < 0) = false := by simp; omega
    go_wp2_with fail
    refine (eqIntS_same P A4 A0 _ _ _ (RowOf.of_own rfl (fun _ _ => rfl) o4_8) (RowOf.of_own rfl (fun _ _ => rfl) o0_8) HP.out).mono ?_
    rintro e w9 ⟨rfl, hb9⟩
    have hbw9 : Below w.heap.size w w9 := (by repeat (first | exact Below.refl _ _ | assumption | refine below_alloc ?_ _ | refine below_trans' ?_ (by assumption) | refine Below.drew ?_))
    have hs9 := hb9.size
    have o0_9 := own_below o0_8 hb9
    have o4_9 := own_below o4_8 hb9
    clear o0_8 o4_8
    have hPl := HP.out
    have hm1 : ¬ ((1 : Int) + (P.length : Int) < 0) := by omega
    have hm2 : decide ((1 : Int) + (P.length : Int) < 0) = false := by simp; omega
    go_wp2_with fail
    -- so is the answer, and it holds what was written
    refine (markIntS_calls _ _ _ _ _ 1 _ o4_9 (by omega) (by omega)).mono ?_
    rintro e w10 ⟨rfl, own10, hg10⟩
    have hs10 := hg10.size
    have hbw10 : Below w.heap.size w w10 := hbw9.grown hg10 hbw9.size (by intro k hk; have := hbw3.size; have := (lt4 k hk).1; omega)
    have o0_10 := own_low o0_9 (N := w2.heap.size) (fun k hk => (lt0 k hk).2) hg10 (by intro k hk; have := (lt4 k hk).1; omega)
    clear o0_9 o4_9 hg10
    go_wp2_with fail
    refine (heldIntS_calls A4 P.length c4 1 _ (RowOf.of_own (marksInt_len 1 P.length).symm (fun c _ => markInt_len c) own10) (by omega) (by omega)).mono ?_
    rintro e w10' ⟨rfl, rfl⟩
    go_wp2_with fail
    -- a second answer
    refine (HT.out _ (HR.out.below hbw10)).mono ?_
    rintro e w11 ⟨g11, rfl, own11, hb11⟩
    have hbw11 : Below w.heap.size w w11 := (by repeat (first | exact Below.refl _ _ | assumption | refine below_alloc ?_ _ | refine below_trans' ?_ (by assumption) | refine Below.drew ?_))
    have o0_11 := own_below o0_10 hb11
    have o4_11 := own_below own10 hb11
    clear o0_10 own10
    go_wp2_with fail
    refine (HTD.out _ (HRD.out.below hbw11)).mono ?_
    rintro e w11' ⟨g11', rfl, own11', hb11'⟩
    have hbw11' : Below w.heap.size w w11' := (by repeat (first | exact Below.refl _ _ | assumption | refine below_alloc ?_ _ | refine below_trans' ?_ (by assumption) | refine Below.drew ?_))
    have o0_11' := own_below o0_11 hb11'
    have o4_11' := own_below o4_11 hb11'
    have own11b := own_below own11 hb11'
    clear o0_11 o4_11 own11
    go_wp2_with fail
    refine (HI.out _ _ _ _ _ (RowOf.of_own rfl (fun c _ => c.vals_len) own11b) (Nat.le_refl _) (RowOf.of_own rfl (fun _ _ => rfl) own11') (Nat.le_refl _)).mono ?_
    rintro e w12 ⟨v12, rfl, own12, hb12⟩
    have hbw12 : Below w.heap.size w w12 := (by repeat (first | exact Below.refl _ _ | assumption | refine below_alloc ?_ _ | refine below_trans' ?_ (by assumption) | refine Below.drew ?_))
    have o0_12 := own_below o0_11' hb12
    have o4_12 := own_below o4_11' hb12
    obtain ⟨A12, c12, rfl, _, _, _⟩ := own_form own12
    clear o0_11' o4_11' own11' own11b
    go_wp2_with fail
    refine (eqIntS_same P A12 A0 _ _ _ (RowOf.of_own rfl (fun _ _ => rfl) own12) (RowOf.of_own rfl (fun _ _ => rfl) o0_12) HP.out).mono ?_
    rintro e w13 ⟨rfl, hb13⟩
    have hbw13 : Below w.heap.size w w13 := (by repeat (first | exact Below.refl _ _ | assumption | refine below_alloc ?_ _ | refine below_trans' ?_ (by assumption) | refine Below.drew ?_))
    have o4_13 := own_below o4_12 hb13
    clear o0_12 o4_12 own12
    go_wp2_with fail
    refine (heldIntS_calls A4 P.length c4 1 _ (RowOf.of_own (marksInt_len 1 P.length).symm (fun c _ => markInt_len c) o4_13) (by omega) (by omega)).mono ?_
    rintro e w14 ⟨rfl, rfl⟩
    go_wp2_with fail
    go_ret
    exact ⟨rfl, hbw13⟩
end Go.Proofs.Ytoeecaeaobfhmaa
