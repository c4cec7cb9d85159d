/-
  The walk of the law that StepObject answers as the reference does, in memory of its own: it returns true. No condition.
-/
import Derived.Test.YtoeecaeaobfhmaaStepO
import Derived.Test.YtoeecaeaobfhmaaIntM
import Derived.Test.YtoeecaeaobfhmaaMkInt
import Derived.Test.YtoeecaeaobfhmaaHeInt
import Derived.Deep.RegionHeld3
namespace Go.Proofs.Ytoeecaeaobfhmaa
open Go.RowKit Go.Deep
set_option maxRecDepth 100000

/-- The seven cells of the law's own copy of the call. -/
def Box7 (b : Nat) (c : CallD) (w : World) : Prop := w.cell? ⟨b, 0, none⟩ = some (.int .i64 c.proc) ∧ w.cell? ⟨b, 1, none⟩ = some (.int .i64 c.obj) ∧ w.cell? ⟨b, 2, none⟩ = some (.int .i64 c.kind) ∧ w.cell? ⟨b, 3, none⟩ = some (.int .i64 c.arg) ∧
  w.cell? ⟨b, 4, none⟩ = some (.int .i64 c.ret) ∧ w.cell? ⟨b, 5, none⟩ = some (.int .i64 c.fr) ∧ w.cell? ⟨b, 6, none⟩ = some (.int .i64 c.till)
theorem row_of_ints {w : World} {B : Nat} {A : Option Addr} {c : Nat} {L : List Int} (h : OwnInts w B (.slice A L.length c) L) : RowInts w A L := RowOf.of_own rfl (fun _ _ => rfl) h
theorem drew_trans {u v : World} (h : Below u.drew.heap.size u.drew v) : Below u.heap.size u v := ⟨h.os, h.tape, h.output, h.size, h.block⟩
theorem so_len (s : ByteArray) (st : List Int) (c : CallD) : (soL (soOk s st c) st c).length ≤ 21 := by
  cases h : soOk s st c with
  | none => simp [soL]
  | some o =>
    have h1 : st.length ≤ 20 := by
      unfold soOk at h
      split at h
      · next e =>
        rw [Bool.and_eq_true, h] at e
        exact (stB_len e.1).1
      · cases h
    have := stepS_len o st c.kind c.arg
    simp only [soL]
    omega

set_option maxHeartbeats 8000000 in
theorem walk_FnExactStepObject (s : ByteArray) (L : List Int) (D : Option Addr) (capD : Nat) (c : CallD) (w : World) (_hs : s.size ≤ maxLen) (hlcD : L.length ≤ capD) (hcmD : capD ≤ maxLen) (hrD : RowInts w D L) (_hgD : ∀ d ∈ L, I64 d) (_hnD : D = none → L.length = 0 ∧ capD = 0) (_hgc : c.good) :
    Calls Try.prog 12 #[.string s, .slice D L.length capD, c.val] w fun e w' => e = .returned (.bool true) ∧ Below w.heap.size w w' := by
  skip
  by_cases hsb : (1048576 : Int) < (s.size : Int)
  · go_enter Try.func12, Try.ntmps12
    go_wp2_with fail
    go_ret
    exact ⟨rfl, below_alloc (Below.refl _ _) _⟩
  have hM : L.length ≤ maxLen := by omega
  unfold maxLen at hM
  by_cases hbigD : 1048576 < L.length
  · have hI : (1048576 : Int) < (L.length : Int) := by omega
    go_enter Try.func12, Try.ntmps12
    go_wp2_with fail
    go_ret
    exact ⟨rfl, below_alloc (Below.refl _ _) _⟩
  have hlD : L.length ≤ 1048576 := by omega
  have hlD' : (L.length : Int) ≤ 1048576 := by omega
  have hID : ¬ ((1048576 : Int) < (L.length : Int)) := by omega
  have HP := Lib.hid (so_len s L c)
  have HI0 := Lib.hid (fun (W : World) (F : Option Addr) (f : Nat) (hF : RowInts W F L) (hf : L.length ≤ f) (hfm : f ≤ maxLen) => implStepObject_calls s L F L.length f c W hF rfl hlD hf hfm)
  have HS0 := Lib.hid (fun (W : World) (F : Option Addr) (f : Nat) (hF : RowInts W F L) (hf : L.length ≤ f) (hfm : f ≤ maxLen) => specStepObject_calls s L F L.length f c W hF rfl hlD hf hfm)
  unfold SoPost at HI0 HS0
  obtain ⟨P, hP⟩ : ∃ P, soL (soOk s L c) L c = P := ⟨_, rfl⟩
  obtain ⟨ok, hok⟩ : ∃ ok, soB (soOk s L c) L c = ok := ⟨_, rfl⟩
  rw [hP] at HP
  simp only [hP, hok] at HI0 HS0
  have HI := Lib.hid HI0.out
  have HS := Lib.hid HS0.out
  have HTD0 := Lib.hid (fun (W : World) (hW : RowInts W D L) => toIntS_calls L D capD W hW hlD)
  have HTC := Lib.hid (fun (W : World) => toCall_calls c W)
  have HML := Lib.hid (show L.length ≤ maxLen by unfold maxLen; omega)
  have HRD0 := Lib.hid hrD
  clear hrD _hnD _hgD hP hok HI0 HS0 _hgc
  go_enter Try.func12, Try.ntmps12
  go_wp2_with fail
  have HX0 := Lib.hid (show Box7 w.heap.size c (w.alloc (.cells #[.int .i64 c.proc, .int .i64 c.obj, .int .i64 c.kind, .int .i64 c.arg, .int .i64 c.ret, .int .i64 c.fr, .int .i64 c.till] 43)) from
    ⟨step_box c w _ 0 _ rfl, step_box c w _ 1 _ rfl, step_box c w _ 2 _ rfl, step_box c w _ 3 _ rfl, step_box c w _ 4 _ rfl, step_box c w _ 5 _ rfl, step_box c w _ 6 _ rfl⟩)
  have HB0 := Lib.hid (show Below w.heap.size w (w.alloc (.cells #[.int .i64 c.proc, .int .i64 c.obj, .int .i64 c.kind, .int .i64 c.arg, .int .i64 c.ret, .int .i64 c.fr, .int .i64 c.till] 43)) from below_alloc (Below.refl _ _) _)
  have hbw0 : w.heap.size < (w.alloc (.cells #[.int .i64 c.proc, .int .i64 c.obj, .int .i64 c.kind, .int .i64 c.arg, .int .i64 c.ret, .int .i64 c.fr, .int .i64 c.till] 43)).heap.size := by simp
  generalize w.alloc (.cells #[.int .i64 c.proc, .int .i64 c.obj, .int .i64 c.kind, .int .i64 c.arg, .int .i64 c.ret, .int .i64 c.fr, .int .i64 c.till] 43) = u at *
  obtain ⟨b, hb⟩ : ∃ b, w.heap.size = b := ⟨_, rfl⟩
  rw [hb] at HX0 hbw0 ⊢
  have HX := Lib.hid (show ∀ W, Below u.heap.size u W → Box7 b c W ∧ b < W.heap.size from fun W hW => ⟨⟨cell_below hW HX0.out.1, cell_below hW HX0.out.2.1, cell_below hW HX0.out.2.2.1, cell_below hW HX0.out.2.2.2.1, cell_below hW HX0.out.2.2.2.2.1, cell_below hW HX0.out.2.2.2.2.2.1, cell_below hW HX0.out.2.2.2.2.2.2⟩, Nat.lt_of_lt_of_le hbw0 hW.size⟩)
  have HTD := Lib.hid (show ∀ W, Below u.heap.size u W → Calls Try.prog 29 #[.slice D L.length capD] W fun e w' => ∃ g, e = .returned (.slice (some ⟨g, 0, none⟩) L.length L.length) ∧ OwnInts w' W.heap.size (.slice (some ⟨g, 0, none⟩) L.length L.length) L ∧ Below W.heap.size W w' from fun W hW => HTD0.out W (HRD0.out.below (HB0.out.trans (hW.mono HB0.out.size))))
  have HEnd := Lib.hid (show ∀ W, Below u.heap.size u W → Below w.heap.size w W from fun W hW => HB0.out.trans (hW.mono HB0.out.size))
  clear HX0 HTD0 HRD0 HB0
  obtain ⟨⟨d0, d1, d2, d3, d4, d5, d6⟩, _⟩ := HX.out u (Below.refl _ _)
  go_region_held3 (fun w' => w'.cell? ⟨b, 0, none⟩ = some (.int .i64 c.proc) ∧ w'.cell? ⟨b, 1, none⟩ = some (.int .i64 c.obj) ∧ w'.cell? ⟨b, 2, none⟩ = some (.int .i64 c.kind) ∧ w'.cell? ⟨b, 3, none⟩ = some (.int .i64 c.arg) ∧ w'.cell? ⟨b, 4, none⟩ = some (.int .i64 c.ret) ∧ w'.cell? ⟨b, 5, none⟩ = some (.int .i64 c.fr) ∧ w'.cell? ⟨b, 6, none⟩ = some (.int .i64 c.till))
    (first | exact (HX.out _ hbw2).1 | exact (HX.out _ hbw1b).1 | exact (HX.out _ hbw1).1 | go_keep)
    (first
      | (go_at_call 29; with_reducible refine (HTD.out _ ?_).mono ?_; exact (Below.refl _ _).drew; intro e w1 hd; obtain ⟨g1, he, ho1, hb1⟩ := hd; subst he; have hr1 : RowInts w1 (some ⟨g1, 0, none⟩) L := row_of_ints ho1; have hbw1 := drew_trans hb1)
      | (go_at_call 40; with_reducible refine (HTC.out _).mono ?_; intro e w1b hd; obtain ⟨he, hb1b⟩ := hd; subst he; have hbw1b := below_trans' hbw1 hb1b)
      | (go_at_call 39; with_reducible refine (HS.out _ _ _ (hr1.below hb1b) (Nat.le_refl _) HML.out).mono ?_; intro e w2 hd; obtain ⟨v0, he, own0, hb2⟩ := hd; subst he; have hbw2 := below_trans' hbw1b hb2))
  clear d0 d1 d2 d3 d4 d5 d6 hr1 ho1 hb1b hbw1b hbw1
  have lt0 := own0.lt
  obtain ⟨A0, c0, rfl, hnc0, hcm0, _⟩ := own_form own0
  go_wp2_with fail
  -- the program's answer
  refine (HTD.out _ hbw2).mono ?_
  rintro e w3 ⟨g3, rfl, own3, hb3⟩
  have hbw3 := below_trans' hbw2 hb3
  have lt3 := own3.lt g3 rfl
  have o0_3 := own_below own0 hb3
  obtain ⟨⟨d0, d1, d2, d3, d4, d5, d6⟩, hbz3⟩ := HX.out w3 hbw3
  go_wp2_with fail
  refine (HTC.out _).mono ?_
  rintro e w3b ⟨rfl, hb3b⟩
  have hbw3b := below_trans' hbw3 hb3b
  have o0_3b := own_below o0_3 hb3b
  have own3b := own_below own3 hb3b
  clear d0 d1 d2 d3 d4 d5 d6 own0 o0_3 own3
  go_wp2_with fail
  refine (HI.out _ _ _ (row_of_ints own3b) (Nat.le_refl _) HML.out).mono ?_
  rintro e w4 ⟨v4, rfl, own4, hb4⟩
  have hbw4 := below_trans' hbw3b hb4
  have lt4 := own4.lt
  have hs3 := hb3.size
  have hs3b := hb3b.size
  have hs4 := hb4.size
  have hs2 := hbw2.size
  have o0_4 := own_below o0_3b hb4
  have d3_4 := own_below own3b hb4
  obtain ⟨A4, c4, rfl, hnc4, hcm4, _⟩ := own_form own4
  clear o0_3b own3b
  have hPl := HP.out
  have hP20 : P.length ≤ 1048576 := by omega
  go_wp2_with fail
  refine (eqIntS_same P A4 A0 _ _ _ (row_of_ints own4) (row_of_ints o0_4) hP20).mono ?_
  rintro e w5 ⟨rfl, hb5⟩
  have hbw5 := below_trans' hbw4 hb5
  have hs5 := hb5.size
  have o0_5 := own_below o0_4 hb5
  have d3_5 := own_below d3_4 hb5
  have o4_5 := own_below own4 hb5
  clear o0_4 d3_4 own4
  cases ok
  all_goals
    go_wp2_with fail
    refine (HTD.out _ hbw5).mono ?_
    rintro e w6 ⟨g6, rfl, own6, hb6⟩
    have hbw6 := below_trans' hbw5 hb6
    have hs6 := hb6.size
    have o0_6 := own_below o0_5 hb6
    have d3_6 := own_below d3_5 hb6
    have o4_6 := own_below o4_5 hb6
    clear o0_5 d3_5 o4_5
    go_wp2_with fail
    refine (eqIntS_same L _ _ _ _ _ (row_of_ints d3_6) (row_of_ints own6) hlD).mono ?_
    rintro e w7 ⟨rfl, hb7⟩
    have hbw7 := below_trans' hbw6 hb7
    have hs7 := hb7.size
    have o0_7 := own_below o0_6 hb7
    have d3_7 := own_below d3_6 hb7
    have o4_7 := own_below o4_6 hb7
    clear o0_6 d3_6 o4_6 own6
    go_wp2_with fail
    -- the argument's copy is overwritten
    refine (markIntS_calls _ _ _ _ _ 1 _ d3_7 (by omega) (by omega)).mono ?_
    rintro e w8 ⟨rfl, _, hg8⟩
    have hs8 := hg8.size
    have hbw8 : Below u.heap.size u w8 := hbw7.grown hg8 hbw7.size (by intro k hk; simp only [Value.ownBlock, Option.some.injEq] at hk; omega)
    have o0_8 := own_low o0_7 (N := w2.heap.size) (fun k hk => (lt0 k hk).2) hg8 (by intro k hk; simp only [Value.ownBlock, Option.some.injEq] at hk; omega)
    have o4_8 := own_high o4_7 hg8 (by intro k hk; simp only [Value.ownBlock, Option.some.injEq] at hk; omega)
    clear o0_7 d3_7 o4_7 hg8
    have hk1 : ¬ ((1 : Int) + (L.length : Int) < 0) := by omega
    have hk2 : decide ((1 : Int) + (L.length : Int) < 0) = false := by simp; omega
    go_wp2_with fail
    refine (eqIntS_same P A4 A0 _ _ _ (row_of_ints o4_8) (row_of_ints o0_8) hP20).mono ?_
    rintro e w9 ⟨rfl, hb9⟩
    have hbw9 := below_trans' hbw8 hb9
    have hs9 := hb9.size
    have o0_9 := own_below o0_8 hb9
    have o4_9 := own_below o4_8 hb9
    clear o0_8 o4_8
    have hm1 : ¬ ((1 : Int) + (P.length : Int) < 0) := by omega
    have hm2 : decide ((1 : Int) + (P.length : Int) < 0) = false := by simp; omega
    go_wp2_with fail
    -- so is the answer, and it holds what was written
    refine (markIntS_calls _ _ _ _ _ 1 _ o4_9 (by omega) (by omega)).mono ?_
    rintro e w10 ⟨rfl, own10, hg10⟩
    have hs10 := hg10.size
    have hbw10 : Below u.heap.size u w10 := hbw9.grown hg10 hbw9.size (by intro k hk; have := hbw3b.size; have := (lt4 k hk).1; omega)
    have o0_10 := own_low o0_9 (N := w2.heap.size) (fun k hk => (lt0 k hk).2) hg10 (by intro k hk; have := (lt4 k hk).1; omega)
    clear o0_9 o4_9 hg10
    go_wp2_with fail
    refine (heldIntS_calls A4 P.length c4 1 _ (RowOf.of_own (marksInt_len 1 P.length).symm (fun c _ => markInt_len c) own10) (by omega) (by omega)).mono ?_
    rintro e w10' ⟨rfl, rfl⟩
    go_wp2_with fail
    -- a second answer
    obtain ⟨⟨d0, d1, d2, d3, d4, d5, d6⟩, hbz10⟩ := HX.out w10 hbw10
    have O0 := Lib.hid o0_10
    have O4 := Lib.hid own10
    have HTE := Lib.hid (fun (W : World) (hW : Below w10.heap.size w10 W) => HTD.out W (below_trans' hbw10 hW))
    have HXE := Lib.hid (fun (W : World) (hW : Below w10.heap.size w10 W) => (HX.out W (below_trans' hbw10 hW)).1)
    have HBW := Lib.hid hbw10
    clear o0_10 own10 hbw2 hbw3 hbw3b hbw4 hbw5 hbw6 hbw7 hbw8 hbw9 hbw10 hb3 hb3b hb4 hb5 hb6 hb7 hb9
    go_region_held3 (fun w' => w'.cell? ⟨b, 0, none⟩ = some (.int .i64 c.proc) ∧ w'.cell? ⟨b, 1, none⟩ = some (.int .i64 c.obj) ∧ w'.cell? ⟨b, 2, none⟩ = some (.int .i64 c.kind) ∧ w'.cell? ⟨b, 3, none⟩ = some (.int .i64 c.arg) ∧ w'.cell? ⟨b, 4, none⟩ = some (.int .i64 c.ret) ∧ w'.cell? ⟨b, 5, none⟩ = some (.int .i64 c.fr) ∧ w'.cell? ⟨b, 6, none⟩ = some (.int .i64 c.till))
      (first | exact HXE.out _ hbw12 | exact HXE.out _ hbw11b | exact HXE.out _ hbw11 | go_keep)
      (first
        | (go_at_call 29; with_reducible refine (HTE.out _ ?_).mono ?_; exact (Below.refl _ _).drew; intro e w11 hd; obtain ⟨g11, he, ho11, hb11⟩ := hd; subst he; have hr11 : RowInts w11 (some ⟨g11, 0, none⟩) L := row_of_ints ho11; have hbw11 := drew_trans hb11)
        | (go_at_call 40; with_reducible refine (HTC.out _).mono ?_; intro e w11b hd; obtain ⟨he, hb11b⟩ := hd; subst he; have hbw11b := below_trans' hbw11 hb11b)
        | (go_at_call 41; with_reducible refine (HI.out _ _ _ (hr11.below hb11b) (Nat.le_refl _) HML.out).mono ?_; intro e w12 hd; obtain ⟨v12, he, own12, hb12⟩ := hd; subst he; have hbw12 := below_trans' hbw11b hb12))
    clear d0 d1 d2 d3 d4 d5 d6 hr11 ho11 hb11b hbw11b hbw11
    have o0_12 := own_below O0.out hbw12
    have o4_12 := own_below O4.out hbw12
    obtain ⟨A12, c12, rfl, _, _, _⟩ := own_form own12
    go_wp2_with fail
    refine (eqIntS_same P A12 A0 _ _ _ (row_of_ints own12) (row_of_ints o0_12) hP20).mono ?_
    rintro e w13 ⟨rfl, hb13⟩
    have hbw13 := below_trans' hbw12 hb13
    have o4_13 := own_below o4_12 hb13
    clear o0_12 o4_12 own12
    go_wp2_with fail
    refine (heldIntS_calls A4 P.length c4 1 _ (RowOf.of_own (marksInt_len 1 P.length).symm (fun c _ => markInt_len c) o4_13) (by omega) (by omega)).mono ?_
    rintro e w14 ⟨rfl, rfl⟩
    go_wp2_with fail
    go_ret
    subst hb
    exact ⟨rfl, HEnd.out _ (below_trans' HBW.out hbw13)⟩
end Go.Proofs.Ytoeecaeaobfhmaa
