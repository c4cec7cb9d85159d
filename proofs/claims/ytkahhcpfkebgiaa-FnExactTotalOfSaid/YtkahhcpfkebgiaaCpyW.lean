/-
  What ValidCopy answers, of the program. No condition but lengths of at most 2 to the 20.
-/
import Derived.Test.YtkahhcpfkebgiaaCpyV
import Derived.BigGuardPart
namespace Go.Proofs.Ytkahhcpfkebgiaa
open Go.RowKit
set_option maxRecDepth 100000

theorem two_ways' (a b : Bool) : a = false ∨ (a = true ∧ b = false) ∨ (a = true ∧ b = true) := by
  cases a <;> cases b <;> simp
theorem pos_dec {y : Int} : decide (y > 0) = decide (0 < y) := rfl
theorem wrote_waI {x y z : Int} (h : wrote x y z = true) : inB x 0 3 = true ∧ inB y 0 30 = true ∧ inB z 0 2 = true ∧ ((¬ (0 < y) ∧ (x == 0) = true ∧ (z == 0) = true) ∨ (0 < y)) := by
  simp only [wrote, Bool.and_eq_true, Bool.or_eq_true, decide_eq_true_eq] at h
  obtain ⟨⟨⟨h1, h2⟩, h3⟩, h4⟩ := h
  refine ⟨h1, h2, h3, ?_⟩
  by_cases hy : 0 < y
  · exact .inr hy
  · rcases h4 with h4 | ⟨h4, h5⟩
    · exact absurd h4 hy
    · exact .inl ⟨hy, h4, h5⟩
theorem wrote_noI {x y z : Int} (h : wrote x y z = false) : inB x 0 3 = false ∨ (inB x 0 3 = true ∧ inB y 0 30 = false) ∨ (inB x 0 3 = true ∧ inB y 0 30 = true ∧ inB z 0 2 = false) ∨ (inB x 0 3 = true ∧ inB y 0 30 = true ∧ inB z 0 2 = true ∧ ¬ (0 < y) ∧ (x == 0) = false) ∨ (inB x 0 3 = true ∧ inB y 0 30 = true ∧ inB z 0 2 = true ∧ ¬ (0 < y) ∧ (x == 0) = true ∧ (z == 0) = false) := by
  cases h1 : inB x 0 3
  · exact .inl rfl
  · cases h2 : inB y 0 30
    · exact .inr (.inl ⟨rfl, rfl⟩)
    · cases h3 : inB z 0 2
      · exact .inr (.inr (.inl ⟨rfl, rfl, rfl⟩))
      · rw [wrote, h1, h2, h3] at h
        simp only [Bool.true_and, Bool.or_eq_false_iff, decide_eq_false_iff_not] at h
        obtain ⟨h4, h5⟩ := h
        cases h6 : (x == 0)
        · exact .inr (.inr (.inr (.inl ⟨rfl, rfl, rfl, h4, rfl⟩)))
        · rw [h6, Bool.true_and] at h5
          exact .inr (.inr (.inr (.inr ⟨rfl, rfl, rfl, h4, rfl, h5⟩)))
set_option maxHeartbeats 8000000 in
theorem implValidCopy_calls (A B M : Option Addr) (U D : List Int) (K : List MarkD) (n1 n2 n3 c1 c2 c3 : Nat) (x y z : Int) (w : World) (hr : RowCpy w A B M U D K) (h1 : U.length = n1) (h2 : D.length = n2) (h3 : K.length = n3) (l1 : n1 ≤ 1048576) (l2 : n2 ≤ 1048576) (l3 : n3 ≤ 1048576) (b : Bool) (hb : copyB U D K x y z = b) :
    Calls Try.prog 14 #[copyArg A n1 c1 B n2 c2 x y z M n3 c3] w fun e w' => e = .returned (.bool b) ∧ Below w.heap.size w w' := by
  have HR := Lib.hid hr
  have HK := Lib.hid h3
  have HV := Lib.hid hb
  obtain ⟨bu, hbu⟩ : ∃ q, cnt U = q := ⟨_, rfl⟩
  obtain ⟨bd, hbd⟩ : ∃ q, cnt D = q := ⟨_, rfl⟩
  have HU := Lib.hid (fun (W : World) (hW : RowInts W A U) => areCounts_calls U n1 A c1 W hW h1 l1 bu hbu)
  have HD := Lib.hid (fun (W : World) (hW : RowInts W B D) => areCounts_calls D n2 B c2 W hW h2 l2 bd hbd)
  have HWI := Lib.hid (fun (n l h : Int) (q : Bool) (hq : inB n l h = q) (W : World) => hq ▸ within_calls n l h W)
  have HBU := Lib.hid hbu
  have HBD := Lib.hid hbd
  clear hr h1 h2 h3 hb hbu hbd
  have hlen : (n3 : Int) ≤ 1048576 := by omega
  go_enter Try.func14, Try.ntmps14
  go_wp2_with fail
  have k0 := CellBlk.new w #[.slice A n1 c1, .slice B n2 c2, .int .i64 x, .int .i64 y, .int .i64 z, .slice M n3 c3] 25 rfl
  have hB0 : Below w.heap.size w (w.alloc (.cells #[.slice A n1 c1, .slice B n2 c2, .int .i64 x, .int .i64 y, .int .i64 z, .slice M n3 c3] 25)) := below_alloc (Below.refl _ _) _
  generalize w.alloc (.cells #[.slice A n1 c1, .slice B n2 c2, .int .i64 x, .int .i64 y, .int .i64 z, .slice M n3 c3] 25) = W0 at *
  have HB0 := Lib.hid hB0
  have K0 := Lib.hid k0
  clear k0 hB0
  go_loopw [9] (fun i wr => ∃ k : Nat, k ≤ n3 ∧ i = .int .i64 k ∧ Below W0.heap.size W0 wr ∧ Hid ((List.range k).all (mrow K) = true)) (fun i _ => n3 - (intOf i).toNat)
  case atStart => exact ⟨0, by omega, rfl, Below.refl _ _, rfl⟩
  case round =>
    obtain ⟨k, hk, rfl, hb, HG⟩ := hrel
    have kb := K0.out.below hb
    have p0 := kb.cell (i := 0) rfl
    have p1 := kb.cell (i := 1) rfl
    have p2 := kb.cell (i := 2) rfl
    have p3 := kb.cell (i := 3) rfl
    have p4 := kb.cell (i := 4) rfl
    have p5 := kb.cell (i := 5) rfl
    have hxl := kb.lt
    have hrow := HR.out.below (HB0.out.trans (hb.mono HB0.out.size))
    have HRow := Lib.hid hrow
    have Hb := Lib.hid hb
    clear kb hb hrow
    by_cases hlt : k < n3
    · obtain ⟨b0, off, rfl, hat⟩ := HRow.out.mks (by have := HK.out; omega)
      obtain ⟨m, hm⟩ : ∃ m, K[k]? = some m := ⟨K[k]'(by have := HK.out; omega), List.getElem?_eq_getElem _⟩
      obtain ⟨x0, x1, x2, x3⟩ := RowMarks.at_ hat hm
      have hbz : b0 < wr.heap.size := World.block_lt_of_cell? _ _ x0
      obtain ⟨q, hq⟩ : ∃ q, markOk m = q := ⟨_, rfl⟩
      have HM := Lib.hid (fun (W : World) => isMark_calls m q hq W)
      have hrow : mrow K k = (q && (decide (k = 0) || lessM (kAt K (k - 1)) m)) := by rw [mrow, kAt_eq hm, hq]
      have HBad := Lib.hid (fun (e : mrow K k = false) => show b = false by rw [← HV.out]; exact copyB_row (by rw [HK.out]; exact hlt) e)
      have HOk := Lib.hid (fun (e : mrow K k = true) => show Hid ((List.range (k + 1)).all (mrow K) = true) by show _ = true; rw [all_range_succ, HG.out, e]; rfl)
      have Hrow := Lib.hid hrow
      have hk0 : (0 : Int) ≤ (k : Int) := by omega
      have hkn : (k : Int) < (n3 : Int) := by omega
      cases q
      · have e2 := HBad.out (by rw [Hrow.out]; rfl)
        subst e2
        clear hat hm hq hrow
        go_wp2_with fail
        refine wp_region_grow (by kernel_rfl) (by kernel_rfl) ?_
        repeat (go_big_quiet_step ((go_at_call 29; exact Calls.ext_of (Nat.le_refl _) (HM.out _))))
        refine wpQuiet_end ?_
        intro w3 hb3
        go_wp2_with fail
        go_ret
        exact ⟨rfl, HB0.out.trans (((below_alloc Hb.out _).trans (hb3.mono (by have := Hb.out.size; simp; omega))).mono HB0.out.size)⟩
      · rcases Nat.eq_zero_or_pos k with rfl | hkp
        · have Hq := HOk.out (by rw [Hrow.out]; rfl)
          simp only [Nat.zero_mul, Nat.add_zero] at x0 x1 x2 x3
          clear hat hm hq hrow
          go_wp2_with fail
          refine wp_region_grow (by kernel_rfl) (by kernel_rfl) ?_
          repeat (go_big_quiet_step ((go_at_call 29; exact Calls.ext_of (Nat.le_refl _) (HM.out _))))
          refine wpQuiet_end ?_
          intro w3 hb3
          go_wp2_with fail
          go_roundw
          case rel => exact ⟨1, by omega, by go_num, (below_alloc Hb.out _).trans (hb3.mono (by have := Hb.out.size; simp; omega)), Hq⟩
          case measure => simp [intOf]; omega
        · obtain ⟨j, rfl⟩ : ∃ j, k = j + 1 := ⟨k - 1, by omega⟩
          obtain ⟨o, ho⟩ : ∃ o, K[j]? = some o := ⟨K[j]'(by have := HK.out; omega), List.getElem?_eq_getElem _⟩
          obtain ⟨y0, y1, y2, y3⟩ := RowMarks.at_ hat ho
          have hless := cmpM_less o m
          have HC := Lib.hid (fun (W : World) => compareMarks_calls o m W)
          have hrow2 : mrow K (j + 1) = lessM o m := by rw [Hrow.out, Nat.add_sub_cancel, kAt_eq ho]; simp
          have Hrow2 := Lib.hid hrow2
          clear hat hm hq hrow hrow2 ho Hrow
          generalize cmpM o m = cv at *
          have hj1 : ((j + 1 : Nat) : Int) - 1 = (j : Int) := by omega
          have hjp : (0 : Int) < ((j + 1 : Nat) : Int) := by omega
          have hj0 : (0 : Int) ≤ (j : Int) := by omega
          have hjn : (j : Int) < (n3 : Int) := by omega
          by_cases hcv : 0 ≤ cv
          · have hl0 : lessM o m = false := by rw [decide_eq_true hcv] at hless; simpa using hless.symm
            have e2 := HBad.out (by rw [Hrow2.out]; exact hl0)
            subst e2
            clear hless hl0
            go_wp2_with fail
            refine wp_region_grow (by kernel_rfl) (by kernel_rfl) ?_
            repeat (go_big_quiet_step ((first | (go_at_call 29; exact Calls.ext_of (Nat.le_refl _) (HM.out _)) | (go_at_call 30; exact Calls.ext_of (Nat.le_refl _) (HC.out _)))))
            refine wpQuiet_end ?_
            intro w3 hb3
            go_wp2_with fail
            go_ret
            exact ⟨rfl, HB0.out.trans (((below_alloc Hb.out _).trans (hb3.mono (by have := Hb.out.size; simp; omega))).mono HB0.out.size)⟩
          · have hl0 : lessM o m = true := by rw [decide_eq_false hcv] at hless; simpa using hless.symm
            have Hq := HOk.out (by rw [Hrow2.out]; exact hl0)
            clear hless hl0
            go_wp2_with fail
            refine wp_region_grow (by kernel_rfl) (by kernel_rfl) ?_
            repeat (go_big_quiet_step ((first | (go_at_call 29; exact Calls.ext_of (Nat.le_refl _) (HM.out _)) | (go_at_call 30; exact Calls.ext_of (Nat.le_refl _) (HC.out _)))))
            refine wpQuiet_end ?_
            intro w3 hb3
            go_wp2_with fail
            go_roundw
            case rel => exact ⟨j + 1 + 1, by omega, by go_num, (below_alloc Hb.out _).trans (hb3.mono (by have := Hb.out.size; simp; omega)), Hq⟩
            case measure => simp [intOf]; omega
    · have e1 : k = n3 := by omega
      subst e1
      have hge : ¬ ((k : Int) < (k : Int)) := by omega
      have HE := Lib.hid (show b = (bu && bd && wrote x y z && decide (k ≤ 20)) by rw [← HV.out, copyB, HK.out, HG.out, HBU.out, HBD.out, Bool.true_and])
      have HZ := Lib.hid (HB0.out.trans (Hb.out.mono HB0.out.size))
      have hk20 : decide (k ≤ 20) = decide ((k : Int) ≤ 20) := by rw [decide_eq_decide]; omega
      have HE2 := Lib.hid (show b = (bu && bd && wrote x y z && decide ((k : Int) ≤ 20)) by rw [← hk20]; exact HE.out)
      clear HV HBU HBD hk20 HE HG
      rcases two_ways' bu bd with rfl | ⟨rfl, rfl⟩ | ⟨rfl, rfl⟩
      all_goals
        cases hw : wrote x y z
        · have e : b = false := by rw [HE2.out, hw]; simp
          subst e
          rcases wrote_noI hw with q1 | ⟨q1, q2⟩ | ⟨q1, q2, q3⟩ | ⟨q1, q2, q3, q4, q5⟩ | ⟨q1, q2, q3, q4, q5, q6⟩
          all_goals
            clear hw HE2
            go_wp2_with (first
              | (go_at_call 31; refine (HWI.out _ _ _ _ (by assumption) _).mono ?_; rintro e w' ⟨rfl, rfl⟩)
              | (go_at_call 32; with_reducible refine (HU.out _ HRow.out.up).mono ?_; rintro e w' ⟨rfl, rfl⟩)
              | (go_at_call 32; with_reducible refine (HD.out _ HRow.out.dn).mono ?_; rintro e w' ⟨rfl, rfl⟩))
            all_goals first
              | (exfalso; omega)
              | (go_ret; exact ⟨rfl, HZ.out⟩)
              | (go_wp2_with (first
              | (go_at_call 31; refine (HWI.out _ _ _ _ (by assumption) _).mono ?_; rintro e w' ⟨rfl, rfl⟩)
              | (go_at_call 32; with_reducible refine (HU.out _ HRow.out.up).mono ?_; rintro e w' ⟨rfl, rfl⟩)
              | (go_at_call 32; with_reducible refine (HD.out _ HRow.out.dn).mono ?_; rintro e w' ⟨rfl, rfl⟩))
                 go_ret
                 exact ⟨rfl, HZ.out⟩)
        · obtain ⟨q1, q2, q3, q4⟩ := wrote_waI hw
          have Hw := Lib.hid hw
          rcases q4 with ⟨q4, q5, q6⟩ | q4
          all_goals
            clear hw
            go_wp2_with (first
              | (go_at_call 31; refine (HWI.out _ _ _ _ (by assumption) _).mono ?_; rintro e w' ⟨rfl, rfl⟩)
              | (go_at_call 32; with_reducible refine (HU.out _ HRow.out.up).mono ?_; rintro e w' ⟨rfl, rfl⟩)
              | (go_at_call 32; with_reducible refine (HD.out _ HRow.out.dn).mono ?_; rintro e w' ⟨rfl, rfl⟩))
            all_goals first
              | (exfalso; omega)
              | (go_ret; exact ⟨by rw [HE2.out, Hw.out]; simp, HZ.out⟩)
              | (go_wp2_with (first
              | (go_at_call 31; refine (HWI.out _ _ _ _ (by assumption) _).mono ?_; rintro e w' ⟨rfl, rfl⟩)
              | (go_at_call 32; with_reducible refine (HU.out _ HRow.out.up).mono ?_; rintro e w' ⟨rfl, rfl⟩)
              | (go_at_call 32; with_reducible refine (HD.out _ HRow.out.dn).mono ?_; rintro e w' ⟨rfl, rfl⟩))
                 go_ret
                 exact ⟨by rw [HE2.out, Hw.out]; simp, HZ.out⟩)
end Go.Proofs.Ytkahhcpfkebgiaa
