/-
  What ValidCopy answers, of the reference. No condition but lengths of at most 2 to the 20.
-/
import Derived.Test.YtkahhcpfkebgiaaCpyP
import Derived.Test.YtkahhcpfkebgiaaCpyG
import Derived.BigGuardPart
namespace Go.Proofs.Ytkahhcpfkebgiaa
open Go.RowKit
set_option maxRecDepth 100000

theorem less_calls (a b : MarkD) (w : World) : Calls Try.prog 35 #[a.val, b.val] w fun e w' => e = .returned (.bool (lessM a b)) ∧ Below w.heap.size w w' := by
  by_cases h : a.proc = b.proc
  · have h' : (a.proc != b.proc) = false := by simp [h]
    have e : lessM a b = decide (a.number < b.number) := by rw [lessM, if_pos h]
    rw [e]
    go_enter Try.func35, Try.ntmps35
    go_wp2
    go_ret
    exact ⟨rfl, (by repeat (first | exact Below.refl _ _ | assumption | refine below_alloc ?_ _ | refine below_trans' ?_ (by assumption) | refine Below.drew ?_))⟩
  · have h' : (a.proc != b.proc) = true := by simp [h]
    have e : lessM a b = decide (a.proc < b.proc) := by rw [lessM, if_neg h]
    rw [e]
    go_enter Try.func35, Try.ntmps35
    go_wp2
    go_ret
    exact ⟨rfl, (by repeat (first | exact Below.refl _ _ | assumption | refine below_alloc ?_ _ | refine below_trans' ?_ (by assumption) | refine Below.drew ?_))⟩
theorem wrote_ways {x y z : Int} (h : wrote x y z = true) : inB x 0 3 = true ∧ inB y 0 30 = true ∧ inB z 0 2 = true ∧ (((y == 0) = true ∧ (x != 0) = false ∧ (z != 0) = false) ∨ (y == 0) = false) := by
  simp only [wrote, Bool.and_eq_true, Bool.or_eq_true, decide_eq_true_eq, beq_iff_eq] at h
  obtain ⟨⟨⟨h1, h2⟩, h3⟩, h4⟩ := h
  refine ⟨h1, h2, h3, ?_⟩
  rcases h4 with h4 | ⟨h4, h5⟩
  · exact .inr (by simp; omega)
  · by_cases hy : y = 0
    · exact .inl ⟨by simp [hy], by simp [h4], by simp [h5]⟩
    · exact .inr (by simpa using hy)
theorem wrote_not {x y z : Int} (h : wrote x y z = false) : inB x 0 3 = false ∨ (inB x 0 3 = true ∧ inB y 0 30 = false) ∨ (inB x 0 3 = true ∧ inB y 0 30 = true ∧ inB z 0 2 = false) ∨ (inB x 0 3 = true ∧ inB y 0 30 = true ∧ inB z 0 2 = true ∧ (y == 0) = true ∧ (x != 0) = true) ∨ (inB x 0 3 = true ∧ inB y 0 30 = true ∧ inB z 0 2 = true ∧ (y == 0) = true ∧ (x != 0) = false ∧ (z != 0) = true) := by
  cases h1 : inB x 0 3
  · exact .inl rfl
  · cases h2 : inB y 0 30
    · exact .inr (.inl ⟨rfl, rfl⟩)
    · cases h3 : inB z 0 2
      · exact .inr (.inr (.inl ⟨rfl, rfl, rfl⟩))
      · have hy : y = 0 := by
          simp only [inB, decide_eq_true_eq] at h2
          simp only [wrote, h1, h3, Bool.true_and, Bool.and_true, Bool.and_eq_false_iff, Bool.or_eq_false_iff, decide_eq_false_iff_not] at h
          rcases h with h | h
          · simp [inB, h2] at h
          · omega
        subst hy
        by_cases hx : x = 0
        · subst hx
          by_cases hz : z = 0
          · subst hz
            simp [wrote, inB] at h
          · exact .inr (.inr (.inr (.inr ⟨rfl, rfl, rfl, by simp, by simp, by simp [hz]⟩)))
        · exact .inr (.inr (.inr (.inl ⟨rfl, rfl, rfl, by simp, by simp [hx]⟩)))

set_option maxHeartbeats 8000000 in
theorem specvalidCopy_calls (A B M : Option Addr) (U D : List Int) (K : List MarkD) (n1 n2 n3 c1 c2 c3 : Nat) (x y z : Int) (w : World) (hr : RowCpy w A B M U D K) (h1 : U.length = n1) (h2 : D.length = n2) (h3 : K.length = n3) (l1 : n1 ≤ 1048576) (l2 : n2 ≤ 1048576) (l3 : n3 ≤ 1048576) (b : Bool) (hb : copyB U D K x y z = b) :
    Calls Try.prog 26 #[copyArg A n1 c1 B n2 c2 x y z M n3 c3] w fun e w' => e = .returned (.bool b) ∧ Below w.heap.size w w' := by
  have HWI := Lib.hid (fun (n l h : Int) (q : Bool) (hq : inB n l h = q) (W : World) => hq ▸ inRange_calls n l h W)
  have HR := Lib.hid hr
  have HK := Lib.hid h3
  have HUL := Lib.hid h1
  have HDL := Lib.hid h2
  have HV := Lib.hid hb
  have HE := Lib.hid (show b = ((List.range n3).all (mrow K) && (cnt U && cnt D && wrote x y z && decide (n3 ≤ 20))) by rw [← hb, copyB, h3])
  clear hr h3 hb
  have hlen : (n3 : Int) ≤ 1048576 := by omega
  by_cases hn1 : n1 = 3
  case neg =>
    have e : b = false := by rw [HE.out, show cnt U = false by rw [cnt, h1]; simp [hn1]]; simp
    subst e
    have hz1 : ((n1 : Int) != 3) = true := by simp; omega
    clear h1 h2
    go_enter Try.func26, Try.ntmps26
    go_wp2_with fail
    go_ret
    exact ⟨rfl, (by repeat (first | exact Below.refl _ _ | assumption | refine below_alloc ?_ _ | refine below_trans' ?_ (by assumption) | refine Below.drew ?_))⟩
  by_cases hn2 : n2 = 3
  case neg =>
    have e : b = false := by rw [HE.out, show cnt D = false by rw [cnt, h2]; simp [hn2]]; simp
    subst e
    subst hn1
    have hz1 : ((n2 : Int) != 3) = true := by simp; omega
    clear h1 h2
    go_enter Try.func26, Try.ntmps26
    go_wp2_with fail
    go_ret
    exact ⟨rfl, (by repeat (first | exact Below.refl _ _ | assumption | refine below_alloc ?_ _ | refine below_trans' ?_ (by assumption) | refine Below.drew ?_))⟩
  subst hn1 hn2
  clear h1 h2
  cases hw : wrote x y z
  · have e : b = false := by rw [HE.out, hw]; simp
    subst e
    rcases wrote_not hw with q1 | ⟨q1, q2⟩ | ⟨q1, q2, q3⟩ | ⟨q1, q2, q3, q4, q5⟩ | ⟨q1, q2, q3, q4, q5, q6⟩
    all_goals
      go_enter Try.func26, Try.ntmps26
      go_wp2_with (go_at_call 34; refine (HWI.out _ _ _ _ (by assumption) _).mono ?_; rintro e w' ⟨rfl, rfl⟩)
      go_ret
      exact ⟨rfl, (by repeat (first | exact Below.refl _ _ | assumption | refine below_alloc ?_ _ | refine below_trans' ?_ (by assumption) | refine Below.drew ?_))⟩
  · have HW := Lib.hid hw
    obtain ⟨q1, q2, q3, q4⟩ := wrote_ways hw
    clear hw
    rcases q4 with ⟨q4, q5, q6⟩ | q4
    all_goals
      go_enter Try.func26, Try.ntmps26
      go_wp2_with (go_at_call 34; refine (HWI.out _ _ _ _ (by assumption) _).mono ?_; rintro e w' ⟨rfl, rfl⟩)
      have k0 := CellBlk.new w #[.slice A 3 c1, .slice B 3 c2, .int .i64 x, .int .i64 y, .int .i64 z, .slice M n3 c3] 25 rfl
      have hB0 : Below w.heap.size w (w.alloc (.cells #[.slice A 3 c1, .slice B 3 c2, .int .i64 x, .int .i64 y, .int .i64 z, .slice M n3 c3] 25)) := below_alloc (Below.refl _ _) _
      generalize w.alloc (.cells #[.slice A 3 c1, .slice B 3 c2, .int .i64 x, .int .i64 y, .int .i64 z, .slice M n3 c3] 25) = W0 at *
      have HB0 := Lib.hid hB0
      have K0 := Lib.hid k0
      have p0 := k0.cell (i := 0) rfl
      have p1 := k0.cell (i := 1) rfl
      have hxl0 := k0.lt
      have hrw0 := HR.out.below hB0
      have HRow0 := Lib.hid hrw0
      clear k0 hB0 hrw0
      go_loop [3] (fun i => ∃ k : Nat, k ≤ 3 ∧ i = .int .i64 k ∧ Hid (∀ j, j < k → inB (U.getD j 0) 0 20 = true ∧ inB (D.getD j 0) 0 20 = true)) (fun i => 3 - (intOf i).toNat)
      case atStart => exact ⟨0, by omega, rfl, fun j hj => by omega⟩
      case round =>
        obtain ⟨k, hk, rfl, HG⟩ := hrel
        by_cases hlt : k < 3
        · obtain ⟨b1, o1, rfl, hat1⟩ := HRow0.out.up (by have := HUL.out; omega)
          obtain ⟨b2, o2, rfl, hat2⟩ := HRow0.out.dn (by have := HDL.out; omega)
          obtain ⟨u, hu⟩ : ∃ u, U[k]? = some u := ⟨U[k]'(by have := HUL.out; omega), List.getElem?_eq_getElem _⟩
          obtain ⟨d, hd⟩ : ∃ u, D[k]? = some u := ⟨D[k]'(by have := HDL.out; omega), List.getElem?_eq_getElem _⟩
          have r1 := RowInts.at_ hat1 hu
          have r2 := RowInts.at_ hat2 hd
          have HBad := Lib.hid (fun (h : inB u 0 20 = false ∨ inB d 0 20 = false) => show b = false by
            rw [HE.out]
            rcases h with h | h
            · have : cnt U = false := by
                cases hc : cnt U
                · rfl
                · obtain ⟨n, g1, g2, g3⟩ := cnt_at hc hlt
                  rw [hu] at g1; injection g1 with g1
                  subst g1
                  simp [inB] at h; omega
              rw [this]; simp
            · have : cnt D = false := by
                cases hc : cnt D
                · rfl
                · obtain ⟨n, g1, g2, g3⟩ := cnt_at hc hlt
                  rw [hd] at g1; injection g1 with g1
                  subst g1
                  simp [inB] at h; omega
              rw [this]; simp)
          have HOk := Lib.hid (fun (e1 : inB u 0 20 = true) (e2 : inB d 0 20 = true) => show Hid (∀ j, j < k + 1 → inB (U.getD j 0) 0 20 = true ∧ inB (D.getD j 0) 0 20 = true) from fun j hj => by
            by_cases e : j = k
            · subst e; rw [List.getD, hu, List.getD, hd]; exact ⟨e1, e2⟩
            · exact HG.out j (by omega))
          clear hat1 hat2 hu hd
          have hk0 : (0 : Int) ≤ (k : Int) := by omega
          have hk3 : (k : Int) < 3 := by omega
          cases g1 : inB u 0 20
          · have e := HBad.out (.inl g1)
            subst e
            go_wp2_with (go_at_call 34; refine (HWI.out _ _ _ _ (by assumption) _).mono ?_; rintro e w' ⟨rfl, rfl⟩)
            go_ret
            exact ⟨rfl, HB0.out⟩
          · cases g2 : inB d 0 20
            · have e := HBad.out (.inr g2)
              subst e
              go_wp2_with (go_at_call 34; refine (HWI.out _ _ _ _ (by assumption) _).mono ?_; rintro e w' ⟨rfl, rfl⟩)
              go_ret
              exact ⟨rfl, HB0.out⟩
            · have Hq := HOk.out g1 g2
              go_wp2_with (go_at_call 34; refine (HWI.out _ _ _ _ (by assumption) _).mono ?_; rintro e w' ⟨rfl, rfl⟩)
              go_round
              case rel => exact ⟨k + 1, by omega, by go_num, Hq⟩
              case measure => simp [intOf]; omega
        · have e1 : k = 3 := by omega
          subst e1
          have HC := Lib.hid (show b = ((List.range n3).all (mrow K) && decide (n3 ≤ 20)) by
            have a1 : ∀ L : List Int, L.length = 3 → (∀ j, j < 3 → inB (L.getD j 0) 0 20 = true) → cnt L = true := by
              intro L hL h
              match L, hL with
              | [a, b, c], _ =>
                have g0 := h 0 (by omega)
                have g1 := h 1 (by omega)
                have g2 := h 2 (by omega)
                simp at g0 g1 g2
                simp [cnt, g0, g1, g2]
            rw [HE.out, a1 U HUL.out (fun j hj => (HG.out j hj).1), a1 D HDL.out (fun j hj => (HG.out j hj).2), HW.out]
            simp)
          clear HG HE
          go_wp2_with fail
          go_loopw [4] (fun i wr => ∃ k : Nat, k ≤ n3 ∧ i = .int .i64 k ∧ Below W0.heap.size W0 wr ∧ Hid ((List.range k).all (mrow K) = true)) (fun i _ => n3 - (intOf i).toNat)
          case atStart => exact ⟨0, by omega, rfl, Below.refl _ _, rfl⟩
          case round =>
            obtain ⟨k, hk, rfl, hb, HG⟩ := hrel
            have kb := K0.out.below hb
            have p5 := kb.cell (i := 5) rfl
            have hxl := kb.lt
            have hrow := HR.out.below (HB0.out.trans (hb.mono HB0.out.size))
            have HRow := Lib.hid hrow
            have Hb := Lib.hid hb
            clear kb hb hrow p0 p1
            by_cases hlt : k < n3
            · obtain ⟨b0, off, rfl, hat⟩ := HRow.out.mks (by have := HK.out; omega)
              obtain ⟨m, hm⟩ : ∃ m, K[k]? = some m := ⟨K[k]'(by have := HK.out; omega), List.getElem?_eq_getElem _⟩
              obtain ⟨x0, x1, x2, x3⟩ := RowMarks.at_ hat hm
              have hbz : b0 < wr.heap.size := World.block_lt_of_cell? _ _ x0
              have hrow : mrow K k = (markOk m && (decide (k = 0) || lessM (kAt K (k - 1)) m)) := by rw [mrow, kAt_eq hm]
              have HBad := Lib.hid (fun (e : mrow K k = false) => show b = false by rw [← HV.out]; exact copyB_row (by rw [HK.out]; exact hlt) e)
              have HOk := Lib.hid (fun (e : mrow K k = true) => show Hid ((List.range (k + 1)).all (mrow K) = true) by show _ = true; rw [all_range_succ, HG.out, e]; rfl)
              have Hrow := Lib.hid hrow
              have hk0 : (0 : Int) ≤ (k : Int) := by omega
              have hkn : (k : Int) < (n3 : Int) := by omega
              have hways : inB m.value 0 3 = false ∨ (inB m.value 0 3 = true ∧ inB m.proc 0 2 = false) ∨ (inB m.value 0 3 = true ∧ inB m.proc 0 2 = true ∧ inB m.number 1 20 = false) ∨ (inB m.value 0 3 = true ∧ inB m.proc 0 2 = true ∧ inB m.number 1 20 = true) := by
                cases inB m.value 0 3 <;> cases inB m.proc 0 2 <;> cases inB m.number 1 20 <;> simp
              rcases hways with g1 | ⟨g1, g2⟩ | ⟨g1, g2, g3⟩ | ⟨g1, g2, g3⟩
              case inl | inr.inl | inr.inr.inl =>
                have e2 := HBad.out (by rw [Hrow.out, markOk]; simp [*])
                subst e2
                clear hat hm hrow
                go_wp2_with fail
                refine wp_region_grow (by kernel_rfl) (by kernel_rfl) ?_
                repeat (go_big_quiet_step ((go_at_call 34; exact Calls.ext_same (HWI.out _ _ _ _ (by assumption) _))))
                refine wpQuiet_end ?_
                intro w3 hb3
                go_wp2_with fail
                go_ret
                exact ⟨rfl, HB0.out.trans (((below_alloc Hb.out _).trans (hb3.mono (by have := Hb.out.size; simp; omega))).mono HB0.out.size)⟩
              case inr.inr.inr =>
                have hmk : markOk m = true := by rw [markOk, g1, g2, g3]; rfl
                rcases Nat.eq_zero_or_pos k with rfl | hkp
                · have Hq := HOk.out (by rw [Hrow.out, hmk]; rfl)
                  simp only [Nat.zero_mul, Nat.add_zero] at x0 x1 x2 x3
                  clear hat hm hrow hmk
                  go_wp2_with fail
                  refine wp_region_grow (by kernel_rfl) (by kernel_rfl) ?_
                  repeat (go_big_quiet_step ((go_at_call 34; exact Calls.ext_same (HWI.out _ _ _ _ (by assumption) _))))
                  refine wpQuiet_end ?_
                  intro w3 hb3
                  go_wp2_with fail
                  go_roundw
                  case rel => exact ⟨1, by omega, by go_num, (below_alloc Hb.out _).trans (hb3.mono (by have := Hb.out.size; simp; omega)), Hq⟩
                  case measure => simp [intOf]; omega
                · obtain ⟨j, rfl⟩ : ∃ j, k = j + 1 := ⟨k - 1, by omega⟩
                  obtain ⟨o, ho⟩ : ∃ o, K[j]? = some o := ⟨K[j]'(by have := HK.out; omega), List.getElem?_eq_getElem _⟩
                  obtain ⟨y0, y1, y2, y3⟩ := RowMarks.at_ hat ho
                  have hrow2 : mrow K (j + 1) = lessM o m := by rw [Hrow.out, hmk, Nat.add_sub_cancel, kAt_eq ho]; simp
                  have Hrow2 := Lib.hid hrow2
                  have HC2 := Lib.hid (fun (W : World) => less_calls o m W)
                  clear hat hm hrow hrow2 ho Hrow hmk
                  have hj1 : ((j + 1 : Nat) : Int) - 1 = (j : Int) := by omega
                  have hjp : (0 : Int) < ((j + 1 : Nat) : Int) := by omega
                  have hj0 : (0 : Int) ≤ (j : Int) := by omega
                  have hjn : (j : Int) < (n3 : Int) := by omega
                  cases hl0 : lessM o m
                  · rw [hl0] at HC2
                    have e2 := HBad.out (by rw [Hrow2.out]; exact hl0)
                    subst e2
                    clear hl0
                    go_wp2_with fail
                    refine wp_region_grow (by kernel_rfl) (by kernel_rfl) ?_
                    repeat (go_big_quiet_step ((first | (go_at_call 34; exact Calls.ext_same (HWI.out _ _ _ _ (by assumption) _)) | (go_at_call 35; exact Calls.ext_of (Nat.le_refl _) (HC2.out _)))))
                    refine wpQuiet_end ?_
                    intro w3 hb3
                    go_wp2_with fail
                    go_ret
                    exact ⟨rfl, HB0.out.trans (((below_alloc Hb.out _).trans (hb3.mono (by have := Hb.out.size; simp; omega))).mono HB0.out.size)⟩
                  · rw [hl0] at HC2
                    have Hq := HOk.out (by rw [Hrow2.out]; exact hl0)
                    clear hl0
                    go_wp2_with fail
                    refine wp_region_grow (by kernel_rfl) (by kernel_rfl) ?_
                    repeat (go_big_quiet_step ((first | (go_at_call 34; exact Calls.ext_same (HWI.out _ _ _ _ (by assumption) _)) | (go_at_call 35; exact Calls.ext_of (Nat.le_refl _) (HC2.out _)))))
                    refine wpQuiet_end ?_
                    intro w3 hb3
                    go_wp2_with fail
                    go_roundw
                    case rel => exact ⟨j + 1 + 1, by omega, by go_num, (below_alloc Hb.out _).trans (hb3.mono (by have := Hb.out.size; simp; omega)), Hq⟩
                    case measure => simp [intOf]; omega
            · have e1 : k = n3 := by omega
              subst e1
              have hge : ¬ ((k : Int) < (k : Int)) := by omega
              have hk20 : decide (k ≤ 20) = decide ((k : Int) ≤ 20) := by rw [decide_eq_decide]; omega
              go_wp2_with fail
              go_ret
              exact ⟨by rw [HC.out, HG.out, hk20]; rfl, HB0.out.trans (Hb.out.mono HB0.out.size)⟩
end Go.Proofs.Ytkahhcpfkebgiaa
