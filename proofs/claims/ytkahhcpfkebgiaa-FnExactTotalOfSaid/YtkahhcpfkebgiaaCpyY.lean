/-
  What ValidCopy answers, of the reference, and TotalOf, of the program and of the reference. No condition but lengths of at most 2 to the 20.
-/
import Derived.Test.YtkahhcpfkebgiaaCpyW
import Derived.Test.YtkahhcpfkebgiaaCpyX
namespace Go.Proofs.Ytkahhcpfkebgiaa
open Go.RowKit
set_option maxRecDepth 100000

set_option maxHeartbeats 1000000 in
theorem specValidCopy_calls (A B M : Option Addr) (U D : List Int) (K : List MarkD) (n1 n2 n3 c1 c2 c3 : Nat) (x y z : Int) (w : World) (hr : RowCpy w A B M U D K) (h1 : U.length = n1) (h2 : D.length = n2) (h3 : K.length = n3) (l1 : n1 ≤ 1048576) (l2 : n2 ≤ 1048576) (l3 : n3 ≤ 1048576) (b : Bool) (hb : copyB U D K x y z = b) :
    Calls Try.prog 12 #[copyArg A n1 c1 B n2 c2 x y z M n3 c3] w fun e w' => e = .returned (.bool b) ∧ Below w.heap.size w w' := by
  have HC := Lib.hid (fun (W : World) (hW : RowCpy W A B M U D K) => specvalidCopy_calls A B M U D K n1 n2 n3 c1 c2 c3 x y z W hW h1 h2 h3 l1 l2 l3 b hb)
  have HR := Lib.hid hr
  clear hr h1 h2 h3 hb
  go_enter Try.func12, Try.ntmps12
  go_wp2_with fail
  refine (HC.out _ (HR.out.below (below_alloc (Below.refl _ _) _))).mono ?_
  rintro e w1 ⟨rfl, hb1⟩
  go_wp2_with fail
  go_ret
  exact ⟨rfl, (by repeat (first | exact Below.refl _ _ | assumption | refine below_alloc ?_ _ | refine below_trans' ?_ (by assumption) | refine Below.drew ?_))⟩

theorem total_step (U D : List Int) {u d : Int} {k : Nat} (hu : U[k]? = some u) (hd : D[k]? = some d) : totalI U D (k + 1) = totalI U D k + (u - d) := by
  rw [totalI, List.getD, List.getD, hu, hd]; rfl
theorem copy_good {U D : List Int} {K : List MarkD} {x y z : Int} (h : copyB U D K x y z = true) : cnt U = true ∧ cnt D = true ∧ U.length = 3 ∧ D.length = 3 := by
  rw [copyB] at h
  simp only [Bool.and_eq_true] at h
  obtain ⟨_, ⟨⟨h1, h2⟩, _⟩, _⟩ := h
  refine ⟨h1, h2, ?_, ?_⟩
  · rw [cnt, Bool.and_eq_true, decide_eq_true_eq] at h1; exact h1.1
  · rw [cnt, Bool.and_eq_true, decide_eq_true_eq] at h2; exact h2.1

set_option maxHeartbeats 2000000 in
theorem implTotalOf_calls (A B M : Option Addr) (U D : List Int) (K : List MarkD) (n1 n2 n3 c1 c2 c3 : Nat) (x y z : Int) (w : World) (hr : RowCpy w A B M U D K) (h1 : U.length = n1) (h2 : D.length = n2) (h3 : K.length = n3) (l1 : n1 ≤ 1048576) (l2 : n2 ≤ 1048576) (l3 : n3 ≤ 1048576) (v : Int) (hv : totalV U D K x y z = v) :
    Calls Try.prog 16 #[copyArg A n1 c1 B n2 c2 x y z M n3 c3] w fun e w' => e = .returned (.int .i64 v) ∧ Below w.heap.size w w' := by
  obtain ⟨b, hb⟩ : ∃ b, copyB U D K x y z = b := ⟨_, rfl⟩
  have HC := Lib.hid (fun (W : World) (hW : RowCpy W A B M U D K) => implValidCopy_calls A B M U D K n1 n2 n3 c1 c2 c3 x y z W hW h1 h2 h3 l1 l2 l3 b hb)
  have HR := Lib.hid hr
  cases b
  · have e : v = 0 := by rw [← hv, totalV, hb]; rfl
    subst e
    clear hr h1 h2 h3 hb hv
    go_enter Try.func16, Try.ntmps16
    go_wp2_with fail
    refine (HC.out _ (HR.out.below (below_alloc (Below.refl _ _) _))).mono ?_
    rintro e w1 ⟨rfl, hb1⟩
    go_wp2_with fail
    go_ret
    exact ⟨rfl, (by repeat (first | exact Below.refl _ _ | assumption | refine below_alloc ?_ _ | refine below_trans' ?_ (by assumption) | refine Below.drew ?_))⟩
  · obtain ⟨g1, g2, g3, g4⟩ := copy_good hb
    have HV := Lib.hid (show totalI U D 3 = v by rw [← hv, totalV, hb]; rfl)
    have HBD := Lib.hid (totalI_bd g1 g2)
    have HU := Lib.hid g3
    have HD := Lib.hid g4
    have HG := Lib.hid (show ∀ k, k < 3 → ∃ u d, U[k]? = some u ∧ D[k]? = some d ∧ 0 ≤ u ∧ u ≤ 20 ∧ 0 ≤ d ∧ d ≤ 20 from fun k hk => by
      obtain ⟨u, a1, a2, a3⟩ := cnt_at g1 hk
      obtain ⟨d, b1, b2, b3⟩ := cnt_at g2 hk
      exact ⟨u, d, a1, b1, a2, a3, b2, b3⟩)
    obtain rfl : n1 = 3 := by omega
    obtain rfl : n2 = 3 := by omega
    clear hr h1 h2 h3 hb hv g1 g2 g3 g4
    go_enter Try.func16, Try.ntmps16
    go_wp2_with fail
    have k0 := CellBlk.new w #[.slice A 3 c1, .slice B 3 c2, .int .i64 x, .int .i64 y, .int .i64 z, .slice M n3 c3] 25 rfl
    have hB0 : Below w.heap.size w (w.alloc (.cells #[.slice A 3 c1, .slice B 3 c2, .int .i64 x, .int .i64 y, .int .i64 z, .slice M n3 c3] 25)) := below_alloc (Below.refl _ _) _
    generalize w.alloc (.cells #[.slice A 3 c1, .slice B 3 c2, .int .i64 x, .int .i64 y, .int .i64 z, .slice M n3 c3] 25) = W0 at *
    have HB0 := Lib.hid hB0
    have K0 := Lib.hid k0
    clear k0 hB0
    refine (HC.out _ (HR.out.below HB0.out)).mono ?_
    rintro e w1 ⟨rfl, hb1⟩
    have HB1 := Lib.hid hb1
    clear hb1
    go_wp2_with fail
    go_loopw [3, 9] (fun s i wr => ∃ k : Nat, k ≤ 3 ∧ i = .int .i64 k ∧ s = .int .i64 (totalI U D k) ∧ Below W0.heap.size W0 wr) (fun _ i _ => 3 - (intOf i).toNat)
    case atStart => exact ⟨0, by omega, rfl, rfl, HB1.out⟩
    case round =>
      clear HB1
      obtain ⟨k, hk, rfl, rfl, hb⟩ := hrel
      have Hb := Lib.hid hb
      by_cases hlt : k < 3
      · have kb := K0.out.below hb
        have p0 := kb.cell (i := 0) rfl
        have p1 := kb.cell (i := 1) rfl
        have hxl := kb.lt
        have hrow := HR.out.below (HB0.out.trans (hb.mono HB0.out.size))
        obtain ⟨b1, o1, rfl, hat1⟩ := hrow.up (by have := HU.out; omega)
        obtain ⟨b2, o2, rfl, hat2⟩ := hrow.dn (by have := HD.out; omega)
        obtain ⟨u, d, hu, hd, q1, q2, q3, q4⟩ := HG.out k hlt
        have r1 := RowInts.at_ hat1 hu
        have r2 := RowInts.at_ hat2 hd
        have hbd := HBD.out k hk
        have hz1 : b1 < wr.heap.size := World.block_lt_of_cell? _ _ r1
        have hz2 : b2 < wr.heap.size := World.block_lt_of_cell? _ _ r2
        have Hst := Lib.hid (total_step U D hu hd)
        have hk0 : (0 : Int) ≤ (k : Int) := by omega
        have hk3 : (k : Int) < 3 := by omega
        clear kb hb hrow hat1 hat2 hu hd HG HC
        generalize totalI U D k = s at *
        have hs0 : -60 ≤ s := by omega
        have hs1 : s ≤ 60 := by omega
        clear hbd
        go_wp2_with fail
        refine wp_region_grow (by kernel_rfl) (by kernel_rfl) ?_
        repeat (go_big_quiet_step ((fail)))
        refine wpQuiet_end ?_
        intro w3 hb3
        have Hb3 := Lib.hid (Hb.out.trans (hb3.mono (by have := Hb.out.size; simp; omega)))
        go_wp2_with fail
        go_roundw
        case rel =>
          refine ⟨k + 1, by omega, by go_num, ?_, Hb3.out⟩
          rw [Hst.out]
        case measure => simp [intOf]; omega
      · have e1 : k = 3 := by omega
        subst e1
        have e2 := HV.out
        clear hb
        subst e2
        go_wp2
        go_ret
        exact ⟨rfl, HB0.out.trans (Hb.out.mono HB0.out.size)⟩

set_option maxHeartbeats 2000000 in
theorem specTotalOf_calls (A B M : Option Addr) (U D : List Int) (K : List MarkD) (n1 n2 n3 c1 c2 c3 : Nat) (x y z : Int) (w : World) (hr : RowCpy w A B M U D K) (h1 : U.length = n1) (h2 : D.length = n2) (h3 : K.length = n3) (l1 : n1 ≤ 1048576) (l2 : n2 ≤ 1048576) (l3 : n3 ≤ 1048576) (v : Int) (hv : totalV U D K x y z = v) :
    Calls Try.prog 15 #[copyArg A n1 c1 B n2 c2 x y z M n3 c3] w fun e w' => e = .returned (.int .i64 v) ∧ Below w.heap.size w w' := by
  obtain ⟨b, hb⟩ : ∃ b, copyB U D K x y z = b := ⟨_, rfl⟩
  have HC := Lib.hid (fun (W : World) (hW : RowCpy W A B M U D K) => specvalidCopy_calls A B M U D K n1 n2 n3 c1 c2 c3 x y z W hW h1 h2 h3 l1 l2 l3 b hb)
  have HR := Lib.hid hr
  cases b
  · have e : v = 0 := by rw [← hv, totalV, hb]; rfl
    subst e
    clear hr h1 h2 h3 hb hv
    go_enter Try.func15, Try.ntmps15
    go_wp2_with fail
    refine (HC.out _ (HR.out.below (below_alloc (Below.refl _ _) _))).mono ?_
    rintro e w1 ⟨rfl, hb1⟩
    go_wp2_with fail
    go_ret
    exact ⟨rfl, (by repeat (first | exact Below.refl _ _ | assumption | refine below_alloc ?_ _ | refine below_trans' ?_ (by assumption) | refine Below.drew ?_))⟩
  · obtain ⟨g1, g2, g3, g4⟩ := copy_good hb
    have HV := Lib.hid (show totalI U D 3 = v by rw [← hv, totalV, hb]; rfl)
    have HBD := Lib.hid (totalI_bd g1 g2)
    have HU := Lib.hid g3
    have HD := Lib.hid g4
    have HG := Lib.hid (show ∀ k, k < 3 → ∃ u d, U[k]? = some u ∧ D[k]? = some d ∧ 0 ≤ u ∧ u ≤ 20 ∧ 0 ≤ d ∧ d ≤ 20 from fun k hk => by
      obtain ⟨u, a1, a2, a3⟩ := cnt_at g1 hk
      obtain ⟨d, b1, b2, b3⟩ := cnt_at g2 hk
      exact ⟨u, d, a1, b1, a2, a3, b2, b3⟩)
    obtain rfl : n1 = 3 := by omega
    obtain rfl : n2 = 3 := by omega
    clear hr h1 h2 h3 hb hv g1 g2 g3 g4
    go_enter Try.func15, Try.ntmps15
    go_wp2_with fail
    have k0 := CellBlk.new w #[.slice A 3 c1, .slice B 3 c2, .int .i64 x, .int .i64 y, .int .i64 z, .slice M n3 c3] 25 rfl
    have hB0 : Below w.heap.size w (w.alloc (.cells #[.slice A 3 c1, .slice B 3 c2, .int .i64 x, .int .i64 y, .int .i64 z, .slice M n3 c3] 25)) := below_alloc (Below.refl _ _) _
    generalize w.alloc (.cells #[.slice A 3 c1, .slice B 3 c2, .int .i64 x, .int .i64 y, .int .i64 z, .slice M n3 c3] 25) = W0 at *
    have HB0 := Lib.hid hB0
    have K0 := Lib.hid k0
    clear k0 hB0
    refine (HC.out _ (HR.out.below HB0.out)).mono ?_
    rintro e w1 ⟨rfl, hb1⟩
    have HB1 := Lib.hid hb1
    clear hb1
    go_wp2_with fail
    go_loopw [3, 4] (fun s i wr => ∃ k : Nat, k ≤ 3 ∧ i = .int .i64 k ∧ s = .int .i64 (totalI U D k) ∧ Below W0.heap.size W0 wr) (fun _ i _ => 3 - (intOf i).toNat)
    case atStart => exact ⟨0, by omega, rfl, rfl, HB1.out⟩
    case round =>
      clear HB1
      obtain ⟨k, hk, rfl, rfl, hb⟩ := hrel
      have Hb := Lib.hid hb
      by_cases hlt : k < 3
      · have kb := K0.out.below hb
        have p0 := kb.cell (i := 0) rfl
        have p1 := kb.cell (i := 1) rfl
        have hxl := kb.lt
        have hrow := HR.out.below (HB0.out.trans (hb.mono HB0.out.size))
        obtain ⟨b1, o1, rfl, hat1⟩ := hrow.up (by have := HU.out; omega)
        obtain ⟨b2, o2, rfl, hat2⟩ := hrow.dn (by have := HD.out; omega)
        obtain ⟨u, d, hu, hd, q1, q2, q3, q4⟩ := HG.out k hlt
        have r1 := RowInts.at_ hat1 hu
        have r2 := RowInts.at_ hat2 hd
        have hbd := HBD.out k hk
        have hz1 : b1 < wr.heap.size := World.block_lt_of_cell? _ _ r1
        have hz2 : b2 < wr.heap.size := World.block_lt_of_cell? _ _ r2
        have Hst := Lib.hid (total_step U D hu hd)
        have hk0 : (0 : Int) ≤ (k : Int) := by omega
        have hk3 : (k : Int) < 3 := by omega
        clear kb hb hrow hat1 hat2 hu hd HG HC
        generalize totalI U D k = s at *
        have hs0 : -60 ≤ s := by omega
        have hs1 : s ≤ 60 := by omega
        clear hbd
        go_wp2_with fail
        refine wp_region_grow (by kernel_rfl) (by kernel_rfl) ?_
        repeat (go_big_quiet_step ((fail)))
        refine wpQuiet_end ?_
        intro w3 hb3
        have Hb3 := Lib.hid (Hb.out.trans (hb3.mono (by have := Hb.out.size; simp; omega)))
        go_wp2_with fail
        go_roundw
        case rel =>
          refine ⟨k + 1, by omega, by go_num, ?_, Hb3.out⟩
          rw [Hst.out]
          rw [show s + (u - d) = s + u - d by omega]
        case measure => simp [intOf]; omega
      · have e1 : k = 3 := by omega
        subst e1
        have e2 := HV.out
        clear hb
        subst e2
        go_wp2
        go_ret
        exact ⟨rfl, HB0.out.trans (Hb.out.mono HB0.out.size)⟩

end Go.Proofs.Ytkahhcpfkebgiaa
