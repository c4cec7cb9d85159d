/-
  The walk of the law that TotalOf answers as the reference does: it returns true. Asked: what the three slices hold.
-/
import Derived.Test.YtkahhcpfkebgiaaCpyY
import Derived.Test.YtkahhcpfkebgiaaHeldT
namespace Go.Proofs.Ytkahhcpfkebgiaa
open Go.RowKit
set_option maxRecDepth 100000

set_option maxHeartbeats 2000000 in
theorem walk_FnExactTotalOf (A B M : Option Addr) (U D : List Int) (K : List MarkD) (n1 n2 n3 c1 c2 c3 : Nat) (x y z : Int) (w : World) (hr : RowCpy w A B M U D K) (h1 : U.length = n1) (h2 : D.length = n2) (h3 : K.length = n3) (m1 : n1 ≤ maxLen) (m2 : n2 ≤ maxLen) (m3 : n3 ≤ maxLen) :
    Calls Try.prog 5 #[copyArg A n1 c1 B n2 c2 x y z M n3 c3] w fun e w' => e = .returned (.bool true) ∧ Below w.heap.size w w' := by
  by_cases hbig : 1048576 < n1 + n2 + n3
  · have HZ := Lib.hid (fun (W : World) => szCopy_over A n1 c1 B n2 c2 x y z M n3 c3 W hbig m1 m2 m3)
    clear hr h1 h2 h3 m1 m2 m3 hbig
    go_enter Try.func5, Try.ntmps5
    go_wp2_with fail
    refine (HZ.out _).mono ?_
    rintro e w1 ⟨rfl, hb1⟩
    go_wp2_with fail
    go_ret
    exact ⟨rfl, (by repeat (first | exact Below.refl _ _ | assumption | refine below_alloc ?_ _ | refine below_trans' ?_ (by assumption) | refine Below.drew ?_))⟩
  have l1 : n1 ≤ 1048576 := by omega
  have l2 : n2 ≤ 1048576 := by omega
  have l3 : n3 ≤ 1048576 := by omega
  have HZ := Lib.hid (fun (W : World) => szCopy_fits A n1 c1 B n2 c2 x y z M n3 c3 W (by omega))
  have hfit : ¬ ((1048576 : Int) - n1 - n2 - n3 < 0) := by omega
  obtain ⟨v, hv⟩ : ∃ v, totalV U D K x y z = v := ⟨_, rfl⟩
  have HT := Lib.hid (fun (W : World) (hW : RowCpy W A B M U D K) => toCopy_calls A B M U D K n1 n2 n3 c1 c2 c3 x y z W hW h1 h2 h3 l1 l2 l3)
  have HS := Lib.hid (fun (A' B' M' : Option Addr) (d1 d2 d3 : Nat) (W : World) (hW : RowCpy W A' B' M' U D K) => specTotalOf_calls A' B' M' U D K n1 n2 n3 d1 d2 d3 x y z W hW h1 h2 h3 l1 l2 l3 v hv)
  have HI := Lib.hid (fun (A' B' M' : Option Addr) (d1 d2 d3 : Nat) (W : World) (hW : RowCpy W A' B' M' U D K) => implTotalOf_calls A' B' M' U D K n1 n2 n3 d1 d2 d3 x y z W hW h1 h2 h3 l1 l2 l3 v hv)
  have HE := Lib.hid (fun (A1 B1 M1 A2 B2 M2 : Option Addr) (d1 d2 d3 e1 e2 e3 : Nat) (W : World) (ha : RowCpy W A1 B1 M1 U D K) (hb : RowCpy W A2 B2 M2 U D K) => eqCopy_same A1 B1 M1 A2 B2 M2 U D K n1 n2 n3 d1 d2 d3 e1 e2 e3 x y z W ha hb h1 h2 h3 l1 l2 l3)
  have HR := Lib.hid hr
  have hne : (v != v) = false := by simp
  have Hne := Lib.hid hne
  clear hr h1 h2 h3 m1 m2 m3 hbig hv l1 l2 l3 hne
  go_enter Try.func5, Try.ntmps5
  go_wp2_with fail
  have k0 := CellBlk.new w #[.slice A n1 c1, .slice B n2 c2, .int .i64 x, .int .i64 y, .int .i64 z, .slice M n3 c3] 32 rfl
  have hB0 : Below w.heap.size w (w.alloc (.cells #[.slice A n1 c1, .slice B n2 c2, .int .i64 x, .int .i64 y, .int .i64 z, .slice M n3 c3] 32)) := below_alloc (Below.refl _ _) _
  generalize w.alloc (.cells #[.slice A n1 c1, .slice B n2 c2, .int .i64 x, .int .i64 y, .int .i64 z, .slice M n3 c3] 32) = W0 at *
  have HB0 := Lib.hid hB0
  have K0 := Lib.hid k0
  have HRW := Lib.hid (fun (W : World) (hW : Below W0.heap.size W0 W) => HR.out.below (hB0.trans (hW.mono hB0.size)))
  clear k0 hB0
  refine (HZ.out _).mono ?_
  rintro e w1 ⟨rfl, hb1⟩
  have HB1 := Lib.hid hb1
  have k1 := K0.out.below hb1
  have p0 := k1.cell (i := 0) rfl
  have p1 := k1.cell (i := 1) rfl
  have p2 := k1.cell (i := 2) rfl
  have p3 := k1.cell (i := 3) rfl
  have p4 := k1.cell (i := 4) rfl
  have p5 := k1.cell (i := 5) rfl
  have hxl := k1.lt
  clear k1 hb1
  go_wp2_with fail
  refine (HT.out _ (HRW.out _ HB1.out)).mono ?_
  rintro e w2 ⟨ga, gb, gm, rfl, hrow2, hb2⟩
  clear p0 p1 p2 p3 p4 p5 hxl
  go_wp2_with fail
  refine (HS.out _ _ _ _ _ _ _ hrow2).mono ?_
  rintro e w3 ⟨rfl, hb3⟩
  have HB3 := Lib.hid (below_trans' (below_trans' HB1.out hb2) hb3)
  have k1 := K0.out.below HB3.out
  have p0 := k1.cell (i := 0) rfl
  have p1 := k1.cell (i := 1) rfl
  have p2 := k1.cell (i := 2) rfl
  have p3 := k1.cell (i := 3) rfl
  have p4 := k1.cell (i := 4) rfl
  have p5 := k1.cell (i := 5) rfl
  have hxl := k1.lt
  clear k1 hb2 hb3 hrow2 HS
  go_wp2_with fail
  refine (HT.out _ (HRW.out _ HB3.out)).mono ?_
  rintro e w4 ⟨ga4, gb4, gm4, rfl, hrow4, hb4⟩
  clear p0 p1 p2 p3 p4 p5 hxl
  have HB4 := Lib.hid (below_trans' HB3.out hb4)
  have HR4 := Lib.hid hrow4
  clear hb4 hrow4
  go_wp2_with fail
  have k5 := CellBlk.new w4 #[.slice (some ⟨ga4, 0, none⟩) n1 n1, .slice (some ⟨gb4, 0, none⟩) n2 n2, .int .i64 x, .int .i64 y, .int .i64 z, .slice (some ⟨gm4, 0, none⟩) n3 n3] 25 rfl
  have hB5 : Below w4.heap.size w4 (w4.alloc (.cells #[.slice (some ⟨ga4, 0, none⟩) n1 n1, .slice (some ⟨gb4, 0, none⟩) n2 n2, .int .i64 x, .int .i64 y, .int .i64 z, .slice (some ⟨gm4, 0, none⟩) n3 n3] 25)) := below_alloc (Below.refl _ _) _
  generalize w4.alloc (.cells #[.slice (some ⟨ga4, 0, none⟩) n1 n1, .slice (some ⟨gb4, 0, none⟩) n2 n2, .int .i64 x, .int .i64 y, .int .i64 z, .slice (some ⟨gm4, 0, none⟩) n3 n3] 25) = W5 at *
  have HB5 := Lib.hid hB5
  have K5 := Lib.hid k5
  clear k5 hB5
  refine (HI.out _ _ _ _ _ _ _ (HR4.out.below HB5.out)).mono ?_
  rintro e w6 ⟨rfl, hb6⟩
  have HB6 := Lib.hid (below_trans' (below_trans' HB4.out HB5.out) hb6)
  have K06 := Lib.hid (K0.out.below HB6.out)
  have K56 := Lib.hid (K5.out.below hb6)
  have HR6 := Lib.hid ((HR4.out.below HB5.out).below hb6)
  clear hb6 HI
  have hne := Hne.out
  go_wp2_with fail
  refine tailed_start 3 (fun w' => Below w6.heap.size w6 w') (by kernel_rfl) ?_ (fun hHeld => ?_)
  · exact (Below.refl _ _).drew
  refine Tailed.take (i := 0) (v := ?hv1) rfl (by kernel_rfl) (by kernel_rfl) (by kernel_rfl) (by kernel_rfl) (by kernel_rfl) (by kernel_rfl) (fun _ _ _ h => h) (by assumption) (Or.inl ⟨by rfl, ?hy1⟩) ?hr1
  case hy1 => (intro w' hSw; (try dsimp only at hSw); (have kA := K06.out.below hSw; have kB := K56.out.below hSw; have a0 := kA.cell (i := 0) rfl; have b0 := kB.cell (i := 0) rfl; have a1 := kA.cell (i := 1) rfl; have b1 := kB.cell (i := 1) rfl; have a2 := kA.cell (i := 2) rfl; have b2 := kB.cell (i := 2) rfl; have a3 := kA.cell (i := 3) rfl; have b3 := kB.cell (i := 3) rfl; have a4 := kA.cell (i := 4) rfl; have b4 := kB.cell (i := 4) rfl; have a5 := kA.cell (i := 5) rfl; have b5 := kB.cell (i := 5) rfl; have hlA := kA.lt; have hlB := kB.lt; clear kA kB; go_simp); try with_reducible rfl)
  (try simp only [Act.put, List.getElem_toArray, List.getElem_cons_zero, List.getElem_cons_succ, List.setIfInBounds_toArray, List.set_cons_zero, List.set_cons_succ])
  refine Tailed.take (i := 1) (v := ?hv2) rfl (by kernel_rfl) (by kernel_rfl) (by kernel_rfl) (by kernel_rfl) (by kernel_rfl) (by kernel_rfl) (fun _ _ _ h => h) (by assumption) (Or.inl ⟨by rfl, ?hy2⟩) ?hr2
  case hy2 => (intro w' hSw; (try dsimp only at hSw); (have kA := K06.out.below hSw; have kB := K56.out.below hSw; have a0 := kA.cell (i := 0) rfl; have b0 := kB.cell (i := 0) rfl; have a1 := kA.cell (i := 1) rfl; have b1 := kB.cell (i := 1) rfl; have a2 := kA.cell (i := 2) rfl; have b2 := kB.cell (i := 2) rfl; have a3 := kA.cell (i := 3) rfl; have b3 := kB.cell (i := 3) rfl; have a4 := kA.cell (i := 4) rfl; have b4 := kB.cell (i := 4) rfl; have a5 := kA.cell (i := 5) rfl; have b5 := kB.cell (i := 5) rfl; have hlA := kA.lt; have hlB := kB.lt; clear kA kB; go_simp); try with_reducible rfl)
  (try simp only [Act.put, List.getElem_toArray, List.getElem_cons_zero, List.getElem_cons_succ, List.setIfInBounds_toArray, List.set_cons_zero, List.set_cons_succ])
  refine Tailed.ways (rs := [2]) (by kernel_rfl) (by simp) ?_
  refine TailedAll.cons rfl (fun K hK => ?_) ?_
  · skip
    go_simp
    go_at_call 13
    refine (HT.out _ (HRW.out _ HB6.out.drew)).mono ?_
    rintro e w7 ⟨ga7, gb7, gm7, rfl, hrow7, hb7d⟩
    have hb7 : Below w6.heap.size w6 w7 := below_trans' (Below.refl _ w6).drew hb7d
    go_wp2_with fail
    refine hK.out _ _ ?_ (fun hHeld => ?_)
    · first | exact hb7 | exact below_trans' hHeld hb7 | assumption
    clear hK K
    (try simp only [Act.put, List.getElem_toArray, List.getElem_cons_zero, List.getElem_cons_succ, List.setIfInBounds_toArray, List.set_cons_zero, List.set_cons_succ])
    refine Tailed.ways (rs := [3]) (by kernel_rfl) (by simp) ?_
    refine TailedAll.tail rfl (by kernel_rfl) (fun K hK => ?_) ?_
    · skip
      go_simp
      go_at_call 8
      refine (HE.out _ _ _ _ _ _ _ _ _ _ _ _ _ (HR6.out.below hb7) hrow7).mono ?_
      rintro e w8 ⟨rfl, hb8⟩
      go_wp2_with fail
      refine hK.out _ _ ?_
      clear hK K
      (try simp only [Act.put, List.getElem_toArray, List.getElem_cons_zero, List.getElem_cons_succ, List.setIfInBounds_toArray, List.set_cons_zero, List.set_cons_succ])
      refine Tailed.ways (rs := [4]) (by kernel_rfl) (by simp) ?_
      refine TailedAll.tail rfl (by kernel_rfl) (fun K hK => ?_) ?_
      · skip
        go_simp
        refine hK.out _ _ ?_
        clear hK K
        (try simp only [Act.put, List.getElem_toArray, List.getElem_cons_zero, List.getElem_cons_succ, List.setIfInBounds_toArray, List.set_cons_zero, List.set_cons_succ])
        refine Tailed.done (by kernel_rfl) ?_
        go_wp2_with fail
        go_ret
        exact ⟨rfl, HB0.out.trans ((below_trans' (below_trans' HB6.out hb7) hb8).mono HB0.out.size)⟩
      exact TailedAll.nil
    exact TailedAll.nil
  exact TailedAll.nil
end Go.Proofs.Ytkahhcpfkebgiaa
