/-
  What the law package's copy of a copy and equality of copies do. No condition but lengths of at most 2 to the 20.
-/
import Derived.Test.YtkahhcpfkebgiaaCpyZ
import Derived.Test.YtkahhcpfkebgiaaIntM
import Derived.Test.YtkahhcpfkebgiaaCpyM
import Derived.Test.YtkahhcpfkebgiaaFar
namespace Go.Proofs.Ytkahhcpfkebgiaa
open Go.RowKit
set_option maxRecDepth 100000

theorem sz_ints : (Try.prog.info? 22).map (·.size) = some 1 := by kernel_rfl
theorem sz_marks : (Try.prog.info? 23).map (·.size) = some 1 := by kernel_rfl
theorem sz_int1 : (Try.prog.info? 3).map (·.size) = some 1 := by kernel_rfl
theorem one_slice (A : Option Addr) (n c : Nat) : ∀ u ∈ [Value.slice A n c], u.oneCell' = true := by
  intro u hu
  simp only [List.mem_cons, List.not_mem_nil, or_false] at hu
  subst hu; rfl
/-- A block that is just these cells. -/
def CellBlk (w : World) (b : Nat) (E : TypeId) (L : List Value) : Prop := w.heap[b]? = some (.cells L.toArray E (0, 0))
section
variable {w w' : World} {b : Nat} {E : TypeId} {L : List Value}
theorem CellBlk.new (w : World) (cur : Array Value) (E : TypeId) {n : Nat} (hn : w.heap.size = n) : CellBlk (w.alloc (.cells cur E)) n E cur.toList := by
  subst hn
  have := heap_alloc_new w (.cells cur E)
  unfold CellBlk
  simpa using this
theorem CellBlk.lt (h : CellBlk w b E L) : b < w.heap.size := (Array.getElem?_eq_some_iff.1 h).1
theorem CellBlk.cell {i : Nat} {v : Value} (h : CellBlk w b E L) (hi : L[i]? = some v) : w.cell? ⟨b, i, none⟩ = some v := by
  rw [cell_of_row w b i _ _ _ h]; simpa using hi
theorem CellBlk.free (h : CellBlk w b E L) (i : Nat) : w.frozen? ⟨b, i, none⟩ = false := frozen_of_row w b i _ _ h
theorem CellBlk.below (h : CellBlk w b E L) (hb : Below w.heap.size w w') : CellBlk w' b E L := (hb.block b h.lt).trans h
theorem CellBlk.grown {row : Option Nat} (h : CellBlk w b E L) (hg : w.grownBy w' row) (hne : row ≠ some b) : CellBlk w' b E L := (hg.block b h.lt (Ne.symm hne)).trans h
theorem CellBlk.set_ (h : CellBlk w b E L) (i : Nat) (v : Value) : CellBlk (w.setCell ⟨b, i, none⟩ v) b E (L.set i v) := by
  have := heap_setCell_same w b i _ _ v h
  unfold CellBlk
  rw [this]
  simp
theorem CellBlk.other {c : Nat} (h : CellBlk w b E L) (i : Nat) (v : Value) (hne : c ≠ b) : CellBlk (w.setCell ⟨c, i, none⟩ v) b E L := by
  refine Eq.trans ?_ h
  simp [World.setCell, Array.getElem?_modify, hne]
theorem CellBlk.far {p : Nat → Prop} (h : CellBlk w b E L) (hf : Far p w w') (hp : ¬ p b) : CellBlk w' b E L := (hf.block b h.lt hp).trans h
theorem CellBlk.fill (h : CellBlk w b E L) {N : Nat} (hN : L.length = N) : Fill w b E N [] := ⟨_, h, by simpa using hN, rfl⟩
end
theorem set_keep {w : World} {b : Nat} (i : Nat) (v : Value) : Far (· = b) w (w.setCell ⟨b, i, none⟩ v) := by
  refine ⟨rfl, rfl, rfl, by simp [World.setCell], fun j hj hne => ?_⟩
  have hgj : b ≠ j := fun e => hne e.symm
  simp [World.setCell, Array.getElem?_modify, hgj]
/-- The three slices of a copy read as three lists. -/
structure RowCpy (w : World) (A B M : Option Addr) (U D : List Int) (K : List MarkD) : Prop where
  up : RowInts w A U
  dn : RowInts w B D
  mks : RowMarks w M K
theorem RowCpy.below {w w' : World} {A B M : Option Addr} {U D : List Int} {K : List MarkD} (h : RowCpy w A B M U D K) (hb : Below w.heap.size w w') : RowCpy w' A B M U D K := ⟨h.up.below hb, h.dn.below hb, h.mks.below hb⟩
def CpyTo (w w' : World) (x y z : Int) (U D : List Int) (K : List MarkD) (n1 n2 n3 : Nat) (e : Ending) : Prop :=
  ∃ ga gb gm, e = .returned (copyArg (some ⟨ga, 0, none⟩) n1 n1 (some ⟨gb, 0, none⟩) n2 n2 x y z (some ⟨gm, 0, none⟩) n3 n3) ∧ RowCpy w' (some ⟨ga, 0, none⟩) (some ⟨gb, 0, none⟩) (some ⟨gm, 0, none⟩) U D K ∧ Below w.heap.size w w'

set_option maxHeartbeats 1000000 in
theorem toCopy_calls (A B M : Option Addr) (U D : List Int) (K : List MarkD) (n1 n2 n3 c1 c2 c3 : Nat) (x y z : Int) (w : World) (hr : RowCpy w A B M U D K) (h1 : U.length = n1) (h2 : D.length = n2) (h3 : K.length = n3) (l1 : n1 ≤ 1048576) (l2 : n2 ≤ 1048576) (l3 : n3 ≤ 1048576) :
    Calls Try.prog 13 #[copyArg A n1 c1 B n2 c2 x y z M n3 c3] w fun e w' => CpyTo w w' x y z U D K n1 n2 n3 e := by
  have HR := Lib.hid hr
  have HT1 := Lib.hid (fun (W : World) (hW : RowInts W A U) => h1 ▸ toIntS_calls U A c1 W hW (by omega))
  have HT2 := Lib.hid (fun (W : World) (hW : RowInts W B D) => h2 ▸ toIntS_calls D B c2 W hW (by omega))
  have HT3 := Lib.hid (fun (W : World) (hW : RowMarks W M K) => h3 ▸ toMarkS_calls K M c3 W hW (by omega))
  have E1 := Lib.hid h1
  have E2 := Lib.hid h2
  have E3 := Lib.hid h3
  clear hr h1 h2 h3
  go_enter Try.func13, Try.ntmps13
  go_wp2_with fail
  have hB0 : Below w.heap.size w (((w.alloc (.cells #[.slice A n1 c1, .slice B n2 c2, .int .i64 x, .int .i64 y, .int .i64 z, .slice M n3 c3] 32)).alloc (.cells #[.slice none 0 0, .slice none 0 0, .int .i64 0, .int .i64 0, .int .i64 0, .slice none 0 0] 25)).alloc (.cells #[.slice none 0 0, .slice none 0 0, .int .i64 0, .int .i64 0, .int .i64 0, .slice none 0 0] 25)) := below_alloc (below_alloc (below_alloc (Below.refl _ _) _) _) _
  have k0 := ((CellBlk.new w #[.slice A n1 c1, .slice B n2 c2, .int .i64 x, .int .i64 y, .int .i64 z, .slice M n3 c3] 32 rfl).below (below_alloc (Below.refl _ _) (.cells #[.slice none 0 0, .slice none 0 0, .int .i64 0, .int .i64 0, .int .i64 0, .slice none 0 0] 25))).below (below_alloc (Below.refl _ _) (.cells #[.slice none 0 0, .slice none 0 0, .int .i64 0, .int .i64 0, .int .i64 0, .slice none 0 0] 25))
  have r0 := (CellBlk.new (w.alloc (.cells #[.slice A n1 c1, .slice B n2 c2, .int .i64 x, .int .i64 y, .int .i64 z, .slice M n3 c3] 32)) #[.slice none 0 0, .slice none 0 0, .int .i64 0, .int .i64 0, .int .i64 0, .slice none 0 0] 25 (n := w.heap.size + 1) (by simp)).below (below_alloc (Below.refl _ _) (.cells #[.slice none 0 0, .slice none 0 0, .int .i64 0, .int .i64 0, .int .i64 0, .slice none 0 0] 25))
  have t0 := CellBlk.new ((w.alloc (.cells #[.slice A n1 c1, .slice B n2 c2, .int .i64 x, .int .i64 y, .int .i64 z, .slice M n3 c3] 32)).alloc (.cells #[.slice none 0 0, .slice none 0 0, .int .i64 0, .int .i64 0, .int .i64 0, .slice none 0 0] 25)) #[.slice none 0 0, .slice none 0 0, .int .i64 0, .int .i64 0, .int .i64 0, .slice none 0 0] 25 (n := w.heap.size + 1 + 1) (by simp)
  generalize ((w.alloc (.cells #[.slice A n1 c1, .slice B n2 c2, .int .i64 x, .int .i64 y, .int .i64 z, .slice M n3 c3] 32)).alloc (.cells #[.slice none 0 0, .slice none 0 0, .int .i64 0, .int .i64 0, .int .i64 0, .slice none 0 0] 25)).alloc (.cells #[.slice none 0 0, .slice none 0 0, .int .i64 0, .int .i64 0, .int .i64 0, .slice none 0 0] 25) = W0 at *
  obtain ⟨bt, hbt⟩ : ∃ b, w.heap.size + 1 + 1 = b := ⟨_, rfl⟩
  obtain ⟨br, hbr⟩ : ∃ b, w.heap.size + 1 = b := ⟨_, rfl⟩
  rw [hbt] at t0 ⊢
  rw [hbr] at r0 ⊢
  have hn1 : ¬ (w.heap.size = bt) := by omega
  have hn2 : ¬ (bt = w.heap.size) := by omega
  have hn3 : ¬ (br = bt) := by omega
  have hn4 : ¬ (bt = br) := by omega
  have hlb : w.heap.size < br ∧ br < bt := by omega
  clear hbt hbr
  have hz0 := t0.lt
  refine (HT1.out _ (HR.out.up.below hB0)).mono ?_
  rintro e w1 ⟨ga, rfl, oa, hb1⟩
  have oa' : w1.ownsRow W0.heap.size 3 1 (.slice (some ⟨ga, 0, none⟩) n1 n1) n1 (U.flatMap intVals) := by unfold OwnInts at oa; rw [E1.out] at oa; exact oa
  have la := oa'.lt ga rfl
  have k1 := k0.below hb1
  have r1 := r0.below hb1
  have t1 := t0.below hb1
  have bw1 := hB0.trans (hb1.mono hB0.size)
  have p1 := k1.cell (i := 1) rfl
  have f0 := t1.free 0
  have c0 := t1.cell (i := 0) rfl
  have s1 := hb1.size
  have K1 := Lib.hid (k1.other 0 (.slice (some ⟨ga, 0, none⟩) n1 n1) (c := bt) (by omega))
  have R1 := Lib.hid (r1.other 0 (.slice (some ⟨ga, 0, none⟩) n1 n1) (c := bt) (by omega))
  have T1 := Lib.hid (t1.set_ 0 (.slice (some ⟨ga, 0, none⟩) n1 n1))
  have O1 := Lib.hid ((set_keep (b := bt) 0 (.slice (some ⟨ga, 0, none⟩) n1 n1)).own oa' (fun k hk e => by have hk2 := Option.some.inj (show some _ = some k from hk); simp only at hk2; omega))
  have BW1 := Lib.hid (bw1.setCell (p := ⟨bt, 0, none⟩) (by show w.heap.size ≤ bt; omega) (.slice (some ⟨ga, 0, none⟩) n1 n1))
  have z1 := t1.lt
  have y1 := k1.lt
  clear oa oa' k0 r0 t0 k1 r1 t1 bw1 hb1 hB0
  go_wp2_with fail
  generalize w1.setCell ⟨bt, 0, none⟩ (.slice (some ⟨ga, 0, none⟩) n1 n1) = w2 at *
  clear p1 f0 c0 z1 y1
  have hz2 := T1.out.lt
  refine (HT2.out _ (HR.out.dn.below BW1.out)).mono ?_
  rintro e w3 ⟨gb, rfl, ob, hb3⟩
  have ob' : w3.ownsRow w2.heap.size 3 1 (.slice (some ⟨gb, 0, none⟩) n2 n2) n2 (D.flatMap intVals) := by unfold OwnInts at ob; rw [E2.out] at ob; exact ob
  have lb := ob'.lt gb rfl
  have k3 := K1.out.below hb3
  have r3 := R1.out.below hb3
  have t3 := T1.out.below hb3
  have o3 := own_below O1.out hb3
  have bw3 := BW1.out.trans (hb3.mono BW1.out.size)
  have p2 := k3.cell (i := 2) rfl
  have p3 := k3.cell (i := 3) rfl
  have p4 := k3.cell (i := 4) rfl
  have p5 := k3.cell (i := 5) rfl
  have f1 := t3.free 1
  have c1' := t3.cell (i := 1) rfl
  have c2' := t3.cell (i := 2) rfl
  have c3' := t3.cell (i := 3) rfl
  have c4' := t3.cell (i := 4) rfl
  have f2 := t3.free 2
  have f3 := t3.free 3
  have f4 := t3.free 4
  have z3 := t3.lt
  have y3 := k3.lt
  have hfar : Far (· = bt) w3 ((((w3.setCell ⟨bt, 1, none⟩ (.slice (some ⟨gb, 0, none⟩) n2 n2)).setCell ⟨bt, 2, none⟩ (.int .i64 x)).setCell ⟨bt, 3, none⟩ (.int .i64 y)).setCell ⟨bt, 4, none⟩ (.int .i64 z)) := (((set_keep 1 _).trans (set_keep 2 _)).trans (set_keep 3 _)).trans (set_keep 4 _)
  have T3 := Lib.hid ((((t3.set_ 1 (.slice (some ⟨gb, 0, none⟩) n2 n2)).set_ 2 (.int .i64 x)).set_ 3 (.int .i64 y)).set_ 4 (.int .i64 z))
  have K3 := Lib.hid (k3.far hfar (by omega))
  have R3 := Lib.hid (r3.far hfar (by omega))
  have OA := Lib.hid (hfar.own o3 (fun k hk e => by have hk2 := Option.some.inj (show some _ = some k from hk); simp only at hk2; omega))
  have OB := Lib.hid (hfar.own ob' (fun k hk e => by have hk2 := Option.some.inj (show some _ = some k from hk); simp only at hk2; omega))
  have BW3 := Lib.hid (bw3.trans (hfar.toBelow bw3.size (fun k hk => by omega)))
  clear ob ob' k3 r3 t3 o3 bw3 hb3 hfar K1 R1 T1 O1 BW1
  go_wp2_with fail
  generalize (((w3.setCell ⟨bt, 1, none⟩ (.slice (some ⟨gb, 0, none⟩) n2 n2)).setCell ⟨bt, 2, none⟩ (.int .i64 x)).setCell ⟨bt, 3, none⟩ (.int .i64 y)).setCell ⟨bt, 4, none⟩ (.int .i64 z) = w4 at *
  clear c1' c2' c3' c4' p2 p3 p4 p5 f1 f2 f3 f4 z3 y3
  refine (HT3.out _ (HR.out.mks.below BW3.out)).mono ?_
  rintro e w5 ⟨gm, rfl, om, hb5⟩
  have om' : w5.ownsRow w4.heap.size 46 4 (.slice (some ⟨gm, 0, none⟩) n3 n3) n3 (K.flatMap MarkD.vals) := by unfold OwnMarks at om; rw [E3.out] at om; exact om
  have lm := om'.lt gm rfl
  have hz4 := T3.out.lt
  have t5 := T3.out.below hb5
  have r5 := R3.out.below hb5
  have oa5 := own_below OA.out hb5
  have ob5 := own_below OB.out hb5
  have bw5 := BW3.out.trans (hb5.mono BW3.out.size)
  have la5 := OA.out.lt ga rfl
  have lb5 := OB.out.lt gb rfl
  have q0 := t5.cell (i := 0) rfl
  have q1 := t5.cell (i := 1) rfl
  have q2 := t5.cell (i := 2) rfl
  have q3 := t5.cell (i := 3) rfl
  have q4 := t5.cell (i := 4) rfl
  have q5 := t5.cell (i := 5) rfl
  have f5 := t5.free 5
  have z5 := t5.lt
  have far5 := set_keep (w := w5) (b := bt) 5 (.slice (some ⟨gm, 0, none⟩) n3 n3)
  have hFR := (r5.far far5 (by omega)).fill (N := 6) rfl
  have OA6 := Lib.hid (far5.own oa5 (fun k hk e => by have hk2 := Option.some.inj (show some _ = some k from hk); simp only at hk2; omega))
  have OB6 := Lib.hid (far5.own ob5 (fun k hk e => by have hk2 := Option.some.inj (show some _ = some k from hk); simp only at hk2; omega))
  have OM6 := Lib.hid (far5.own om' (fun k hk e => by have hk2 := Option.some.inj (show some _ = some k from hk); simp only at hk2; omega))
  have BW6 := Lib.hid (bw5.trans (far5.toBelow bw5.size (fun k hk => by omega)))
  clear om om' t5 r5 oa5 ob5 bw5 far5 hb5 K3 R3 T3 OA OB BW3
  go_wp2_with (first | (refine wpList_store_fill rfl _ _ _ rfl rfl (br) 0 _ 6 [] [.slice (some ⟨ga, 0, none⟩) n1 n1, .slice (some ⟨gb, 0, none⟩) n2 n2, .int .i64 x, .int .i64 y, .int .i64 z, .slice (some ⟨gm, 0, none⟩) n3 n3] rfl rfl copy_size (by intro u hu; simp only [List.mem_cons, List.not_mem_nil, or_false] at hu; rcases hu with rfl | rfl | rfl | rfl | rfl | rfl <;> rfl) hFR rfl (by simp) ?_; intro w9 hf9 hg9))
  have x0 := hf9.cell (i := 0) rfl
  have x1 := hf9.cell (i := 1) rfl
  have x2 := hf9.cell (i := 2) rfl
  have x3 := hf9.cell (i := 3) rfl
  have x4 := hf9.cell (i := 4) rfl
  have x5 := hf9.cell (i := 5) rfl
  refine bodyPost_ret (v := copyArg (some ⟨ga, 0, none⟩) n1 n1 (some ⟨gb, 0, none⟩) n2 n2 x y z (some ⟨gm, 0, none⟩) n3 n3) (by simp [results, Try.results13, go_sem, x0, x1, x2, x3, x4, x5]) rfl ?_
  have kept : ∀ {T : TypeId} {sz n B : Nat} {b : Nat} {xs : List Value}, b ≠ br → (w5.setCell ⟨bt, 5, none⟩ (.slice (some ⟨gm, 0, none⟩) n3 n3)).ownsRow B T sz (.slice (some ⟨b, 0, none⟩) n n) n xs → w9.ownsRow B T sz (.slice (some ⟨b, 0, none⟩) n n) n xs := by
    intro T sz n B b xs hne ho
    exact ho.kept hg9 (.inr (fun e => by injection e with e; exact hne (show b = br from e)))
  refine ⟨ga, gb, gm, rfl, ⟨RowOf.of_own E1.out.symm (fun _ _ => rfl) (kept (by omega) OA6.out), RowOf.of_own E2.out.symm (fun _ _ => rfl) (kept (by omega) OB6.out), RowOf.of_own E3.out.symm (fun c _ => c.vals_len) (kept (by omega) OM6.out)⟩, ?_⟩
  exact BW6.out.grown hg9 BW6.out.size (fun k hk => by injection hk with hk; omega)
set_option maxHeartbeats 2000000 in
theorem eqCopy_same (A1 B1 M1 A2 B2 M2 : Option Addr) (U D : List Int) (K : List MarkD) (n1 n2 n3 c1 c2 c3 d1 d2 d3 : Nat) (x y z : Int) (w : World) (hr : RowCpy w A1 B1 M1 U D K) (hs : RowCpy w A2 B2 M2 U D K) (h1 : U.length = n1) (h2 : D.length = n2) (h3 : K.length = n3) (l1 : n1 ≤ 1048576) (l2 : n2 ≤ 1048576) (l3 : n3 ≤ 1048576) :
    Calls Try.prog 8 #[copyArg A1 n1 c1 B1 n2 c2 x y z M1 n3 c3, copyArg A2 n1 d1 B2 n2 d2 x y z M2 n3 d3] w fun e w' => e = .returned (.bool true) ∧ Below w.heap.size w w' := by
  have H1 := Lib.hid hr
  have H2 := Lib.hid hs
  have HE1 := Lib.hid (fun (W : World) (hW : RowInts W A1 U) (hV : RowInts W A2 U) => h1 ▸ eqIntS_same U A1 A2 c1 d1 W hW hV (by omega))
  have HE2 := Lib.hid (fun (W : World) (hW : RowInts W B1 D) (hV : RowInts W B2 D) => h2 ▸ eqIntS_same D B1 B2 c2 d2 W hW hV (by omega))
  have HE3 := Lib.hid (fun (W : World) (hW : RowMarks W M1 K) (hV : RowMarks W M2 K) => h3 ▸ eqMarkS_same K M1 M2 c3 d3 W hW hV (by omega))
  clear hr hs h1 h2 h3
  have hx : (x != x) = false := by simp
  have hy : (y != y) = false := by simp
  have hz : (z != z) = false := by simp
  go_enter Try.func8, Try.ntmps8
  go_wp2_with fail
  refine (HE1.out _ (H1.out.up.below (below_alloc (below_alloc (Below.refl _ _) _) _)) (H2.out.up.below (below_alloc (below_alloc (Below.refl _ _) _) _))).mono ?_
  rintro e w1 ⟨rfl, hb1⟩
  obtain ⟨hc1, _⟩ := bcell hb1
  have hB1 : Below w.heap.size w w1 := (below_alloc (below_alloc (Below.refl _ _) _) _).trans (hb1.mono (by simp only [World.size_alloc]; omega))
  have HB1 := Lib.hid hB1
  have hs1 := hb1.size
  simp only [World.size_alloc] at hc1 hs1
  clear hb1 hB1
  go_wp2_with fail
  refine (HE2.out _ (H1.out.dn.below HB1.out) (H2.out.dn.below HB1.out)).mono ?_
  rintro e w2 ⟨rfl, hb2⟩
  obtain ⟨hc2, _⟩ := bcell hb2
  have hB2 : Below w.heap.size w w2 := HB1.out.trans (hb2.mono (by omega))
  have HB2 := Lib.hid hB2
  have hl0 : w.heap.size < w1.heap.size := by omega
  have hl1 : w.heap.size + 1 < w1.heap.size := by omega
  clear hb2 hB2
  go_wp2_with fail
  refine (HE3.out _ (H1.out.mks.below HB2.out) (H2.out.mks.below HB2.out)).mono ?_
  rintro e w3 ⟨rfl, hb3⟩
  go_wp2
  go_ret
  exact ⟨rfl, below_trans' HB2.out hb3⟩
end Go.Proofs.Ytkahhcpfkebgiaa
