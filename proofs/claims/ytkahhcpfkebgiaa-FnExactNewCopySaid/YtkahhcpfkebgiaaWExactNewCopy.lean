/-
  The walk of the law on new copies: it returns true. No condition.
-/
import Derived.Test.YtkahhcpfkebgiaaCpyN
namespace Go.Proofs.Ytkahhcpfkebgiaa
open Go.RowKit
set_option maxRecDepth 100000

theorem Fill.but2 {w w' : World} {a b g N : Nat} {E : TypeId} {l : List Value} (h : Fill w g E N l) (k : But2 a b w w') (h1 : g ≠ a) (h2 : g ≠ b) : Fill w' g E N l := by
  have hlt := h.lt
  obtain ⟨cur, hg, r⟩ := h
  exact ⟨cur, (k.block g hlt h1 h2).trans hg, r⟩
theorem cpy_box (w : World) (a b : Nat) (A : Option Addr) (c : Nat) : Fill (w.alloc (.cells #[.slice (some ⟨a, 0, none⟩) 3 3, .slice (some ⟨b, 0, none⟩) 3 3, .int .i64 0, .int .i64 0, .int .i64 0, .slice A 0 c] 25)) w.heap.size 25 6 (copyL a b 0 0 0 (.slice A 0 c)) := ⟨_, heap_alloc_new _ _, rfl, rfl⟩
theorem Fill.ext {w w' : World} {g N : Nat} {E : TypeId} {l : List Value} (h : Fill w g E N l) (hb : Below w.heap.size w w') : Fill w' g E N l := h.below hb h.lt
theorem Fill.put {w : World} {g N : Nat} {E : TypeId} {l : List Value} (h : Fill w g E N l) (o : Obj) : Fill (w.alloc o) g E N l := h.ext (below_alloc (Below.refl _ _) _)

set_option maxHeartbeats 4000000 in
theorem walk_FnExactNewCopy (w : World) : Calls Try.prog 3 #[] w fun e w' => e = .returned (.bool true) ∧ Below w.heap.size w w' := by
  go_enter Try.func3, Try.ntmps3
  go_wp2_with fail
  refine (specNewCopy_calls _).mono ?_
  rintro e w1 ⟨a, b, m, hab, ha, hb, ⟨A, rfl⟩, fa, fb, hb1, rfl⟩
  have HFA := Lib.hid fa
  have HFB := Lib.hid fb
  have HB := Lib.hid hb1
  have la := fa.lt
  have lb := fb.lt
  clear fa fb hb1
  simp only [copyV]
  go_wp2_with fail
  have X := cpy_box w1 a b A 0
  refine (implNewCopy_calls _).mono ?_
  rintro e w2 ⟨a2, b2, m2, hab2, ha2, hb2, rfl, fa2, fb2, hbel2, rfl⟩
  have HX := Lib.hid (X.ext hbel2)
  have HFA := Lib.hid ((HFA.out.put _).ext hbel2)
  have HFB := Lib.hid ((HFB.out.put _).ext hbel2)
  have HB := Lib.hid ((HB.out.alloc HB.out.size _).trans (hbel2.mono (by have := HB.out.size; simp only [World.size_alloc]; omega)))
  have l1 : w1.heap.size < w2.heap.size := HX.out.lt
  simp only [World.size_alloc] at ha2 hb2
  have la2 := fa2.lt
  have lb2 := fb2.lt
  have HFA2 := Lib.hid fa2
  have HFB2 := Lib.hid fb2
  clear X fa2 fb2 hbel2
  simp only [copyV]
  have x0 := HX.out.cell (i := 0) rfl
  have x1 := HX.out.cell (i := 1) rfl
  have x2 := HX.out.cell (i := 2) rfl
  have x3 := HX.out.cell (i := 3) rfl
  have x4 := HX.out.cell (i := 4) rfl
  have x5 := HX.out.cell (i := 5) rfl
  go_wp2_with fail
  have Y := cpy_box w2 a2 b2 none 0
  refine (eqCopy_calls a2 b2 a b none A 0 0 _ (HFA2.out.put _) (HFB2.out.put _) (HFA.out.put _) (HFB.out.put _)).mono ?_
  rintro e w3 ⟨rfl, hb3⟩
  have HY := Lib.hid (Y.ext hb3)
  have HX := Lib.hid ((HX.out.put _).ext hb3)
  have HFA := Lib.hid ((HFA.out.put _).ext hb3)
  have HFB := Lib.hid ((HFB.out.put _).ext hb3)
  have HFA2 := Lib.hid ((HFA2.out.put _).ext hb3)
  have HFB2 := Lib.hid ((HFB2.out.put _).ext hb3)
  have HB := Lib.hid ((HB.out.alloc HB.out.size _).trans (hb3.mono (by have := HB.out.size; simp only [World.size_alloc]; omega)))
  have l2 : w2.heap.size < w3.heap.size := HY.out.lt
  clear Y hb3 x0 x1 x2 x3 x4 x5
  have y0 := HY.out.cell (i := 0) rfl
  have y1 := HY.out.cell (i := 1) rfl
  have y2 := HY.out.cell (i := 2) rfl
  have y3 := HY.out.cell (i := 3) rfl
  have y4 := HY.out.cell (i := 4) rfl
  have y5 := HY.out.cell (i := 5) rfl
  go_wp2_with fail
  refine (markCopy_calls a2 b2 none 0 1 _ hab2 HFA2.out HFB2.out (by decide) (by decide)).mono ?_
  rintro e w4 ⟨rfl, fa2, fb2, hbut⟩
  have HY := Lib.hid (HY.out.but2 hbut (by omega) (by omega))
  have HX := Lib.hid (HX.out.but2 hbut (by omega) (by omega))
  have HFA := Lib.hid (HFA.out.but2 hbut (by omega) (by omega))
  have HFB := Lib.hid (HFB.out.but2 hbut (by omega) (by omega))
  have HFA2 := Lib.hid fa2
  have HFB2 := Lib.hid fb2
  have HB : Hid (Below w.heap.size w w4) := by
    have h := HB.out
    have h2 := hbut.size
    have hw1 : w.heap.size ≤ w1.heap.size := by omega
    exact ⟨hbut.os.trans h.os, hbut.tape.trans h.tape, hbut.output.trans h.output, Nat.le_trans h.size h2, fun i hi => (hbut.block i (by omega) (by omega) (by omega)).trans (h.block i hi)⟩
  have l3 := hbut.size
  clear hbut fa2 fb2 y0 y1 y2 y3 y4 y5
  have y0 := HY.out.cell (i := 0) rfl
  have y1 := HY.out.cell (i := 1) rfl
  have y2 := HY.out.cell (i := 2) rfl
  have y3 := HY.out.cell (i := 3) rfl
  have y4 := HY.out.cell (i := 4) rfl
  have y5 := HY.out.cell (i := 5) rfl
  have l4 : w2.heap.size < w4.heap.size := by omega
  go_wp2_with fail
  refine (heldCopy_calls a2 b2 none 0 1 _ HFA2.out HFB2.out (by decide) (by decide)).mono ?_
  rintro e w5 ⟨rfl, hb5⟩
  have HY := Lib.hid (HY.out.ext hb5)
  have HX := Lib.hid (HX.out.ext hb5)
  have HFA := Lib.hid (HFA.out.ext hb5)
  have HFB := Lib.hid (HFB.out.ext hb5)
  have HFA2 := Lib.hid (HFA2.out.ext hb5)
  have HFB2 := Lib.hid (HFB2.out.ext hb5)
  have HB := Lib.hid (HB.out.trans (hb5.mono HB.out.size))
  clear hb5 y0 y1 y2 y3 y4 y5
  go_wp2_with fail
  refine (implNewCopy_calls _).mono ?_
  rintro e w6 ⟨a3, b3, m3, hab3, ha3, hb3, rfl, fa3, fb3, hbel6, rfl⟩
  have HY := Lib.hid (HY.out.ext hbel6)
  have HX := Lib.hid (HX.out.ext hbel6)
  have HFA := Lib.hid (HFA.out.ext hbel6)
  have HFB := Lib.hid (HFB.out.ext hbel6)
  have HFA2 := Lib.hid (HFA2.out.ext hbel6)
  have HFB2 := Lib.hid (HFB2.out.ext hbel6)
  have HB := Lib.hid (HB.out.trans (hbel6.mono HB.out.size))
  have HFA3 := Lib.hid fa3
  have HFB3 := Lib.hid fb3
  have l5 : w1.heap.size < w6.heap.size := HX.out.lt
  clear fa3 fb3 hbel6
  simp only [copyV]
  have x0 := HX.out.cell (i := 0) rfl
  have x1 := HX.out.cell (i := 1) rfl
  have x2 := HX.out.cell (i := 2) rfl
  have x3 := HX.out.cell (i := 3) rfl
  have x4 := HX.out.cell (i := 4) rfl
  have x5 := HX.out.cell (i := 5) rfl
  go_wp2_with fail
  refine (eqCopy_calls a3 b3 a b none A 0 0 _ (HFA3.out.put _) (HFB3.out.put _) (HFA.out.put _) (HFB.out.put _)).mono ?_
  rintro e w7 ⟨rfl, hb7⟩
  have HY := Lib.hid ((HY.out.put _).ext hb7)
  have HFA2 := Lib.hid ((HFA2.out.put _).ext hb7)
  have HFB2 := Lib.hid ((HFB2.out.put _).ext hb7)
  have HB := Lib.hid ((HB.out.alloc HB.out.size _).trans (hb7.mono (by have := HB.out.size; simp only [World.size_alloc]; omega)))
  have l6 : w2.heap.size < w7.heap.size := HY.out.lt
  clear hb7 x0 x1 x2 x3 x4 x5
  have y0 := HY.out.cell (i := 0) rfl
  have y1 := HY.out.cell (i := 1) rfl
  have y2 := HY.out.cell (i := 2) rfl
  have y3 := HY.out.cell (i := 3) rfl
  have y4 := HY.out.cell (i := 4) rfl
  have y5 := HY.out.cell (i := 5) rfl
  go_wp2_with fail
  refine (heldCopy_calls a2 b2 none 0 1 _ HFA2.out HFB2.out (by decide) (by decide)).mono ?_
  rintro e w8 ⟨rfl, hb8⟩
  have HB := Lib.hid (HB.out.trans (hb8.mono HB.out.size))
  clear hb8
  go_wp2_with fail
  go_ret
  exact ⟨rfl, HB.out⟩
end Go.Proofs.Ytkahhcpfkebgiaa
