/-
  The reference's step of an object, the ways that append: what they leave. No condition but a state of at most a thousand numbers.
-/
import Derived.Test.YtoeecaeaobfhmaaStepA
import Derived.Deep.RegionHeld3
namespace Go.Proofs.Ytoeecaeaobfhmaa
open Go.RowKit Go.Deep
set_option maxRecDepth 100000

theorem stepx_info : (Try.prog.info? 3).map (fun i => (i.zero, i.size, i.bytes)) = some (some (.int .i64 0), 1, 8) := by kernel_rfl
theorem own_empty {W : World} {g B : Nat} (h : W.heap[g]? = some (.cells #[] 3 (0, 0))) (hb : B ≤ g) : W.ownsRow B 3 1 (.slice (some ⟨g, 0, none⟩) 0 0) 0 [] :=
  ⟨rfl, .inr ⟨g, 0, #[], rfl, hb, h, Nat.le_refl _, by simp [maxLen], rfl, rfl⟩⟩

theorem heap_alloc_new' {w : World} {o : Obj} {n : Nat} (h : w.heap.size = n) : (w.alloc o).heap[n]? = some o := by subst h; exact heap_alloc_new w o
theorem heap_alloc_mid {w : World} {o p : Obj} {n : Nat} (h : w.heap.size = n) : ((w.alloc o).alloc p).heap[n]? = some o := by
  subst h
  rw [heap_alloc_old (w.alloc o) p (by simp)]
  exact heap_alloc_new w o
theorem news_of_cell {W : World} {k : Nat} {v : Value} (h : W.cell? ⟨k, 0, none⟩ = some v) : ∀ a, some (⟨k, 0, none⟩ : Addr) = some a → ∀ j u, [v][j]? = some u → W.cell? (a.add j) = some u := by
  intro a e j u hu
  injection e with e
  subst e
  match j, hu with
  | 0, hu =>
    simp only [List.getElem?_cons_zero, Option.some.injEq] at hu
    subst hu
    rw [Addr.add_lit]
    exact h
theorem le_of_below {W X : World} {k : Nat} (hz : W.heap.size = k) (h : Below W.heap.size W X) : k ≤ X.heap.size := by subst hz; exact h.size
theorem cell_new0 (W : World) (v : Value) (E : TypeId) : (W.alloc (.cells #[v] E)).cell? ⟨W.heap.size, 0, none⟩ = some v := by rw [World.cell?_alloc_new]; rfl
/-- The new block is the last but one, and the last. -/
theorem cell_new1 {W : World} {k : Nat} (hz : W.heap.size = k) (v : Value) (E : TypeId) (o : Obj) : ((W.alloc (.cells #[v] E)).alloc o).cell? ⟨k, 0, none⟩ = some v := by
  subst hz
  exact cell_below (below_alloc (Below.refl _ _) _) (cell_new0 W v E)
theorem cell_new2 {W : World} {k : Nat} (hz : W.heap.size = k) (v : Value) (E : TypeId) (o : Obj) : ((W.alloc o).alloc (.cells #[v] E)).cell? ⟨k + 1, 0, none⟩ = some v := by
  have h := cell_new0 (W.alloc o) v E
  rwa [World.size_alloc, hz] at h
theorem ne_blk {g H o n c : Nat} (h : H ≠ g) : some (⟨H, o, none⟩ : Addr).block ≠ (Value.slice (some ⟨g, 0, none⟩) n c).ownBlock := by
  intro e
  simp only [Value.ownBlock, Option.some.injEq] at e
  omega
theorem int_one (n : Int) : ∀ u ∈ [Value.int .i64 n], u.oneCell' = true := by
  intro u hu
  simp at hu
  subst hu
  rfl
set_option maxHeartbeats 4000000 in
theorem step_put_row (s : ByteArray) (st : List Int) (A : Option Addr) (n cap : Nat) (c : CallD) (w : World) (hr : RowInts w A st) (hn : st.length = n) (hl : n ≤ 1000)
    (q0 : (s.toList == [114, 101, 103, 105, 115, 116, 101, 114]) = false) (q1 : (s.toList == [99, 111, 117, 110, 116, 101, 114]) = false) (q2 : (s.toList == [109, 111, 115, 116]) = false) (q3 : (s.toList == [115, 101, 116]) = false) (hk : (c.kind == 0) = true) :
    Calls Try.prog 71 #[.string s, .slice A n cap, c.val] w fun e w' => StepTo w w' A n (st ++ [c.arg]) (c.ret == 0) e := by
  have hl' : (n : Int) ≤ 1000 := by omega
  obtain ⟨i0, hi0, hz0, hz1, hz2⟩ := info_parts stepx_info
  have HR := Lib.hid hr
  have HN := Lib.hid hn
  clear hr hn
  go_enter Try.func71, Try.ntmps71
  go_wp2_with fail
  have b3 := step_box c w 45 3 _ rfl
  have b4 := step_box c w 45 4 _ rfl
  have hbl : Below w.heap.size w (w.alloc (.cells #[.int .i64 c.proc, .int .i64 c.obj, .int .i64 c.kind, .int .i64 c.arg, .int .i64 c.ret, .int .i64 c.fr, .int .i64 c.till] 45)) := below_alloc (Below.refl _ _) _
  have hz := World.size_alloc w (.cells #[.int .i64 c.proc, .int .i64 c.obj, .int .i64 c.kind, .int .i64 c.arg, .int .i64 c.ret, .int .i64 c.fr, .int .i64 c.till] 45)
  generalize w.alloc (.cells #[.int .i64 c.proc, .int .i64 c.obj, .int .i64 c.kind, .int .i64 c.arg, .int .i64 c.ret, .int .i64 c.fr, .int .i64 c.till] 45) = W at *
  obtain ⟨H, hH⟩ : ∃ H, w.heap.size = H := ⟨_, rfl⟩
  rw [hH] at b3 b4 hz ⊢
  have HBL := Lib.hid hbl
  have HRW := Lib.hid (HR.out.below hbl)
  clear hbl
  have HL := Lib.hid (show (st.flatMap intVals).length = n * 1 by rw [ints_flat_len, HN.out])
  have HA0 := Lib.hid (show A = none → n = 0 from fun e => by have := (RowOf.src1 HRW.out).2 e; have := HN.out; omega)
  have HB1 := Lib.hid (show 0 + n ≤ maxLen by unfold maxLen; omega)
  have HB2 := Lib.hid (show (0 + n) * 8 ≤ 140737488355328 by omega)
  have HB3 := Lib.hid (show 0 + n + 1 ≤ maxLen by unfold maxLen; omega)
  have HB4 := Lib.hid (show (0 + n + 1) * 8 ≤ 140737488355328 by omega)
  have HZA := Lib.hid (show ∀ o, (W.alloc o).heap.size = H + 1 + 1 from fun o => by rw [World.size_alloc, hz])
  have HZB := Lib.hid (show ∀ o p, ((W.alloc o).alloc p).heap.size = H + 1 + 1 + 1 from fun o p => by rw [World.size_alloc, World.size_alloc, hz])
  go_region_held3 (fun w' => w'.cell? ⟨H, 3, none⟩ = some (.int .i64 c.arg) ∧ w'.cell? ⟨H, 4, none⟩ = some (.int .i64 c.ret)) (first | exact ⟨m3, m4⟩ | exact ⟨k3, k4⟩ | go_keep)
    (first
      | (refine step_append_any _ rfl (.tmp 86) (.tmp 87) 24 rfl (H + 1) 3 i0 _ 1 8 Try.underlying24 hi0 hz0 hz1 hz2 rfl (by omega) (.slice (some ⟨_, 0, none⟩) 0 0) 0 [] rfl (own_empty ?_ ?_) A n cap (st.flatMap intVals) rfl HL.out (RowOf.src1 ?_).1 HA0.out (ints_ones st) HB1.out HB2.out ?_ ?_; (first | exact heap_alloc_new' hz | exact heap_alloc_new' (HZA.out _) | exact heap_alloc_mid hz); omega; exact HRW.out.below (by repeat (first | exact Below.refl _ _ | assumption | refine below_alloc ?_ _ | refine below_trans' ?_ (by assumption) | refine Below.drew ?_)); exact le_of_below hz (by repeat (first | exact Below.refl _ _ | assumption | refine below_alloc ?_ _ | refine below_trans' ?_ (by assumption) | refine Below.drew ?_)); intro v1 w1 ho1 hg1 hat1; have hs1 : H + 1 ≤ w1.heap.size := Nat.le_trans (le_of_below hz (by repeat (first | exact Below.refl _ _ | assumption | refine below_alloc ?_ _ | refine below_trans' ?_ (by assumption) | refine Below.drew ?_))) hg1.size; have k3 := hg1.cell (a := ⟨H, 3, none⟩) (cell_below (w := W) (by repeat (first | exact Below.refl _ _ | assumption | refine below_alloc ?_ _ | refine below_trans' ?_ (by assumption) | refine Below.drew ?_)) b3) (ne_blk (by omega)); have k4 := hg1.cell (a := ⟨H, 4, none⟩) (cell_below (w := W) (by repeat (first | exact Below.refl _ _ | assumption | refine below_alloc ?_ _ | refine below_trans' ?_ (by assumption) | refine Below.drew ?_)) b4) (ne_blk (by omega)); have hb1 : Below W.heap.size W w1 := Below.grown (w' := _) (by repeat (first | exact Below.refl _ _ | assumption | refine below_alloc ?_ _ | refine below_trans' ?_ (by assumption) | refine Below.drew ?_)) hg1 (le_of_below rfl (by repeat (first | exact Below.refl _ _ | assumption | refine below_alloc ?_ _ | refine below_trans' ?_ (by assumption) | refine Below.drew ?_))) (fun k hk => by simp only [Value.ownBlock, Option.some.injEq] at hk; omega))
      | (refine step_append_any _ rfl (.tmp 88) (.tmp 91) 24 rfl (H + 1) 3 i0 _ 1 8 Try.underlying24 hi0 hz0 hz1 hz2 rfl (by omega) v1 (0 + n) ([] ++ st.flatMap intVals) rfl ?_ _ 1 1 [.int .i64 c.arg] rfl rfl (news_of_cell ?_) ?_ (int_one c.arg) HB3.out HB4.out ?_ ?_; (first | exact ho1 | exact own_below ho1 (by repeat (first | exact Below.refl _ _ | assumption | refine below_alloc ?_ _ | refine below_trans' ?_ (by assumption) | refine Below.drew ?_))); (first | exact cell_new0 _ _ _ | exact hg1.cell (cell_new1 hz _ _ _) (ne_blk (by omega)) | exact hg1.cell (cell_new2 hz _ _ _) (ne_blk (by omega))); (intro e; cases e); exact Nat.le_trans hs1 (le_of_below rfl (by repeat (first | exact Below.refl _ _ | assumption | refine below_alloc ?_ _ | refine below_trans' ?_ (by assumption) | refine Below.drew ?_))); intro v2 w2 ho2 hg2 hat2; have m3 := hg2.cell (a := ⟨H, 3, none⟩) (cell_below (w := w1) (by repeat (first | exact Below.refl _ _ | assumption | refine below_alloc ?_ _ | refine below_trans' ?_ (by assumption) | refine Below.drew ?_)) k3) (fun e => by have := (ho1.lt H e.symm).1; omega); have m4 := hg2.cell (a := ⟨H, 4, none⟩) (cell_below (w := w1) (by repeat (first | exact Below.refl _ _ | assumption | refine below_alloc ?_ _ | refine below_trans' ?_ (by assumption) | refine Below.drew ?_)) k4) (fun e => by have := (ho1.lt H e.symm).1; omega); have hb2 : Below W.heap.size W w2 := Below.grown (w' := _) (below_trans' hb1 (by repeat (first | exact Below.refl _ _ | assumption | refine below_alloc ?_ _ | refine below_trans' ?_ (by assumption) | refine Below.drew ?_))) hg2 (by rw [hz]; exact Nat.le_trans hs1 (le_of_below rfl (by repeat (first | exact Below.refl _ _ | assumption | refine below_alloc ?_ _ | refine below_trans' ?_ (by assumption) | refine Below.drew ?_)))) (fun k hk => by rw [hz]; exact (ho1.lt k hk).1)))
  all_goals
    go_wp2_with fail
    go_ret2
    subst hH
    refine StepTo.own (n := 0 + n + 1) ?_ (by simp [HN.out]) (HBL.out.trans (hb2.mono (by omega)))
    simpa [intVals] using own_base ho2 (by omega)
end Go.Proofs.Ytoeecaeaobfhmaa
