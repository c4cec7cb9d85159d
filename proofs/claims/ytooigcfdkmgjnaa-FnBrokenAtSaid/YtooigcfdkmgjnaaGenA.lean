/-
  The accesses that the generator draws: at most ten, in memory of the call's own. Asked: at most a thousand picks before.
-/
import Derived.Test.YtooigcfdkmgjnaaMend
import Derived.Test.YtooigcfdkmgjnaaMend2
namespace Go.Proofs.Ytooigcfdkmgjnaa
open Go.RowKit
set_option maxRecDepth 100000

theorem own_some {w : World} {B l c : Nat} {T : TypeId} {A : Option Addr} {xs : List Value} (h : w.ownsRow B T 3 (.slice A l c) l xs) (hl : 0 < l) : ∃ go, A = some ⟨go, 0, none⟩ := by
  rcases h.2 with ⟨h0, _⟩ | ⟨g', cap', cur, hv', _⟩
  · injection h0 with _ h0 _; omega
  · injection hv' with h1; exact ⟨g', h1⟩
structure GenA (w0 w : World) (g : Nat) (o : Value) (cs : List AccessD) : Prop where
  but : But g w0 w
  oo : OwnAccesss w w0.heap.size o cs
section
variable {w0 w w' : World} {g : Nat} {o : Value} {cs : List AccessD}
theorem keptA {E : TypeId} {sz n B : Nat} {v : Value} {xs : List Value} {row : Option Nat} (h : w.ownsRow B E sz v n xs) (hg : w.grownBy w' row) (hne : ∀ k, v.ownBlock = some k → row ≠ some k) : w'.ownsRow B E sz v n xs := by
  refine h.kept hg ?_
  cases hv : v.ownBlock with
  | none => exact .inl rfl
  | some k => exact .inr (fun e => hne k hv e.symm)
theorem GenA.row (h : GenA w0 w g o cs) : w.ownsRow w0.heap.size 44 3 o cs.length (cs.flatMap AccessD.vals) := h.oo
theorem GenA.below (h : GenA w0 w g o cs) (hb : Below w.heap.size w w') : GenA w0 w' g o cs := ⟨h.but.below hb, own_below h.oo hb⟩
theorem GenA.alloc (h : GenA w0 w g o cs) (x : Obj) : GenA w0 (w.alloc x) g o cs := h.below (below_alloc (Below.refl _ _) _)
theorem GenA.pick (h : GenA w0 w g o cs) (hg : w.grownBy w' (some g)) (hgl : g < w0.heap.size) : GenA w0 w' g o cs :=
  ⟨h.but.trans hg, keptA h.oo hg (fun k hk e => by have := (h.row.lt k hk).1; injection e with e; omega)⟩
theorem GenA.setc (h : GenA w0 w g o cs) (b i : Nat) (v : Value) (hb : w0.heap.size ≤ b) (ho : o.ownBlock ≠ some b) : GenA w0 (w.setCell ⟨b, i, none⟩ v) g o cs :=
  ⟨h.but.own (gset_grown w b i v) (fun k hk => by injection hk with hk; omega), keptA h.oo (gset_grown w b i v) (fun k hk e => ho (by rw [hk, e]))⟩
theorem GenA.app (h : GenA w0 w g o cs) {v : Value} {c : AccessD} (hn : w'.ownsRow w0.heap.size 44 3 v (cs.length + 1) (cs.flatMap AccessD.vals ++ c.vals)) (hg : w.grownBy w' o.ownBlock) : GenA w0 w' g v (cs ++ [c]) :=
  ⟨h.but.own hg (fun k hk => (h.row.lt k hk).1), by unfold OwnAccesss; simpa using hn⟩
end
theorem AccBlk.write_ {w : World} {b : Nat} {e : AccessD} (h : AccBlk w b e) (x : Bool) : AccBlk (w.setCell ⟨b, 1, none⟩ (.bool x)) b ⟨e.session, x, e.seen⟩ := by
  have := heap_setCell_same w b 1 _ _ (.bool x) h
  unfold AccBlk
  rw [this]; rfl
def GenRelA (w0 : World) (g p : Nat) (o wv n : Value) (wr : World) : Prop :=
  ∃ (m : Nat) (cs : List AccessD) (k p' : Nat), n = .int .i64 m ∧ wv = .int .i64 k ∧ GenA w0 wr g o cs ∧ cs.length + m ≤ 10 ∧ k ≤ cs.length ∧ Rdr wr g p' ∧ p' + 5 * m ≤ p + 60
def SomeAc (w w' : World) (g p : Nat) (e : Ending) : Prop := ∃ v cs, e = .returned v ∧ OwnAccesss w' w.heap.size v cs ∧ cs.length ≤ 10 ∧ But g w w' ∧ ∃ p', p' ≤ p + 80 ∧ Rdr w' g p'
theorem bendA_end {w w1 : World} {g p p' go cap k f l : Nat} {cs : List AccessD} {c c' : AccessD} {x : Int} (hll : cs.length = l) (hc : cs[k]? = some c) (hf : f < 3) (he : AccessD.vals c' = (AccessD.vals c).set f (.int .i64 x)) (ho : w1.ownsRow w.heap.size 44 3 (.slice (some ⟨go, 0, none⟩) l cap) l (cs.flatMap AccessD.vals))
    (hl : l ≤ 10) (hb : But g w w1) (hp : p' ≤ p + 80) (hr : Rdr w1 g p') (hgz : g < w.heap.size) :
    SomeAc w (w1.setCell ⟨go, k * 3 + f, none⟩ (.int .i64 x)) g p (.returned (.slice (some ⟨go, 0, none⟩) l cap)) := by
  subst hll
  have hk : k < cs.length := (List.getElem?_eq_some_iff.1 hc).1
  have hlt := ho.lt go rfl
  refine ⟨_, cs.set k c', rfl, ?_, by simpa using hl, hb.own (gset_grown w1 go _ _) (fun i hi => by injection hi with hi; omega), p', hp, hr.grown (gset_grown w1 go _ _) (fun i hi => by injection hi with hi; omega)⟩
  unfold OwnAccesss
  rw [List.length_set, ← flat_set (fun c => AccessD.vals_len c) cs k f c c' _ hc hf he]
  exact own_set ho (by omega) _
theorem bendA_mid {w w1 : World} {g go cap k f l : Nat} {cs : List AccessD} {c c' : AccessD} {x : Int} (hll : cs.length = l) (hc : cs[k]? = some c) (hf : f < 3) (he : AccessD.vals c' = (AccessD.vals c).set f (.int .i64 x)) (ho : w1.ownsRow w.heap.size 44 3 (.slice (some ⟨go, 0, none⟩) l cap) l (cs.flatMap AccessD.vals))
    (hb : But g w w1) : GenA w (w1.setCell ⟨go, k * 3 + f, none⟩ (.int .i64 x)) g (.slice (some ⟨go, 0, none⟩) l cap) (cs.set k c') := by
  subst hll
  have hk : k < cs.length := (List.getElem?_eq_some_iff.1 hc).1
  have hlt := ho.lt go rfl
  refine ⟨hb.own (gset_grown w1 go _ _) (fun i hi => by injection hi with hi; omega), ?_⟩
  unfold OwnAccesss
  rw [List.length_set, ← flat_set (fun c => AccessD.vals_len c) cs k f c c' _ hc hf he]
  exact own_set ho (by omega) _

set_option maxHeartbeats 16000000 in
theorem someAccesses_calls (g p : Nat) (w : World) (h : Rdr w g p) (hp : p ≤ 1000) :
    Calls Try.prog 43 #[.pointer (some ⟨g, 0, none⟩)] w fun e w' => SomeAc w w' g p e := by
  obtain ⟨i0, hi0, hz0, hz1, hz2⟩ := info_parts info_impl_Access
  have hgz := h.lt
  have HH := Lib.hid h
  clear h
  go_enter Try.func43, Try.ntmps43
  go_wp2_with fail
  have hst : GenA w (w.alloc (.cells #[] 44)) g (.slice (some ⟨w.heap.size, 0, none⟩) 0 0) [] := ⟨(But.refl g w).alloc _, World.ownsRow_made w #[] 0 (Nat.le_refl _) (by simp [maxLen]) rfl⟩
  have hr0 : Rdr (w.alloc (.cells #[] 44)) g p := HH.out.below (below_alloc (Below.refl _ _) _)
  with_reducible refine (pick_at g p 2 2 _ hr0 rfl (by omega) (by omega) (by omega)).mono ?_
  intro e w1 hpk
  obtain ⟨y0, hy0, rfl, hr1, hg1⟩ := hpk
  have Hst1 := Lib.hid (hst.pick hg1 hgz)
  have Hr1 := Lib.hid hr1
  obtain ⟨Y, hY⟩ : ∃ Y : Int, (y0 : Int) = Y := ⟨_, rfl⟩
  rw [hY]
  clear hst hr0 hr1 hg1 hY hy0
  obtain ⟨gd, hgd⟩ : ∃ b, (Y == 0) = b := ⟨_, rfl⟩
  go_wp2_with fail
  clear hgd
  with_reducible refine (one_at g (p + 1) [5, 6, 4, 8, 3, 10, 2, 0] 8 #[.int .i64 5, .int .i64 6, .int .i64 4, .int .i64 8, .int .i64 3, .int .i64 10, .int .i64 2, .int .i64 0] w1 _ Hr1.out rfl (by omega) rfl rfl (by omega) (by omega)).mono ?_
  intro e w5 hone
  obtain ⟨n0, hn0, rfl, hr2, hg2⟩ := hone
  have hst2 := Hst1.out.pick hg2 hgz
  obtain ⟨N, hN, hN10⟩ : ∃ N : Nat, n0 = N ∧ N ≤ 10 := ⟨n0.toNat, by simp at hn0; omega, by simp at hn0; omega⟩
  subst hN
  have Hrel := Lib.hid (show GenRelA w g p (.slice (some ⟨w.heap.size, 0, none⟩) 0 0) (.int .i64 0) (.int .i64 N) w5 from ⟨N, [], 0, p + 2, rfl, rfl, hst2, by simp; omega, by simp, hr2, by omega⟩)
  clear hr2 hg2 hst2 hn0 Hst1 Hr1
  go_wp2_with fail
  go_loopw [3, 4, 6] (fun o k n wr => GenRelA w g p o k n wr) (fun _ _ n _ => (intOf n).toNat)
  case atStart => exact Hrel.out
  case round =>
    clear Hrel
    unfold GenRelA at hrel
    obtain ⟨m, cs, k, p', rfl, rfl, G3, hlen, hkl, hrd, hpp⟩ := hrel
    obtain ⟨Ao, co, rfl, hoc, hom, _⟩ := own_form G3.row
    have HG3 := Lib.hid G3
    have HRd := Lib.hid hrd
    have hwz := G3.but.size
    clear G3 hrd
    have hl0 : (cs.length : Int) ≤ 10 := by omega
    have hk10 : (k : Int) ≤ 10 := by omega
    by_cases hm : 0 < m
    · have hm0 : (0 : Int) < (m : Int) := by omega
      have hm7 : (m : Int) ≤ 10 := by omega
      go_wp2_with fail
      with_reducible refine (pick_at g p' 3 3 _ HRd.out rfl (by omega) (by omega) (by omega)).mono ?_
      intro e w6 hpk
      obtain ⟨x, hx, rfl, hr6, hg6⟩ := hpk
      have HG6 := Lib.hid (HG3.out.pick hg6 hgz)
      have hz6 := hg6.size
      have HR6 := Lib.hid hr6
      clear hg6 hr6 HG3 HRd
      go_wp2_with fail
      have EB0 : AccBlk (w6.alloc (.cells #[.int .i64 x, .bool false, .int .i64 0] 44)) w6.heap.size ⟨x, false, 0⟩ := heap_alloc_new _ _
      have G7 := HG6.out.alloc (.cells #[.int .i64 x, .bool false, .int .i64 0] 44)
      have R7 := HR6.out.below (below_alloc (Below.refl _ _) (.cells #[.int .i64 x, .bool false, .int .i64 0] 44))
      have no : (Value.slice Ao cs.length co).ownBlock ≠ some w6.heap.size := fun e => by have := (HG6.out.row.lt _ e).2; omega
      generalize w6.alloc (.cells #[.int .i64 x, .bool false, .int .i64 0] 44) = w7 at *
      obtain ⟨be, hbe⟩ : ∃ be, w6.heap.size = be := ⟨_, rfl⟩
      rw [hbe] at EB0 no
      have hbw : w.heap.size ≤ be := by omega
      have hbg : g < be := by omega
      have HEB0 := Lib.hid EB0
      have HG7 := Lib.hid G7
      have HR7 := Lib.hid R7
      clear EB0 G7 R7 HG6 HR6
      with_reducible refine (pick_at g (p' + 1) 2 2 _ HR7.out rfl (by omega) (by omega) (by omega)).mono ?_
      intro e w8 hpk
      obtain ⟨y, hy, rfl, hr8, hg8⟩ := hpk
      have HG8 := Lib.hid (HG7.out.pick hg8 hgz)
      have EB := HEB0.out.grown hg8 (by simp; omega)
      have e0' := EB.cell (i := 0) rfl
      have e1' := EB.cell (i := 1) rfl
      have e2' := EB.cell (i := 2) rfl
      have f1' := EB.free 1
      have f2' := EB.free 2
      have hbl := EB.lt
      have HEB := Lib.hid EB
      have HR8 := Lib.hid hr8
      clear hg8 hr8 HG7 HR7 HEB0 EB
      try rw [hbe]
      clear hbe
      by_cases hy0 : y = 0
      · subst hy0
        have EBA := Lib.hid (HEB.out.write_ true)
        have GA := Lib.hid (HG8.out.setc be 1 (.bool true) hbw no)
        have RA := Lib.hid (HR8.out.grown (gset_grown w8 be 1 (.bool true)) (fun k hk => by injection hk with hk; omega))
        clear HG8 HEB HR8
        go_wp2_with (first | (at_builtin; refine wpList_append_own _ rfl (.tmp 46) (.tmp 48) 25 rfl w.heap.size 44 i0 _ 3 24 Try.underlying25 hi0 hz0 hz1 hz2 rfl (by omega) _ cs.length (cs.flatMap AccessD.vals) rfl (GA.out.alloc _).row _ 1 1 (AccessD.vals (⟨(x : Int), true, 0⟩ : AccessD)) rfl rfl (acc_new' _ (⟨(x : Int), true, 0⟩ : AccessD) _ (by simp)) (vals_one _) (by unfold maxLen; omega) (by omega) (by have := GA.out.but.size; simp at this ⊢; omega) ?_; intro v1 wn hown hgrow _))
        have GN := (GA.out.alloc _).app (c := (⟨(x : Int), true, 0⟩ : AccessD)) hown hgrow
        have RN : Rdr wn g (p' + 2) := (RA.out.below (below_alloc (Below.refl _ _) _)).grown hgrow (fun k hk => by have := (GA.out.row.lt k hk).1; omega)
        go_roundw
        case rel =>
          refine ⟨m - 1, _, (k + 1), (p' + 2), ?_, by go_num, GN, ?_, ?_, RN, by omega⟩
          · exact congrArg (Value.int .i64) (by omega)
          · simp; omega
          · simp; omega
        case measure => simp [intOf]; omega
      · have hy1 : y = 1 := by omega
        subst hy1
        have hpw : pw k = ((2 ^ k : Nat) : Int) := by rw [pw_eq k (by omega), two_cast]
        have hp2 : 2 ^ k ≤ 2 ^ 10 := Nat.pow_le_pow_right (by omega) (by omega)
        have hp1 := Nat.two_pow_pos k
        have HPW := Lib.hid (fun (W : World) => power_calls k W (by omega))
        rw [hpw] at HPW
        clear hpw
        obtain ⟨P2, hP2⟩ : ∃ P2, 2 ^ k = P2 := ⟨_, rfl⟩
        rw [hP2] at HPW hp2 hp1
        clear hP2
        go_wp2_with (go_at_call 58; refine (HPW.out _).mono ?_; rintro e w' ⟨rfl, rfl⟩)
        with_reducible refine (pick_calls g (p' + 2) P2 _ HR8.out (by omega) (by omega) (by omega)).mono ?_
        intro e w9 hpk
        obtain ⟨z, hz, rfl, hr9, hg9⟩ := hpk
        have HG9 := Lib.hid (HG8.out.pick hg9 hgz)
        have HEB9 := Lib.hid (HEB.out.grown hg9 (by simp; omega))
        have HR9 := Lib.hid hr9
        clear hg9 hr9 HG8 HEB HR8 e0' e1' e2' f1' f2' hbl
        go_wp2_with fail
        with_reducible refine (pick_at g (p' + 3) 2 2 _ HR9.out rfl (by omega) (by omega) (by omega)).mono ?_
        intro e w10 hpk
        obtain ⟨q, hq, rfl, hr10, hg10⟩ := hpk
        have HG10 := Lib.hid (HG9.out.pick hg10 hgz)
        have EB := HEB9.out.grown hg10 (by simp; omega)
        have e0' := EB.cell (i := 0) rfl
        have e1' := EB.cell (i := 1) rfl
        have e2' := EB.cell (i := 2) rfl
        have f2' := EB.free 2
        have hbl := EB.lt
        have hq1 : (q : Int) ≤ 1 := by omega
        obtain ⟨V, hV⟩ : ∃ V : Int, bits .and .i64 (z : Int) (255 - (q : Int)) = V := ⟨_, rfl⟩
        have HEB := Lib.hid (EB.seen_ V)
        have HG11 := Lib.hid (HG10.out.setc be 2 (.int .i64 V) hbw no)
        have HR11 := Lib.hid (hr10.grown (gset_grown w10 be 2 (.int .i64 V)) (fun k hk => by injection hk with hk; omega))
        have hnb := EB.lt
        clear hg10 hr10 HG9 HEB9 HR9 EB
        go_wp2_with fail
        generalize w10.setCell ⟨be, 2, none⟩ (.int .i64 V) = w11 at *
        with_reducible refine (pick_at g (p' + 4) 3 3 _ HR11.out rfl (by omega) (by omega) (by omega)).mono ?_
        intro e w12 hpk
        obtain ⟨r, hr, rfl, hr12, hg12⟩ := hpk
        have HG12 := Lib.hid (HG11.out.pick hg12 hgz)
        have EB := HEB.out.grown hg12 (by simp; omega)
        have q0 := EB.cell (i := 0) rfl
        have q1 := EB.cell (i := 1) rfl
        have q2 := EB.cell (i := 2) rfl
        have t2 := EB.free 2
        have hbl2 := EB.lt
        have HEB12 := Lib.hid EB
        have HR12 := Lib.hid hr12
        clear hg12 hr12 HG11 HEB HR11 HG10 EB e0' e1' e2' f2' hbl hnb hV
        by_cases hr0 : r = 0
        · subst hr0
          have EBA := Lib.hid (HEB12.out.seen_ ((P2 : Int) - 1))
          have GA := Lib.hid (HG12.out.setc be 2 (.int .i64 ((P2 : Int) - 1)) hbw no)
          have RA := Lib.hid (HR12.out.grown (gset_grown w12 be 2 (.int .i64 ((P2 : Int) - 1))) (fun k hk => by injection hk with hk; omega))
          have hP0 : (1 : Int) ≤ (P2 : Int) := by omega
          have hP1 : (P2 : Int) ≤ 1024 := by omega
          clear HG12 HEB12 HR12
          go_wp2_with (first | (go_at_call 58; refine (HPW.out _).mono ?_; rintro e w' ⟨rfl, rfl⟩) | (at_builtin; refine wpList_append_own _ rfl (.tmp 46) (.tmp 48) 25 rfl w.heap.size 44 i0 _ 3 24 Try.underlying25 hi0 hz0 hz1 hz2 rfl (by omega) _ cs.length (cs.flatMap AccessD.vals) rfl (GA.out.alloc _).row _ 1 1 (AccessD.vals (⟨(x : Int), false, (P2 : Int) - 1⟩ : AccessD)) rfl rfl (acc_new' _ (⟨(x : Int), false, (P2 : Int) - 1⟩ : AccessD) _ (by simp)) (vals_one _) (by unfold maxLen; omega) (by omega) (by have := GA.out.but.size; simp at this ⊢; omega) ?_; intro v1 wn hown hgrow _))
          have GN := (GA.out.alloc _).app (c := (⟨(x : Int), false, (P2 : Int) - 1⟩ : AccessD)) hown hgrow
          have RN : Rdr wn g (p' + 5) := (RA.out.below (below_alloc (Below.refl _ _) _)).grown hgrow (fun k hk => by have := (GA.out.row.lt k hk).1; omega)
          go_roundw
          case rel =>
            refine ⟨m - 1, _, k, (p' + 5), ?_, by go_num, GN, ?_, ?_, RN, by omega⟩
            · exact congrArg (Value.int .i64) (by omega)
            · simp; omega
            · simp; omega
          case measure => simp [intOf]; omega
        · have hrz : ((r : Int) == 0) = false := by simp; omega
          have GA := HG12
          have RA := HR12
          go_wp2_with (first | (at_builtin; refine wpList_append_own _ rfl (.tmp 46) (.tmp 48) 25 rfl w.heap.size 44 i0 _ 3 24 Try.underlying25 hi0 hz0 hz1 hz2 rfl (by omega) _ cs.length (cs.flatMap AccessD.vals) rfl (GA.out.alloc _).row _ 1 1 (AccessD.vals (⟨(x : Int), false, V⟩ : AccessD)) rfl rfl (acc_new' _ (⟨(x : Int), false, V⟩ : AccessD) _ (by simp)) (vals_one _) (by unfold maxLen; omega) (by omega) (by have := GA.out.but.size; simp at this ⊢; omega) ?_; intro v1 wn hown hgrow _))
          have GN := (GA.out.alloc _).app (c := (⟨(x : Int), false, V⟩ : AccessD)) hown hgrow
          have RN : Rdr wn g (p' + 5) := (RA.out.below (below_alloc (Below.refl _ _) _)).grown hgrow (fun k hk => by have := (GA.out.row.lt k hk).1; omega)
          go_roundw
          case rel =>
            refine ⟨m - 1, _, k, (p' + 5), ?_, by go_num, GN, ?_, ?_, RN, by omega⟩
            · exact congrArg (Value.int .i64) (by omega)
            · simp; omega
            · simp; omega
          case measure => simp [intOf]; omega
    · have e1 : m = 0 := by omega
      subst e1
      obtain ⟨l, hll⟩ : ∃ l, cs.length = l := ⟨_, rfl⟩
      have Hll := Lib.hid hll
      rw [hll] at HG3 hlen hkl hl0 ⊢
      clear hll
      have hl10 : (l : Int) ≤ 10 := by omega
      cases gd
      ·
        by_cases hz : 0 < l
        · go_wp2_with fail
          with_reducible refine (pick_at g p' 16 16 _ HRd.out rfl (by omega) (by omega) (by omega)).mono ?_
          intro e wA hpk
          obtain ⟨t, ht, rfl, hrA, hgA⟩ := hpk
          have HGA := Lib.hid (HG3.out.pick hgA hgz)
          have HRA := Lib.hid hrA
          clear hrA hgA
          by_cases ht0 : t = 0
          · subst ht0
            go_wp2_with fail
            with_reducible refine (pick_calls g (p' + 1) l _ HRA.out (by omega) (by omega) (by omega)).mono ?_
            intro e wB hpk
            obtain ⟨j, hj, rfl, hrB, hgB⟩ := hpk
            have HGB := Lib.hid (HGA.out.pick hgB hgz)
            have HRB := Lib.hid hrB
            clear hrB hgB HGA HRA
            go_wp2_with fail
            with_reducible refine (pick_at g (p' + 2) 2 2 _ HRB.out rfl (by omega) (by omega) (by omega)).mono ?_
            intro e wC hpk
            obtain ⟨u, hu, rfl, hrC, hgC⟩ := hpk
            have HGC := Lib.hid (HGB.out.pick hgC hgz)
            have HRC := Lib.hid hrC
            clear hrC hgC HGB HRB
            obtain ⟨c, hc⟩ : ∃ c, (cs)[j]? = some c := ⟨(cs)[j]'(by rw [Hll.out]; exact hj), List.getElem?_eq_getElem _⟩
            have Hc := Lib.hid hc
            clear hc
            have oo := HGC.out.row
            rw [Hll.out] at oo
            obtain ⟨go, rfl⟩ := own_some oo hz
            clear oo
            have hj0 : (0 : Int) ≤ (j : Int) := by omega
            have hjl : (j : Int) < (l : Int) := by omega
            by_cases hu0 : u = 0
            · subst hu0
              go_wp2_with fail
              with_reducible refine (one_at g (p' + 3) [3, -1] 2 #[.int .i64 3, .int .i64 (-1)] wC _ HRC.out rfl (by omega) rfl rfl (by omega) (by omega)).mono ?_
              intro e wD hone
              obtain ⟨zz, hzz, rfl, hrD, hgD⟩ := hone
              have HGD := Lib.hid (HGC.out.pick hgD hgz)
              have oo := HGD.out.row
              rw [Hll.out] at oo
              have hcell := own_cell oo (flat_at _ (fun c _ => AccessD.vals_len c) j c Hc.out 0 _ rfl)
              have hfree := own_free oo (j * 3 + 0)
              rw [Nat.add_zero] at hcell hfree
              have HRD := Lib.hid hrD
              have OO := Lib.hid oo
              clear hrD hgD oo hzz
              go_wp2_with fail
              go_ret
              exact bendA_end (f := 0) (p' := p' + 3 + 1) (c' := ⟨zz, c.write, c.seen⟩) Hll.out Hc.out (by omega) rfl OO.out (by omega) HGD.out.but (by omega) HRD.out hgz
            · have hu1 : u = 1 := by omega
              subst hu1
              have hpw : pw k = ((2 ^ k : Nat) : Int) := by rw [pw_eq k (by omega), two_cast]
              have HPW := Lib.hid (fun (W : World) => power_calls k W (by omega))
              rw [hpw] at HPW
              clear hpw
              generalize 2 ^ k = P2 at *
              go_wp2_with (go_at_call 58; refine (HPW.out _).mono ?_; rintro e w' ⟨rfl, rfl⟩)
              with_reducible refine (one_at g (p' + 3) [(P2 : Int), -1, 1] 3 #[.int .i64 P2, .int .i64 (-1), .int .i64 1] wC _ HRC.out rfl (by omega) rfl rfl (by omega) (by omega)).mono ?_
              intro e wD hone
              obtain ⟨zz, hzz, rfl, hrD, hgD⟩ := hone
              have HGD := Lib.hid (HGC.out.pick hgD hgz)
              have oo := HGD.out.row
              rw [Hll.out] at oo
              have hcell := own_cell oo (flat_at _ (fun c _ => AccessD.vals_len c) j c Hc.out 2 _ rfl)
              have hfree := own_free oo (j * 3 + 2)
              have HRD := Lib.hid hrD
              have OO := Lib.hid oo
              clear hrD hgD oo hzz
              go_wp2_with fail
              go_ret
              exact bendA_end (f := 2) (p' := p' + 3 + 1) (c' := ⟨c.session, c.write, zz⟩) Hll.out Hc.out (by omega) rfl OO.out (by omega) HGD.out.but (by omega) HRD.out hgz
          · have htz : ((t : Int) == 0) = false := by simp; omega
            go_wp2_with fail
            go_ret
            exact ⟨_, _, rfl, HGA.out.oo, by have := Hll.out; omega, HGA.out.but, _, by omega, HRA.out⟩
        · have hz0 : l = 0 := by omega
          subst hz0
          go_wp2_with fail
          go_ret
          exact ⟨_, _, rfl, HG3.out.oo, by have := Hll.out; omega, HG3.out.but, _, by omega, HRd.out⟩
      · obtain ⟨vb, hvb⟩ : ∃ b, accB cs = b := ⟨_, rfl⟩
        have HVB := Lib.hid hvb
        clear hvb
        have hrow : RowAccesss wr Ao cs := RowOf.of_own rfl (fun c _ => AccessD.vals_len c) (by have := HG3.out.row; rw [Hll.out] at this ⊢; exact this)
        have HRow := Lib.hid hrow
        have HVC := Lib.hid (fun (W : World) (hW : RowAccesss W Ao cs) => specValid_calls cs Ao co W hW (by have := Hll.out; omega) vb HVB.out)
        have HMC := Lib.hid (fun (W : World) (hW : RowAccesss W Ao cs) => specMendReads_calls cs Ao co W hW (by have := Hll.out; omega))
        rw [Hll.out] at HVC HMC
        clear hrow
        go_wp2_with fail
        refine (HVC.out _ HRow.out).mono ?_
        rintro e w2 ⟨rfl, hb2⟩
        have HG2 := Lib.hid (HG3.out.below hb2)
        have HR2 := Lib.hid (HRd.out.below hb2)
        have HRow2 := Lib.hid (HRow.out.below hb2)
        clear hb2 HG3 HRd HRow
        cases vb
        ·
          by_cases hz : 0 < l
          · go_wp2_with fail
            with_reducible refine (pick_at g p' 16 16 _ HR2.out rfl (by omega) (by omega) (by omega)).mono ?_
            intro e wA hpk
            obtain ⟨t, ht, rfl, hrA, hgA⟩ := hpk
            have HGA := Lib.hid (HG2.out.pick hgA hgz)
            have HRA := Lib.hid hrA
            clear hrA hgA
            by_cases ht0 : t = 0
            · subst ht0
              go_wp2_with fail
              with_reducible refine (pick_calls g (p' + 1) l _ HRA.out (by omega) (by omega) (by omega)).mono ?_
              intro e wB hpk
              obtain ⟨j, hj, rfl, hrB, hgB⟩ := hpk
              have HGB := Lib.hid (HGA.out.pick hgB hgz)
              have HRB := Lib.hid hrB
              clear hrB hgB HGA HRA
              go_wp2_with fail
              with_reducible refine (pick_at g (p' + 2) 2 2 _ HRB.out rfl (by omega) (by omega) (by omega)).mono ?_
              intro e wC hpk
              obtain ⟨u, hu, rfl, hrC, hgC⟩ := hpk
              have HGC := Lib.hid (HGB.out.pick hgC hgz)
              have HRC := Lib.hid hrC
              clear hrC hgC HGB HRB
              obtain ⟨c, hc⟩ : ∃ c, (cs)[j]? = some c := ⟨(cs)[j]'(by rw [Hll.out]; exact hj), List.getElem?_eq_getElem _⟩
              have Hc := Lib.hid hc
              clear hc
              have oo := HGC.out.row
              rw [Hll.out] at oo
              obtain ⟨go, rfl⟩ := own_some oo hz
              clear oo
              have hj0 : (0 : Int) ≤ (j : Int) := by omega
              have hjl : (j : Int) < (l : Int) := by omega
              by_cases hu0 : u = 0
              · subst hu0
                go_wp2_with fail
                with_reducible refine (one_at g (p' + 3) [3, -1] 2 #[.int .i64 3, .int .i64 (-1)] wC _ HRC.out rfl (by omega) rfl rfl (by omega) (by omega)).mono ?_
                intro e wD hone
                obtain ⟨zz, hzz, rfl, hrD, hgD⟩ := hone
                have HGD := Lib.hid (HGC.out.pick hgD hgz)
                have oo := HGD.out.row
                rw [Hll.out] at oo
                have hcell := own_cell oo (flat_at _ (fun c _ => AccessD.vals_len c) j c Hc.out 0 _ rfl)
                have hfree := own_free oo (j * 3 + 0)
                rw [Nat.add_zero] at hcell hfree
                have HRD := Lib.hid hrD
                have OO := Lib.hid oo
                clear hrD hgD oo hzz
                go_wp2_with fail
                go_ret
                exact bendA_end (f := 0) (p' := p' + 3 + 1) (c' := ⟨zz, c.write, c.seen⟩) Hll.out Hc.out (by omega) rfl OO.out (by omega) HGD.out.but (by omega) HRD.out hgz
              · have hu1 : u = 1 := by omega
                subst hu1
                have hpw : pw k = ((2 ^ k : Nat) : Int) := by rw [pw_eq k (by omega), two_cast]
                have HPW := Lib.hid (fun (W : World) => power_calls k W (by omega))
                rw [hpw] at HPW
                clear hpw
                generalize 2 ^ k = P2 at *
                go_wp2_with (go_at_call 58; refine (HPW.out _).mono ?_; rintro e w' ⟨rfl, rfl⟩)
                with_reducible refine (one_at g (p' + 3) [(P2 : Int), -1, 1] 3 #[.int .i64 P2, .int .i64 (-1), .int .i64 1] wC _ HRC.out rfl (by omega) rfl rfl (by omega) (by omega)).mono ?_
                intro e wD hone
                obtain ⟨zz, hzz, rfl, hrD, hgD⟩ := hone
                have HGD := Lib.hid (HGC.out.pick hgD hgz)
                have oo := HGD.out.row
                rw [Hll.out] at oo
                have hcell := own_cell oo (flat_at _ (fun c _ => AccessD.vals_len c) j c Hc.out 2 _ rfl)
                have hfree := own_free oo (j * 3 + 2)
                have HRD := Lib.hid hrD
                have OO := Lib.hid oo
                clear hrD hgD oo hzz
                go_wp2_with fail
                go_ret
                exact bendA_end (f := 2) (p' := p' + 3 + 1) (c' := ⟨c.session, c.write, zz⟩) Hll.out Hc.out (by omega) rfl OO.out (by omega) HGD.out.but (by omega) HRD.out hgz
            · have htz : ((t : Int) == 0) = false := by simp; omega
              go_wp2_with fail
              go_ret
              exact ⟨_, _, rfl, HGA.out.oo, by have := Hll.out; omega, HGA.out.but, _, by omega, HRA.out⟩
          · have hz0 : l = 0 := by omega
            subst hz0
            go_wp2_with fail
            go_ret
            exact ⟨_, _, rfl, HG2.out.oo, by have := Hll.out; omega, HG2.out.but, _, by omega, HR2.out⟩
        · go_wp2_with fail
          refine (HMC.out _ HRow2.out).mono ?_
          rintro e w4 ⟨v4, rfl, o4, hb4⟩
          have hml : (mendB cs).length = l := by simp only [mendB, HVB.out, if_pos]; rw [mendK_len, Hll.out]
          have HG4 := Lib.hid (show GenA w w4 g v4 (mendB cs) from ⟨HG2.out.but.below hb4, by unfold OwnAccesss at o4 ⊢; exact own_base o4 HG2.out.but.size⟩)
          have HR4 := Lib.hid (HR2.out.below hb4)
          have Hml := Lib.hid hml
          have oo4 := HG4.out.row
          rw [hml] at oo4
          obtain ⟨A4, c4, rfl, hc4, hm4, _⟩ := own_form oo4
          clear hml oo4 o4 hb4 HG2 HR2 HRow2 HMC HVC
          by_cases hz : 0 < l
          · go_wp2_with fail
            with_reducible refine (pick_at g p' 3 3 _ HR4.out rfl (by omega) (by omega) (by omega)).mono ?_
            intro e w5 hpk
            obtain ⟨r, hr, rfl, hr5, hg5⟩ := hpk
            have HG5 := Lib.hid (HG4.out.pick hg5 hgz)
            have HR5 := Lib.hid hr5
            clear hr5 hg5 HG4 HR4
            by_cases hr0 : r = 0
            · subst hr0
              go_wp2_with fail
              with_reducible refine (pick_calls g (p' + 1) l _ HR5.out (by omega) (by omega) (by omega)).mono ?_
              intro e w6 hpk
              obtain ⟨j, hj, rfl, hr6, hg6⟩ := hpk
              have HG6 := Lib.hid (HG5.out.pick hg6 hgz)
              have HR6 := Lib.hid hr6
              clear hr6 hg6 HG5 HR5
              obtain ⟨c, hc⟩ : ∃ c, (mendB cs)[j]? = some c := ⟨(mendB cs)[j]'(by rw [Hml.out]; exact hj), List.getElem?_eq_getElem _⟩
              have Hc := Lib.hid hc
              clear hc
              have oo := HG6.out.row
              rw [Hml.out] at oo
              obtain ⟨go, rfl⟩ := own_some oo hz
              have hcell := own_cell oo (flat_at _ (fun c _ => AccessD.vals_len c) j c Hc.out 2 _ rfl)
              have hfree := own_free oo (j * 3 + 2)
              have hgo := (oo.lt go rfl).1
              have OO := Lib.hid oo
              clear oo
              have hj0 : (0 : Int) ≤ (j : Int) := by omega
              have hjl : (j : Int) < (l : Int) := by omega
              obtain ⟨V3, hV3⟩ : ∃ V3, wrap64 (wrap64 (c.seen.tdiv 2) * 2) = V3 := ⟨_, rfl⟩
              have HG7 := Lib.hid (bendA_mid (f := 2) (c' := ⟨c.session, c.write, V3⟩) Hml.out Hc.out (by omega) rfl OO.out HG6.out.but)
              have HR7 := Lib.hid (HR6.out.grown (gset_grown w6 go (j * 3 + 2) (.int .i64 V3)) (fun k hk => by injection hk with hk; omega))
              have Hm7 := Lib.hid (show ((mendB cs).set j ⟨c.session, c.write, V3⟩).length = l by rw [List.length_set]; exact Hml.out)
              clear HG6 HR6 OO
              go_wp2_with fail
              clear hcell hfree hV3
              generalize w6.setCell ⟨go, j * 3 + 2, none⟩ (.int .i64 V3) = w7 at *
              obtain ⟨CS7, hCS7⟩ : ∃ L, (mendB cs).set j ⟨c.session, c.write, V3⟩ = L := ⟨_, rfl⟩
              rw [hCS7] at HG7 Hm7
              have HZ := Lib.hid hz
              clear hCS7 Hc hz hj0 hjl hj hgo
              generalize (some ⟨go, 0, none⟩ : Option Addr) = A7 at *
              by_cases hz : 0 < l
              · go_wp2_with fail
                with_reducible refine (pick_at g (p' + 2) 16 16 _ HR7.out rfl (by omega) (by omega) (by omega)).mono ?_
                intro e wA hpk
                obtain ⟨t, ht, rfl, hrA, hgA⟩ := hpk
                have HGA := Lib.hid (HG7.out.pick hgA hgz)
                have HRA := Lib.hid hrA
                clear hrA hgA
                by_cases ht0 : t = 0
                · subst ht0
                  go_wp2_with fail
                  with_reducible refine (pick_calls g ((p' + 2) + 1) l _ HRA.out (by omega) (by omega) (by omega)).mono ?_
                  intro e wB hpk
                  obtain ⟨j, hj, rfl, hrB, hgB⟩ := hpk
                  have HGB := Lib.hid (HGA.out.pick hgB hgz)
                  have HRB := Lib.hid hrB
                  clear hrB hgB HGA HRA
                  go_wp2_with fail
                  with_reducible refine (pick_at g ((p' + 2) + 2) 2 2 _ HRB.out rfl (by omega) (by omega) (by omega)).mono ?_
                  intro e wC hpk
                  obtain ⟨u, hu, rfl, hrC, hgC⟩ := hpk
                  have HGC := Lib.hid (HGB.out.pick hgC hgz)
                  have HRC := Lib.hid hrC
                  clear hrC hgC HGB HRB
                  obtain ⟨c, hc⟩ : ∃ c, (CS7)[j]? = some c := ⟨(CS7)[j]'(by rw [Hm7.out]; exact hj), List.getElem?_eq_getElem _⟩
                  have Hc := Lib.hid hc
                  clear hc
                  have oo := HGC.out.row
                  rw [Hm7.out] at oo
                  obtain ⟨go, rfl⟩ := own_some oo hz
                  clear oo
                  have hj0 : (0 : Int) ≤ (j : Int) := by omega
                  have hjl : (j : Int) < (l : Int) := by omega
                  by_cases hu0 : u = 0
                  · subst hu0
                    go_wp2_with fail
                    with_reducible refine (one_at g ((p' + 2) + 3) [3, -1] 2 #[.int .i64 3, .int .i64 (-1)] wC _ HRC.out rfl (by omega) rfl rfl (by omega) (by omega)).mono ?_
                    intro e wD hone
                    obtain ⟨zz, hzz, rfl, hrD, hgD⟩ := hone
                    have HGD := Lib.hid (HGC.out.pick hgD hgz)
                    have oo := HGD.out.row
                    rw [Hm7.out] at oo
                    have hcell := own_cell oo (flat_at _ (fun c _ => AccessD.vals_len c) j c Hc.out 0 _ rfl)
                    have hfree := own_free oo (j * 3 + 0)
                    rw [Nat.add_zero] at hcell hfree
                    have HRD := Lib.hid hrD
                    have OO := Lib.hid oo
                    clear hrD hgD oo hzz
                    go_wp2_with fail
                    go_ret
                    exact bendA_end (f := 0) (p' := (p' + 2) + 3 + 1) (c' := ⟨zz, c.write, c.seen⟩) Hm7.out Hc.out (by omega) rfl OO.out (by omega) HGD.out.but (by omega) HRD.out hgz
                  · have hu1 : u = 1 := by omega
                    subst hu1
                    have hpw : pw k = ((2 ^ k : Nat) : Int) := by rw [pw_eq k (by omega), two_cast]
                    have HPW := Lib.hid (fun (W : World) => power_calls k W (by omega))
                    rw [hpw] at HPW
                    clear hpw
                    generalize 2 ^ k = P2 at *
                    go_wp2_with (go_at_call 58; refine (HPW.out _).mono ?_; rintro e w' ⟨rfl, rfl⟩)
                    with_reducible refine (one_at g ((p' + 2) + 3) [(P2 : Int), -1, 1] 3 #[.int .i64 P2, .int .i64 (-1), .int .i64 1] wC _ HRC.out rfl (by omega) rfl rfl (by omega) (by omega)).mono ?_
                    intro e wD hone
                    obtain ⟨zz, hzz, rfl, hrD, hgD⟩ := hone
                    have HGD := Lib.hid (HGC.out.pick hgD hgz)
                    have oo := HGD.out.row
                    rw [Hm7.out] at oo
                    have hcell := own_cell oo (flat_at _ (fun c _ => AccessD.vals_len c) j c Hc.out 2 _ rfl)
                    have hfree := own_free oo (j * 3 + 2)
                    have HRD := Lib.hid hrD
                    have OO := Lib.hid oo
                    clear hrD hgD oo hzz
                    go_wp2_with fail
                    go_ret
                    exact bendA_end (f := 2) (p' := (p' + 2) + 3 + 1) (c' := ⟨c.session, c.write, zz⟩) Hm7.out Hc.out (by omega) rfl OO.out (by omega) HGD.out.but (by omega) HRD.out hgz
                · have htz : ((t : Int) == 0) = false := by simp; omega
                  go_wp2_with fail
                  go_ret
                  exact ⟨_, _, rfl, HGA.out.oo, by have := Hm7.out; omega, HGA.out.but, _, by omega, HRA.out⟩
              · exact absurd HZ.out hz
            · have hrz : ((r : Int) == 0) = false := by simp; omega
              have HZ := Lib.hid hz
              clear hz
              by_cases hz : 0 < l
              · go_wp2_with fail
                with_reducible refine (pick_at g (p' + 1) 16 16 _ HR5.out rfl (by omega) (by omega) (by omega)).mono ?_
                intro e wA hpk
                obtain ⟨t, ht, rfl, hrA, hgA⟩ := hpk
                have HGA := Lib.hid (HG5.out.pick hgA hgz)
                have HRA := Lib.hid hrA
                clear hrA hgA
                by_cases ht0 : t = 0
                · subst ht0
                  go_wp2_with fail
                  with_reducible refine (pick_calls g ((p' + 1) + 1) l _ HRA.out (by omega) (by omega) (by omega)).mono ?_
                  intro e wB hpk
                  obtain ⟨j, hj, rfl, hrB, hgB⟩ := hpk
                  have HGB := Lib.hid (HGA.out.pick hgB hgz)
                  have HRB := Lib.hid hrB
                  clear hrB hgB HGA HRA
                  go_wp2_with fail
                  with_reducible refine (pick_at g ((p' + 1) + 2) 2 2 _ HRB.out rfl (by omega) (by omega) (by omega)).mono ?_
                  intro e wC hpk
                  obtain ⟨u, hu, rfl, hrC, hgC⟩ := hpk
                  have HGC := Lib.hid (HGB.out.pick hgC hgz)
                  have HRC := Lib.hid hrC
                  clear hrC hgC HGB HRB
                  obtain ⟨c, hc⟩ : ∃ c, (mendB cs)[j]? = some c := ⟨(mendB cs)[j]'(by rw [Hml.out]; exact hj), List.getElem?_eq_getElem _⟩
                  have Hc := Lib.hid hc
                  clear hc
                  have oo := HGC.out.row
                  rw [Hml.out] at oo
                  obtain ⟨go, rfl⟩ := own_some oo hz
                  clear oo
                  have hj0 : (0 : Int) ≤ (j : Int) := by omega
                  have hjl : (j : Int) < (l : Int) := by omega
                  by_cases hu0 : u = 0
                  · subst hu0
                    go_wp2_with fail
                    with_reducible refine (one_at g ((p' + 1) + 3) [3, -1] 2 #[.int .i64 3, .int .i64 (-1)] wC _ HRC.out rfl (by omega) rfl rfl (by omega) (by omega)).mono ?_
                    intro e wD hone
                    obtain ⟨zz, hzz, rfl, hrD, hgD⟩ := hone
                    have HGD := Lib.hid (HGC.out.pick hgD hgz)
                    have oo := HGD.out.row
                    rw [Hml.out] at oo
                    have hcell := own_cell oo (flat_at _ (fun c _ => AccessD.vals_len c) j c Hc.out 0 _ rfl)
                    have hfree := own_free oo (j * 3 + 0)
                    rw [Nat.add_zero] at hcell hfree
                    have HRD := Lib.hid hrD
                    have OO := Lib.hid oo
                    clear hrD hgD oo hzz
                    go_wp2_with fail
                    go_ret
                    exact bendA_end (f := 0) (p' := (p' + 1) + 3 + 1) (c' := ⟨zz, c.write, c.seen⟩) Hml.out Hc.out (by omega) rfl OO.out (by omega) HGD.out.but (by omega) HRD.out hgz
                  · have hu1 : u = 1 := by omega
                    subst hu1
                    have hpw : pw k = ((2 ^ k : Nat) : Int) := by rw [pw_eq k (by omega), two_cast]
                    have HPW := Lib.hid (fun (W : World) => power_calls k W (by omega))
                    rw [hpw] at HPW
                    clear hpw
                    generalize 2 ^ k = P2 at *
                    go_wp2_with (go_at_call 58; refine (HPW.out _).mono ?_; rintro e w' ⟨rfl, rfl⟩)
                    with_reducible refine (one_at g ((p' + 1) + 3) [(P2 : Int), -1, 1] 3 #[.int .i64 P2, .int .i64 (-1), .int .i64 1] wC _ HRC.out rfl (by omega) rfl rfl (by omega) (by omega)).mono ?_
                    intro e wD hone
                    obtain ⟨zz, hzz, rfl, hrD, hgD⟩ := hone
                    have HGD := Lib.hid (HGC.out.pick hgD hgz)
                    have oo := HGD.out.row
                    rw [Hml.out] at oo
                    have hcell := own_cell oo (flat_at _ (fun c _ => AccessD.vals_len c) j c Hc.out 2 _ rfl)
                    have hfree := own_free oo (j * 3 + 2)
                    have HRD := Lib.hid hrD
                    have OO := Lib.hid oo
                    clear hrD hgD oo hzz
                    go_wp2_with fail
                    go_ret
                    exact bendA_end (f := 2) (p' := (p' + 1) + 3 + 1) (c' := ⟨c.session, c.write, zz⟩) Hml.out Hc.out (by omega) rfl OO.out (by omega) HGD.out.but (by omega) HRD.out hgz
                · have htz : ((t : Int) == 0) = false := by simp; omega
                  go_wp2_with fail
                  go_ret
                  exact ⟨_, _, rfl, HGA.out.oo, by have := Hml.out; omega, HGA.out.but, _, by omega, HRA.out⟩
              · exact absurd HZ.out hz
          · have hz0 : l = 0 := by omega
            subst hz0
            go_wp2_with fail
            refine bodyPost_ret (v := .slice A4 0 c4) (by simp [results, Try.results43, go_sem]) rfl ?_
            exact ⟨_, _, rfl, HG4.out.oo, by have := Hml.out; omega, HG4.out.but, _, by omega, HR4.out⟩
end Go.Proofs.Ytooigcfdkmgjnaa
