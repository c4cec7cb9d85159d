/-
  The events that the generator draws: at most seven, in memory of the call's own. Asked: at most a thousand picks before.
-/
import Derived.Test.YtmeehfiekhdbkaaGen
import Derived.Test.YtmeehfiekhdbkaaEventS
import Derived.Test.YtmeehfiekhdbkaaIntS
import Derived.Test.YtmeehfiekhdbkaaPastP
import Derived.BigGuardPart
namespace Go.Proofs.Ytmeehfiekhdbkaa
open Go.RowKit
set_option maxRecDepth 100000

def EvBlk (w : World) (b : Nat) (e : EventD) : Prop := w.heap[b]? = some (.cells e.vals.toArray 41 (0, 0))
theorem EvBlk.lt {w : World} {b : Nat} {e : EventD} (h : EvBlk w b e) : b < w.heap.size := (Array.getElem?_eq_some_iff.1 h).1
theorem EvBlk.cell {w : World} {b i : Nat} {e : EventD} {v : Value} (h : EvBlk w b e) (hi : e.vals[i]? = some v) : w.cell? ⟨b, i, none⟩ = some v := by
  rw [cell_of_row w b i _ _ _ h]; simpa using hi
theorem EvBlk.free {w : World} {b : Nat} {e : EventD} (h : EvBlk w b e) (i : Nat) : w.frozen? ⟨b, i, none⟩ = false := frozen_of_row w b i _ _ h
theorem EvBlk.grown {w w' : World} {b : Nat} {e : EventD} {row : Option Nat} (h : EvBlk w b e) (hg : w.grownBy w' row) (hne : some b ≠ row) : EvBlk w' b e := (hg.block b h.lt hne).trans h
theorem EvBlk.below {w w' : World} {b : Nat} {e : EventD} (h : EvBlk w b e) (hb : Below w.heap.size w w') : EvBlk w' b e := (hb.block b h.lt).trans h
theorem EvBlk.kind_ {w : World} {b : Nat} {e : EventD} (h : EvBlk w b e) (x : Int) : EvBlk (w.setCell ⟨b, 1, none⟩ (.int .i64 x)) b ⟨e.proc, x, e.msg⟩ := by
  have := heap_setCell_same w b 1 _ _ (.int .i64 x) h
  unfold EvBlk
  rw [this]; rfl
theorem EvBlk.msg_ {w : World} {b : Nat} {e : EventD} (h : EvBlk w b e) (x : Int) : EvBlk (w.setCell ⟨b, 2, none⟩ (.int .i64 x)) b ⟨e.proc, e.kind, x⟩ := by
  have := heap_setCell_same w b 2 _ _ (.int .i64 x) h
  unfold EvBlk
  rw [this]; rfl
theorem ev_new (w : World) (e : EventD) (E : TypeId) : ∀ j u, e.vals[j]? = some u → (w.alloc (.cells e.vals.toArray E)).cell? ((⟨w.heap.size, 0, none⟩ : Addr).add j) = some u := by
  intro j u hu
  rw [Addr.add_lit, Nat.zero_add, World.cell?_alloc_new]
  simpa using hu

theorem ev_new' (w : World) (e : EventD) (E : TypeId) {n : Nat} (hn : n = w.heap.size) : ∀ j u, e.vals[j]? = some u → (w.alloc (.cells e.vals.toArray E)).cell? ((⟨n, 0, none⟩ : Addr).add j) = some u := by
  subst hn
  exact ev_new w e E
theorem int_new' (w : World) (x : Int) (E : TypeId) {n : Nat} (hn : n = w.heap.size) : ∀ j u, [Value.int .i64 x][j]? = some u → (w.alloc (.cells #[.int .i64 x] E)).cell? ((⟨n, 0, none⟩ : Addr).add j) = some u := by
  subst hn
  exact int_new w x E
structure Gen3 (w0 w : World) (g : Nat) (o s t : Value) (cs : List EventD) (ss ts : List Int) : Prop where
  but : But g w0 w
  oo : OwnEvents w w0.heap.size o cs
  so : OwnInts w w0.heap.size s ss
  to : OwnInts w w0.heap.size t ts
  os : ∀ k, o.ownBlock = some k → s.ownBlock ≠ some k
  ot : ∀ k, o.ownBlock = some k → t.ownBlock ≠ some k
  st : ∀ k, s.ownBlock = some k → t.ownBlock ≠ some k
section
variable {w0 w w' : World} {g : Nat} {o s t : Value} {cs : List EventD} {ss ts : List Int}
theorem Gen3.below (h : Gen3 w0 w g o s t cs ss ts) (hb : Below w.heap.size w w') : Gen3 w0 w' g o s t cs ss ts :=
  ⟨h.but.below hb, own_below h.oo hb, own_below h.so hb, own_below h.to hb, h.os, h.ot, h.st⟩
theorem Gen3.alloc (h : Gen3 w0 w g o s t cs ss ts) (x : Obj) : Gen3 w0 (w.alloc x) g o s t cs ss ts := h.below (below_alloc (Below.refl _ _) _)
theorem kept_ne {E : TypeId} {sz n B : Nat} {v : Value} {xs : List Value} {row : Option Nat} (h : w.ownsRow B E sz v n xs) (hg : w.grownBy w' row) (hne : ∀ k, v.ownBlock = some k → row ≠ some k) : w'.ownsRow B E sz v n xs := by
  refine h.kept hg ?_
  cases hv : v.ownBlock with
  | none => exact .inl rfl
  | some k => exact .inr (fun e => hne k hv e.symm)
theorem Gen3.pick (h : Gen3 w0 w g o s t cs ss ts) (hg : w.grownBy w' (some g)) (hgl : g < w0.heap.size) : Gen3 w0 w' g o s t cs ss ts := by
  have ne : ∀ {E : TypeId} {sz n : Nat} {v : Value} {xs : List Value}, w.ownsRow w0.heap.size E sz v n xs → w'.ownsRow w0.heap.size E sz v n xs :=
    fun ho => kept_ne ho hg (fun k hk e => by have := (ho.lt k hk).1; injection e with e; omega)
  exact ⟨h.but.trans hg, ne h.oo, ne h.so, ne h.to, h.os, h.ot, h.st⟩
theorem Gen3.setc (h : Gen3 w0 w g o s t cs ss ts) (b i : Nat) (v : Value) (hb : w0.heap.size ≤ b) (ho : o.ownBlock ≠ some b) (hs : s.ownBlock ≠ some b) (ht : t.ownBlock ≠ some b) : Gen3 w0 (w.setCell ⟨b, i, none⟩ v) g o s t cs ss ts :=
  ⟨h.but.own (gset_grown w b i v) (fun k hk => by injection hk with hk; omega), kept_ne h.oo (gset_grown w b i v) (fun k hk e => ho (by rw [hk, e])), kept_ne h.so (gset_grown w b i v) (fun k hk e => hs (by rw [hk, e])),
    kept_ne h.to (gset_grown w b i v) (fun k hk e => ht (by rw [hk, e])), h.os, h.ot, h.st⟩
theorem own_new {B : Nat} {E : TypeId} {sz n H : Nat} {v v' : Value} {xs : List Value} {gg : Nat} (ho : w.ownsRow B E sz v' n xs) (hap : ∀ k, v.ownBlock = some k → v'.ownBlock ≠ some k) (hat : v.ownBlock = some gg ∨ gg = H) (hH : w.heap.size = H) : v'.ownBlock ≠ some gg := by
  subst hH
  rcases hat with e | e
  · exact hap gg e
  · intro hk; have := (ho.lt _ hk).2; omega
theorem Gen3.app_o (h : Gen3 w0 w g o s t cs ss ts) {gg cap H : Nat} {c : EventD} (hn : w'.ownsRow w0.heap.size 41 3 (.slice (some ⟨gg, 0, none⟩) (cs.length + 1) cap) (cs.length + 1) (cs.flatMap EventD.vals ++ c.vals))
    (hg : w.grownBy w' o.ownBlock) (hat : o.ownBlock = some gg ∨ gg = H) (hH : w.heap.size = H) : Gen3 w0 w' g (.slice (some ⟨gg, 0, none⟩) (cs.length + 1) cap) s t (cs ++ [c]) ss ts := by
  refine ⟨h.but.own hg (fun k hk => (h.oo.lt k hk).1), ?_, kept_ne h.so hg (fun k hk e => h.os k e hk), kept_ne h.to hg (fun k hk e => h.ot k e hk), ?_, ?_, h.st⟩
  · unfold OwnEvents
    simpa using hn
  · intro k hk
    simp only [Value.ownBlock, Option.some.injEq] at hk
    subst hk
    exact own_new h.so h.os hat hH
  · intro k hk
    simp only [Value.ownBlock, Option.some.injEq] at hk
    subst hk
    exact own_new h.to h.ot hat hH
theorem Gen3.app_s (h : Gen3 w0 w g o s t cs ss ts) {gg cap H : Nat} {x : Int} (hn : w'.ownsRow w0.heap.size 3 1 (.slice (some ⟨gg, 0, none⟩) (ss.length + 1) cap) (ss.length + 1) (ss.flatMap intVals ++ [.int .i64 x]))
    (hg : w.grownBy w' s.ownBlock) (hat : s.ownBlock = some gg ∨ gg = H) (hH : w.heap.size = H) : Gen3 w0 w' g o (.slice (some ⟨gg, 0, none⟩) (ss.length + 1) cap) t cs (ss ++ [x]) ts := by
  refine ⟨h.but.own hg (fun k hk => (h.so.lt k hk).1), kept_ne h.oo hg (fun k hk e => h.os k hk e), ?_, kept_ne h.to hg (fun k hk e => h.st k e hk), ?_, h.ot, ?_⟩
  · unfold OwnInts
    simpa [intVals] using hn
  · intro k hk e
    simp only [Value.ownBlock, Option.some.injEq] at e
    subst e
    exact own_new h.oo (fun k h1 h2 => h.os k h2 h1) hat hH hk
  · intro k hk
    simp only [Value.ownBlock, Option.some.injEq] at hk
    subst hk
    exact own_new h.to h.st hat hH
theorem Gen3.app_t (h : Gen3 w0 w g o s t cs ss ts) {gg cap H : Nat} {x : Int} (hn : w'.ownsRow w0.heap.size 3 1 (.slice (some ⟨gg, 0, none⟩) (ts.length + 1) cap) (ts.length + 1) (ts.flatMap intVals ++ [.int .i64 x]))
    (hg : w.grownBy w' t.ownBlock) (hat : t.ownBlock = some gg ∨ gg = H) (hH : w.heap.size = H) : Gen3 w0 w' g o s (.slice (some ⟨gg, 0, none⟩) (ts.length + 1) cap) cs ss (ts ++ [x]) := by
  refine ⟨h.but.own hg (fun k hk => (h.to.lt k hk).1), kept_ne h.oo hg (fun k hk e => h.ot k hk e), kept_ne h.so hg (fun k hk e => h.st k hk e), ?_, h.os, ?_, ?_⟩
  · unfold OwnInts
    simpa [intVals] using hn
  · intro k hk e
    simp only [Value.ownBlock, Option.some.injEq] at e
    subst e
    exact own_new h.oo (fun k h1 h2 => h.ot k h2 h1) hat hH hk
  · intro k hk e
    simp only [Value.ownBlock, Option.some.injEq] at e
    subst e
    exact own_new h.so (fun k h1 h2 => h.st k h2 h1) hat hH hk
end

/-- The loop's relation. -/
def GenRel (w0 : World) (g p : Nat) (o s t n : Value) (wr : World) : Prop :=
  ∃ (m : Nat) (cs : List EventD) (ss ts : List Int) (p' : Nat), n = .int .i64 m ∧ Gen3 w0 wr g o s t cs ss ts ∧ cs.length + m ≤ 7 ∧ ss.length ≤ cs.length ∧ ts.length ≤ cs.length ∧ (∀ c ∈ cs, c.good) ∧ Rdr wr g p' ∧ p' + 2 * m ≤ p + 20
theorem good_small {e : EventD} (h1 : -100 ≤ e.proc ∧ e.proc ≤ 100) (h2 : -100 ≤ e.kind ∧ e.kind ≤ 100) (h3 : -100 ≤ e.msg ∧ e.msg ≤ 100) : e.good := by
  refine ⟨⟨?_, ?_⟩, ⟨?_, ?_⟩, ⟨?_, ?_⟩⟩ <;> omega

def SomeEv (w w' : World) (g p : Nat) (e : Ending) : Prop := ∃ v cs, e = .returned v ∧ OwnEvents w' w.heap.size v cs ∧ (∀ c ∈ cs, c.good) ∧ cs.length ≤ 7 ∧ But g w w' ∧ ∃ p', p' ≤ p + 30 ∧ Rdr w' g p'
theorem bend_end {w w1 : World} {g p p' go cap k f : Nat} {cs : List EventD} {c c' : EventD} {x : Int} (hc : cs[k]? = some c) (hf : f < 3) (he : EventD.vals c' = (EventD.vals c).set f (.int .i64 x)) (hg' : c'.good) (ho : w1.ownsRow w.heap.size 41 3 (.slice (some ⟨go, 0, none⟩) cs.length cap) cs.length (cs.flatMap EventD.vals))
    (hgood : ∀ c ∈ cs, c.good) (hl : cs.length ≤ 7) (hb : But g w w1) (hp : p' ≤ p + 30) (hr : Rdr w1 g p') (hgz : g < w.heap.size) :
    SomeEv w (w1.setCell ⟨go, k * 3 + f, none⟩ (.int .i64 x)) g p (.returned (.slice (some ⟨go, 0, none⟩) cs.length cap)) := by
  have hk : k < cs.length := (List.getElem?_eq_some_iff.1 hc).1
  have hlt := ho.lt go rfl
  refine ⟨_, cs.set k c', rfl, ?_, ?_, by simpa using hl, hb.own (gset_grown w1 go _ _) (fun i hi => by injection hi with hi; omega), p', hp, hr.grown (gset_grown w1 go _ _) (fun i hi => by injection hi with hi; omega)⟩
  · unfold OwnEvents
    rw [List.length_set, ← flat_set (fun c => EventD.vals_len c) cs k f c c' _ hc hf he]
    exact own_set ho (by omega) _
  · intro d hd
    rcases List.mem_or_eq_of_mem_set hd with h1 | h1
    · exact hgood d h1
    · rw [h1]; exact hg'

set_option maxHeartbeats 16000000 in
theorem someEvents_calls (g p : Nat) (w : World) (h : Rdr w g p) (hp : p ≤ 1000) :
    Calls Try.prog 41 #[.pointer (some ⟨g, 0, none⟩)] w fun e w' => SomeEv w w' g p e := by
  obtain ⟨i0, hi0, hz0, hz1, hz2⟩ := info_parts ints_info
  obtain ⟨e0, he0, hy0, hy1, hy2⟩ := info_parts info_impl_Event
  have hgz := h.lt
  have HH := Lib.hid h
  clear h
  go_enter Try.func41, Try.ntmps41
  go_wp2_with fail
  have hst : Gen3 w (((w.alloc (.cells #[] 41)).alloc (.cells #[] 3)).alloc (.cells #[] 3)) g (.slice (some ⟨w.heap.size, 0, none⟩) 0 0) (.slice (some ⟨w.heap.size + 1, 0, none⟩) 0 0) (.slice (some ⟨w.heap.size + 1 + 1, 0, none⟩) 0 0) [] [] [] := by
    have b1 : Below w.heap.size w (w.alloc (.cells #[] 41)) := below_alloc (Below.refl _ _) _
    have o1 : OwnEvents (w.alloc (.cells #[] 41)) w.heap.size (.slice (some ⟨w.heap.size, 0, none⟩) 0 0) [] := World.ownsRow_made w #[] 0 (Nat.le_refl _) (by simp [maxLen]) rfl
    have o2 : OwnInts ((w.alloc (.cells #[] 41)).alloc (.cells #[] 3)) w.heap.size (.slice (some ⟨w.heap.size + 1, 0, none⟩) 0 0) [] := by
      have := World.ownsRow_made (base := w.heap.size) (e := 3) (size := 1) (w.alloc (.cells #[] 41)) #[] 0 (by simp) (by simp [maxLen]) rfl
      unfold OwnInts
      simpa using this
    have o3 : OwnInts (((w.alloc (.cells #[] 41)).alloc (.cells #[] 3)).alloc (.cells #[] 3)) w.heap.size (.slice (some ⟨w.heap.size + 1 + 1, 0, none⟩) 0 0) [] := by
      have := World.ownsRow_made (base := w.heap.size) (e := 3) (size := 1) ((w.alloc (.cells #[] 41)).alloc (.cells #[] 3)) #[] 0 (by simp; omega) (by simp [maxLen]) rfl
      unfold OwnInts
      simpa using this
    refine ⟨(((But.refl g w).alloc _).alloc _).alloc _, own_below (own_below o1 (below_alloc (Below.refl _ _) _)) (below_alloc (Below.refl _ _) _), own_below o2 (below_alloc (Below.refl _ _) _), o3, ?_, ?_, ?_⟩ <;> (intro k hk; simp only [Value.ownBlock, Option.some.injEq] at hk; simp only [Value.ownBlock, ne_eq, Option.some.injEq]; omega)
  have hr0 : Rdr (((w.alloc (.cells #[] 41)).alloc (.cells #[] 3)).alloc (.cells #[] 3)) g p := HH.out.below (below_alloc (below_alloc (below_alloc (Below.refl _ _) _) _) _)
  have hsz : (((w.alloc (.cells #[] 41)).alloc (.cells #[] 3)).alloc (.cells #[] 3)).heap.size = w.heap.size + 1 + 1 + 1 := by simp
  generalize ((w.alloc (.cells #[] 41)).alloc (.cells #[] 3)).alloc (.cells #[] 3) = w3 at *
  with_reducible refine (one_at g p [2, 3, 3, 1] 4 #[.int .i64 2, .int .i64 3, .int .i64 3, .int .i64 1] w3 _ hr0 hsz (by omega) rfl rfl (by omega) (by omega)).mono ?_
  intro e w4 hone
  obtain ⟨pr, hpr, rfl, hr1, hg1⟩ := hone
  have hst1 := hst.pick hg1 hgz
  have hpr' : 1 ≤ pr ∧ pr ≤ 3 := by simp at hpr; omega
  have Hr1 := Lib.hid hr1
  have Hst1 := Lib.hid hst1
  clear hr1 hst hst1 hr0 hsz hpr hg1
  go_wp2_with fail
  with_reducible refine (one_at g (p + 1) [5, 6, 4, 7, 3, 2, 1, 0] 8 #[.int .i64 5, .int .i64 6, .int .i64 4, .int .i64 7, .int .i64 3, .int .i64 2, .int .i64 1, .int .i64 0] w4 _ Hr1.out rfl (by omega) rfl rfl (by omega) (by omega)).mono ?_
  intro e w5 hone
  obtain ⟨n0, hn0, rfl, hr2, hg2⟩ := hone
  have hst2 := Hst1.out.pick hg2 hgz
  obtain ⟨N, hN, hN7⟩ : ∃ N : Nat, n0 = N ∧ N ≤ 7 := ⟨n0.toNat, by simp at hn0; omega, by simp at hn0; omega⟩
  subst hN
  obtain ⟨PR, hPR, hPR1, hPR3⟩ : ∃ P : Nat, pr = P ∧ 1 ≤ P ∧ P ≤ 3 := ⟨pr.toNat, by omega, by omega, by omega⟩
  subst hPR
  have Hrel := Lib.hid (show GenRel w g p (.slice (some ⟨w.heap.size, 0, none⟩) 0 0) (.slice (some ⟨w.heap.size + 1, 0, none⟩) 0 0) (.slice (some ⟨w.heap.size + 1 + 1, 0, none⟩) 0 0) (.int .i64 N) w5 from ⟨N, [], [], [], p + 2, rfl, hst2, by simp; omega, by simp, by simp, by simp, hr2, by omega⟩)
  clear hr2 hg2 hst2 hn0 hpr'
  go_wp2_with fail
  go_loopw [3, 4, 5, 7] (fun o s t n wr => GenRel w g p o s t n wr) (fun _ _ _ n _ => (intOf n).toNat)
  case atStart => exact Hrel.out
  case round =>
    clear Hrel
    unfold GenRel at hrel
    obtain ⟨m, cs, ss, ts, p', rfl, G3, hlen, hsl, htl, hgood, hrd, hpp⟩ := hrel
    by_cases hm : 0 < m
    · have oo : wr.ownsRow w.heap.size 41 3 _ cs.length (cs.flatMap EventD.vals) := G3.oo
      have so : wr.ownsRow w.heap.size 3 1 _ ss.length (ss.flatMap intVals) := G3.so
      have to : wr.ownsRow w.heap.size 3 1 _ ts.length (ts.flatMap intVals) := G3.to
      obtain ⟨Ao, co, rfl, hoc, hom, _⟩ := own_form oo
      obtain ⟨As, ks, rfl, hsc, hsm, _⟩ := own_form so
      obtain ⟨At, kt, rfl, htc, htm, _⟩ := own_form to
      have HG3 := Lib.hid G3
      have HRd := Lib.hid hrd
      have HGood := Lib.hid hgood
      have hwz := G3.but.size
      clear G3 hrd hgood oo so to
      have hm0 : (0 : Int) < (m : Int) := by omega
      have hm7 : (m : Int) ≤ 7 := by omega
      go_wp2_with fail
      with_reducible refine (pick_calls g p' PR _ HRd.out (by omega) hPR1 (by omega)).mono ?_
      intro e w6 hpk
      obtain ⟨x, hx, rfl, hr6, hg6⟩ := hpk
      have HG6 := Lib.hid (HG3.out.pick hg6 hgz)
      have hz6 := hg6.size
      have HR6 := Lib.hid hr6
      clear hg6 hr6 HG3 HRd
      go_wp2_with fail
      have EB0 : EvBlk (w6.alloc (.cells #[.int .i64 x, .int .i64 0, .int .i64 0] 41)) w6.heap.size ⟨x, 0, 0⟩ := heap_alloc_new _ _
      have G7 := HG6.out.alloc (.cells #[.int .i64 x, .int .i64 0, .int .i64 0] 41)
      have R7 := HR6.out.below (below_alloc (Below.refl _ _) (.cells #[.int .i64 x, .int .i64 0, .int .i64 0] 41))
      have no : (Value.slice Ao cs.length co).ownBlock ≠ some w6.heap.size := fun e => by have := ((show w6.ownsRow w.heap.size 41 3 _ cs.length (cs.flatMap EventD.vals) from HG6.out.oo).lt _ e).2; omega
      have ns : (Value.slice As ss.length ks).ownBlock ≠ some w6.heap.size := fun e => by have := ((show w6.ownsRow w.heap.size 3 1 _ ss.length (ss.flatMap intVals) from HG6.out.so).lt _ e).2; omega
      have nt : (Value.slice At ts.length kt).ownBlock ≠ some w6.heap.size := fun e => by have := ((show w6.ownsRow w.heap.size 3 1 _ ts.length (ts.flatMap intVals) from HG6.out.to).lt _ e).2; omega
      generalize w6.alloc (.cells #[.int .i64 x, .int .i64 0, .int .i64 0] 41) = w7 at *
      obtain ⟨be, hbe⟩ : ∃ be, w6.heap.size = be := ⟨_, rfl⟩
      rw [hbe] at EB0 no ns nt
      have hbw : w.heap.size ≤ be := by omega
      have hbg : g < be := by omega
      have HEB0 := Lib.hid EB0
      have HG7 := Lib.hid G7
      have HR7 := Lib.hid R7
      clear EB0 G7 R7 HG6 HR6
      with_reducible refine (pick_at g (p' + 1) 3 3 _ HR7.out rfl (by omega) (by omega) (by omega)).mono ?_
      intro e w8 hpk
      obtain ⟨y, hy, rfl, hr8, hg8⟩ := hpk
      have HG8 := Lib.hid (HG7.out.pick hg8 hgz)
      have EB := HEB0.out.grown hg8 (by simp; omega)
      have e0' := EB.cell (i := 0) rfl
      have e1' := EB.cell (i := 1) rfl
      have e2' := EB.cell (i := 2) rfl
      have f1' := EB.free 1
      have f2' := EB.free 2
      have hbl := EB.lt
      have HEB := Lib.hid EB
      have HR8 := Lib.hid hr8
      clear hg8 hr8 HG7 HR7 HEB0 EB
      try rw [hbe]
      clear hbe
      have hl0 : (cs.length : Int) ≤ 7 := by omega
      have hl1 : (ss.length : Int) ≤ 7 := by omega
      have hl2 : (ts.length : Int) ≤ 7 := by omega
      have hyy : y = 0 ∨ y = 1 ∨ y = 2 := by omega
      rcases hyy with rfl | rfl | rfl
      · have EBA := Lib.hid ((HEB.out.kind_ 1).msg_ (ss.length : Int))
        have GA := Lib.hid ((HG8.out.setc be 1 (.int .i64 1) hbw no ns nt).setc be 2 (.int .i64 ss.length) hbw no ns nt)
        have RA : Rdr ((w8.setCell ⟨be, 1, none⟩ (.int .i64 1)).setCell ⟨be, 2, none⟩ (.int .i64 ss.length)) g (p' + 2) := (HR8.out.grown (gset_grown w8 be 1 (.int .i64 1)) (fun k hk => by injection hk with hk; omega)).grown (gset_grown _ be 2 (.int .i64 ss.length)) (fun k hk => by injection hk with hk; omega)
        have HRA := Lib.hid RA
        clear RA
        go_wp2_with (first
          | (have _t := HRA; at_builtin; refine wpList_append_lies _ rfl (.tmp 36) (.tmp 39) 24 rfl w.heap.size 3 i0 _ 1 8 Try.underlying24 hi0 hz0 hz1 hz2 rfl (by omega) _ ss.length (ss.flatMap intVals) rfl (GA.out.alloc _).so _ 1 1 [.int .i64 x] rfl rfl (int_new' _ _ _ (by simp)) (int_one _) (by omega) (by unfold maxLen; omega) (by omega) (by have := GA.out.but.size; simp at this ⊢; omega) _ rfl ?_; intro g1 cap1 w9 hown1 hgrow1 hat1 hlt1; have EB9 := (EBA.out.below (below_alloc (Below.refl _ _) _)).grown hgrow1 (Ne.symm ns); have q0 := EB9.cell (i := 0) rfl; have q1 := EB9.cell (i := 1) rfl; have q2 := EB9.cell (i := 2) rfl; have RA9 := Lib.hid ((HRA.out.below (below_alloc (Below.refl _ _) _)).grown hgrow1 (fun k hk => by have := ((GA.out.alloc (.cells #[] 3)).so.lt k hk).1; omega)); have G9 := Lib.hid ((GA.out.alloc _).app_s hown1 hgrow1 hat1 rfl); clear hown1 hgrow1 hat1 EB9 HRA)
          | (at_builtin; refine wpList_append_lies _ rfl (.tmp 69) (.tmp 71) 26 rfl w.heap.size 41 e0 _ 3 24 Try.underlying26 he0 hy0 hy1 hy2 rfl (by omega) _ cs.length (cs.flatMap EventD.vals) rfl (G9.out.alloc _).oo _ 1 1 (EventD.vals (⟨(x : Int), 1, (ss.length : Int)⟩ : EventD)) rfl rfl (ev_new' _ (⟨(x : Int), 1, (ss.length : Int)⟩ : EventD) _ (by simp)) (vals_one (⟨(x : Int), 1, (ss.length : Int)⟩ : EventD)) (by omega) (by unfold maxLen; omega) (by omega) (by have := G9.out.but.size; simp at this ⊢; omega) _ rfl ?_; intro gg cap wn hown hgrow hat hlt))
        have GN := (G9.out.alloc _).app_o (c := (⟨(x : Int), 1, (ss.length : Int)⟩ : EventD)) hown hgrow hat rfl
        have RN : Rdr wn g (p' + 2) := (RA9.out.below (below_alloc (Below.refl _ _) _)).grown hgrow (fun k hk => by have := ((G9.out.alloc (.cells #[] 3)).oo.lt k hk).1; omega)
        go_roundw
        case rel =>
          refine ⟨m - 1, _, _, _, p' + 2, ?_, GN, ?_, ?_, ?_, ?_, RN, by omega⟩
          · exact congrArg (Value.int .i64) (by omega)
          · simp; omega
          · simp; omega
          · simp; omega
          · intro c hc
            rcases List.mem_append.1 hc with h1 | h1
            · exact HGood.out c h1
            · simp only [List.mem_singleton] at h1
              subst h1
              exact good_small ⟨by simp <;> omega, by simp <;> omega⟩ ⟨by simp <;> omega, by simp <;> omega⟩ ⟨by simp <;> omega, by simp <;> omega⟩
        case measure => simp [intOf]; omega
      · go_wp2_with fail
        go_loopw [5, 9] (fun tt j wq => ∃ k : Nat, k ≤ ss.length ∧ j = .int .i64 k ∧ tt = .slice At ts.length kt ∧ Below w8.heap.size w8 wq) (fun _ j _ => ss.length - (intOf j).toNat)
        case atStart => exact ⟨0, by omega, rfl, rfl, Below.refl _ _⟩
        case round =>
          obtain ⟨j, hj, rfl, rfl, hb2⟩ := hrel
          have hrs : RowInts w8 As ss := RowOf.of_own rfl (fun _ _ => rfl) HG8.out.so
          have hrt : RowInts w8 At ts := RowOf.of_own rfl (fun _ _ => rfl) HG8.out.to
          have HRS := Lib.hid (hrs.below hb2)
          have HRT := Lib.hid (hrt.below hb2)
          have p0 := cell_below hb2 e0'
          have p1 := cell_below hb2 e1'
          have p2 := cell_below hb2 e2'
          have hbl2 : be < wr.heap.size := World.block_lt_of_cell? _ _ p0
          have Hb2 := Lib.hid hb2
          clear hrs hrt hb2 e0' e1' e2' f1' f2'
          by_cases hjl : j < ss.length
          · obtain ⟨gb, goff, rfl, hgat⟩ := HRS.out (by omega)
            obtain ⟨sv, hsv⟩ : ∃ sv, ss[j]? = some sv := ⟨ss[j], List.getElem?_eq_getElem _⟩
            have r0 := RowInts.at_ hgat hsv
            have hgb : gb < wr.heap.size := World.block_lt_of_cell? _ _ r0
            clear hgat hsv
            have hj0 : (0 : Int) ≤ (j : Int) := by omega
            have hjl' : (j : Int) < (ss.length : Int) := by omega
            have hjc : j < ss.length := hjl
            cases hq : ts.any (· == (j : Int))
            · have HHI := Lib.hid (fun (V : World) (hV : RowInts V At ts) => hq ▸ hasInt_calls ts ts.length At kt (j : Int) V hV rfl (by omega))
              clear hq
              cases hz : (sv != (x : Int))
              · go_wp2_with fail
                refine wp_region_grow (by kernel_rfl) (by kernel_rfl) ?_
                repeat (go_big_quiet_step ((go_at_call 52; exact Calls.ext_same (HHI.out _ (HRT.out.below (Wx.h _))))))
                refine wpQuiet_end ?_
                intro w10 hb10
                go_wp2_with fail
                go_roundw
                case rel => exact ⟨j + 1, by omega, by go_num, rfl, below_trans' Hb2.out hb10⟩
                case measure => simp [intOf]; omega
              · go_wp2_with fail
                refine wp_region_grow (by kernel_rfl) (by kernel_rfl) ?_
                repeat (go_big_quiet_step ((go_at_call 52; exact Calls.ext_same (HHI.out _ (HRT.out.below (Wx.h _))))))
                refine wpQuiet_end ?_
                intro w10 hb10
                have hb8 := below_trans' Hb2.out hb10
                have HG10 := Lib.hid (HG8.out.below hb8)
                have EB10 := HEB.out.below hb8
                have HR10 := Lib.hid (HR8.out.below hb8)
                have s0 := EB10.cell (i := 0) rfl
                have s1 := EB10.cell (i := 1) rfl
                have s2 := EB10.cell (i := 2) rfl
                have t1 := EB10.free 1
                have t2 := EB10.free 2
                have hz10 := hb8.size
                have EBA := Lib.hid ((EB10.kind_ 2).msg_ (j : Int))
                have GA := Lib.hid ((HG10.out.setc be 1 (.int .i64 2) hbw no ns nt).setc be 2 (.int .i64 j) hbw no ns nt)
                have RA : Rdr ((w10.setCell ⟨be, 1, none⟩ (.int .i64 2)).setCell ⟨be, 2, none⟩ (.int .i64 j)) g (p' + 2) := (HR10.out.grown (gset_grown w10 be 1 (.int .i64 2)) (fun k hk => by injection hk with hk; omega)).grown (gset_grown _ be 2 (.int .i64 j)) (fun k hk => by injection hk with hk; omega)
                have HRA := Lib.hid RA
                clear RA hb8 hb10 EB10 p0 p1 p2 r0
                go_wp2_with (first
                  | (have _t := HRA; at_builtin; refine wpList_append_lies _ rfl (.tmp 65) (.tmp 67) 24 rfl w.heap.size 3 i0 _ 1 8 Try.underlying24 hi0 hz0 hz1 hz2 rfl (by omega) _ ts.length (ts.flatMap intVals) rfl (GA.out.alloc _).to _ 1 1 [.int .i64 j] rfl rfl (int_new' _ _ _ (by simp)) (int_one _) (by omega) (by unfold maxLen; omega) (by omega) (by have := GA.out.but.size; simp at this ⊢; omega) _ rfl ?_; intro g1 cap1 w9 hown1 hgrow1 hat1 hlt1; have EB9 := (EBA.out.below (below_alloc (Below.refl _ _) _)).grown hgrow1 (Ne.symm nt); have q0 := EB9.cell (i := 0) rfl; have q1 := EB9.cell (i := 1) rfl; have q2 := EB9.cell (i := 2) rfl; have RA9 := Lib.hid ((HRA.out.below (below_alloc (Below.refl _ _) _)).grown hgrow1 (fun k hk => by have := ((GA.out.alloc (.cells #[] 3)).to.lt k hk).1; omega)); have G9 := Lib.hid ((GA.out.alloc _).app_t hown1 hgrow1 hat1 rfl); clear hown1 hgrow1 hat1 EB9 HRA)
                  | (at_builtin; refine wpList_append_lies _ rfl (.tmp 69) (.tmp 71) 26 rfl w.heap.size 41 e0 _ 3 24 Try.underlying26 he0 hy0 hy1 hy2 rfl (by omega) _ cs.length (cs.flatMap EventD.vals) rfl (G9.out.alloc _).oo _ 1 1 (EventD.vals (⟨(x : Int), 2, (j : Int)⟩ : EventD)) rfl rfl (ev_new' _ (⟨(x : Int), 2, (j : Int)⟩ : EventD) _ (by simp)) (vals_one (⟨(x : Int), 2, (j : Int)⟩ : EventD)) (by omega) (by unfold maxLen; omega) (by omega) (by have := G9.out.but.size; simp at this ⊢; omega) _ rfl ?_; intro gg cap wn hown hgrow hat hlt))
                have GN := (G9.out.alloc _).app_o (c := (⟨(x : Int), 2, (j : Int)⟩ : EventD)) hown hgrow hat rfl
                have RN : Rdr wn g (p' + 2) := (RA9.out.below (below_alloc (Below.refl _ _) _)).grown hgrow (fun k hk => by have := ((G9.out.alloc (.cells #[] 3)).oo.lt k hk).1; omega)
                go_roundw
                case rel =>
                  refine ⟨m - 1, _, _, _, p' + 2, ?_, GN, ?_, ?_, ?_, ?_, RN, by omega⟩
                  · exact congrArg (Value.int .i64) (by omega)
                  · simp; omega
                  · simp; omega
                  · simp; omega
                  · intro c hc
                    rcases List.mem_append.1 hc with h1 | h1
                    · exact HGood.out c h1
                    · simp only [List.mem_singleton] at h1
                      subst h1
                      exact good_small ⟨by simp <;> omega, by simp <;> omega⟩ ⟨by simp <;> omega, by simp <;> omega⟩ ⟨by simp <;> omega, by simp <;> omega⟩
                case measure => simp [intOf]; omega
            · have HHI := Lib.hid (fun (V : World) (hV : RowInts V At ts) => hq ▸ hasInt_calls ts ts.length At kt (j : Int) V hV rfl (by omega))
              clear hq
              go_wp2_with fail
              refine wp_region_grow (by kernel_rfl) (by kernel_rfl) ?_
              repeat (go_big_quiet_step ((go_at_call 52; exact Calls.ext_same (HHI.out _ (HRT.out.below (Wx.h _))))))
              refine wpQuiet_end ?_
              intro w10 hb10
              go_wp2_with fail
              go_roundw
              case rel => exact ⟨j + 1, by omega, by go_num, rfl, below_trans' Hb2.out hb10⟩
              case measure => simp [intOf]; omega
          · have hge : ¬ ((j : Int) < (ss.length : Int)) := by omega
            have HGB := Lib.hid (HG8.out.below Hb2.out)
            have HRB := Lib.hid (HR8.out.below Hb2.out)
            have hzB := Hb2.out.size
            go_wp2_with (at_builtin; refine wpList_append_lies _ rfl (.tmp 69) (.tmp 71) 26 rfl w.heap.size 41 e0 _ 3 24 Try.underlying26 he0 hy0 hy1 hy2 rfl (by omega) _ cs.length (cs.flatMap EventD.vals) rfl (HGB.out.alloc _).oo _ 1 1 (EventD.vals (⟨(x : Int), 0, 0⟩ : EventD)) rfl rfl (ev_new' _ (⟨(x : Int), 0, 0⟩ : EventD) _ (by simp)) (vals_one (⟨(x : Int), 0, 0⟩ : EventD)) (by omega) (by unfold maxLen; omega) (by omega) (by have := HGB.out.but.size; simp at this ⊢; omega) _ rfl ?_; intro gg cap wn hown hgrow hat hlt)
            have GN := (HGB.out.alloc _).app_o (c := (⟨(x : Int), 0, 0⟩ : EventD)) hown hgrow hat rfl
            have RN : Rdr wn g (p' + 2) := (HRB.out.below (below_alloc (Below.refl _ _) _)).grown hgrow (fun k hk => by have := ((HGB.out.alloc (.cells #[] 3)).oo.lt k hk).1; omega)
            go_roundw
            case rel =>
              refine ⟨m - 1, _, _, _, p' + 2, ?_, GN, ?_, ?_, ?_, ?_, RN, by omega⟩
              · exact congrArg (Value.int .i64) (by omega)
              · simp; omega
              · simp; omega
              · simp; omega
              · intro c hc
                rcases List.mem_append.1 hc with h1 | h1
                · exact HGood.out c h1
                · simp only [List.mem_singleton] at h1
                  subst h1
                  exact good_small ⟨by simp <;> omega, by simp <;> omega⟩ ⟨by simp <;> omega, by simp <;> omega⟩ ⟨by simp <;> omega, by simp <;> omega⟩
            case measure => simp [intOf]; omega
      · have q0 := e0'
        go_wp2_with (at_builtin; refine wpList_append_lies _ rfl (.tmp 69) (.tmp 71) 26 rfl w.heap.size 41 e0 _ 3 24 Try.underlying26 he0 hy0 hy1 hy2 rfl (by omega) _ cs.length (cs.flatMap EventD.vals) rfl (HG8.out.alloc _).oo _ 1 1 (EventD.vals (⟨(x : Int), 0, 0⟩ : EventD)) rfl rfl (ev_new' _ (⟨(x : Int), 0, 0⟩ : EventD) _ (by simp)) (vals_one (⟨(x : Int), 0, 0⟩ : EventD)) (by omega) (by unfold maxLen; omega) (by omega) (by have := HG8.out.but.size; simp at this ⊢; omega) _ rfl ?_; intro gg cap wn hown hgrow hat hlt)
        have GN := (HG8.out.alloc _).app_o (c := (⟨(x : Int), 0, 0⟩ : EventD)) hown hgrow hat rfl
        have RN : Rdr wn g (p' + 2) := (HR8.out.below (below_alloc (Below.refl _ _) _)).grown hgrow (fun k hk => by have := ((HG8.out.alloc (.cells #[] 3)).oo.lt k hk).1; omega)
        go_roundw
        case rel =>
          refine ⟨m - 1, _, _, _, p' + 2, ?_, GN, ?_, ?_, ?_, ?_, RN, by omega⟩
          · exact congrArg (Value.int .i64) (by omega)
          · simp; omega
          · simp; omega
          · simp; omega
          · intro c hc
            rcases List.mem_append.1 hc with h1 | h1
            · exact HGood.out c h1
            · simp only [List.mem_singleton] at h1
              subst h1
              exact good_small ⟨by simp <;> omega, by simp <;> omega⟩ ⟨by simp <;> omega, by simp <;> omega⟩ ⟨by simp <;> omega, by simp <;> omega⟩
        case measure => simp [intOf]; omega
    · have hm0 : m = 0 := by omega
      subst hm0
      have HG3 := Lib.hid G3
      have HGood := Lib.hid hgood
      have HR3 := Lib.hid hrd
      clear G3 hgood hrd
      by_cases h0 : cs.length = 0
      · obtain rfl : cs = [] := List.length_eq_zero_iff.1 h0
        have oo : wr.ownsRow w.heap.size 41 3 _ 0 [] := HG3.out.oo
        obtain ⟨Ao, co, rfl, hoc, hom, _⟩ := own_form oo
        clear oo h0 hlen hsl htl
        go_wp2_with fail
        go_ret
        exact ⟨_, [], rfl, HG3.out.oo, HGood.out, by simp, HG3.out.but, p', by omega, HR3.out⟩
      have oo : wr.ownsRow w.heap.size 41 3 _ cs.length (cs.flatMap EventD.vals) := HG3.out.oo
      obtain ⟨go, co, rfl, hgo, hgl⟩ := World.ownsRow.form oo (by omega)
      have hoc : cs.length ≤ co := by
        obtain ⟨_, _, e1, h2, _⟩ := own_form oo
        cases e1; exact h2
      clear oo
      have hl0 : (0 : Int) < (cs.length : Int) := by omega
      have hl7 : (cs.length : Int) ≤ 7 := by omega
      have hl1 : decide ((0 : Int) < (cs.length : Int)) = true := by simpa using hl0
      have hln : 0 < cs.length := by omega
      have hld : decide (0 < cs.length) = true := by simpa using hln
      go_wp2_with fail
      with_reducible refine (pick_at g p' 16 16 _ HR3.out rfl (by omega) (by omega) (by omega)).mono ?_
      intro e w7 hpk
      obtain ⟨x, hx, rfl, hr7, hg7⟩ := hpk
      have HG7 := Lib.hid (HG3.out.pick hg7 hgz)
      have HR7 := Lib.hid hr7
      clear hr7 hg7 HG3 HR3
      by_cases hx0 : x = 0
      · subst hx0
        go_wp2_with fail
        with_reducible refine (pick_calls g (p' + 1) cs.length _ HR7.out (by omega) (by omega) (by omega)).mono ?_
        intro e w8 hpk
        obtain ⟨k, hk, rfl, hr8, hg8⟩ := hpk
        have HG8 := Lib.hid (HG7.out.pick hg8 hgz)
        have HR8 := Lib.hid hr8
        clear hr8 hg8 HG7 HR7
        go_wp2_with fail
        with_reducible refine (pick_at g (p' + 2) 3 3 _ HR8.out rfl (by omega) (by omega) (by omega)).mono ?_
        intro e w9 hpk
        obtain ⟨y, hy, rfl, hr9, hg9⟩ := hpk
        have HG9 := Lib.hid (HG8.out.pick hg9 hgz)
        obtain ⟨pq, rfl⟩ : ∃ pq, pq = p' := ⟨_, rfl⟩
        have HR9 := Lib.hid (show Rdr w9 g (pq + 3) from hr9)
        clear hr9 hg9 HG8 HR8
        obtain ⟨c, hc⟩ : ∃ c, cs[k]? = some c := ⟨cs[k], List.getElem?_eq_getElem _⟩
        have Hc := Lib.hid hc
        clear hc
        have hk0 : (0 : Int) ≤ (k : Int) := by omega
        have hkl : (k : Int) < (cs.length : Int) := by omega
        have hyy : y = 0 ∨ y = 1 ∨ y = 2 := by omega
        rcases hyy with rfl | rfl | rfl
        · go_wp2_with fail
          with_reducible refine (one_at g (pq + 3) [7, -1, 1] 3 #[.int .i64 7, .int .i64 (-1), .int .i64 1] w9 _ HR9.out rfl (by omega) rfl rfl (by omega) (by omega)).mono ?_
          intro e w10 hone
          obtain ⟨z, hz, rfl, hr10, hg10⟩ := hone
          have HG10 := Lib.hid (HG9.out.pick hg10 hgz)
          have oo10 : w10.ownsRow w.heap.size 41 3 (.slice (some ⟨go, 0, none⟩) cs.length co) cs.length (cs.flatMap EventD.vals) := HG10.out.oo
          have hz' : -100 ≤ z ∧ z ≤ 100 := by simp at hz; omega
          have hcell := own_cell oo10 (flat_at cs (fun c _ => EventD.vals_len c) k c Hc.out 2 _ rfl)
          have hfree := own_free oo10 (k * 3 + 2)
          have HR10 := Lib.hid hr10
          have OO10 := Lib.hid oo10
          clear hr10 hg10 oo10 hz
          go_wp2_with fail
          go_ret
          refine bend_end (c' := ⟨c.proc, c.kind, z⟩) Hc.out (by omega) rfl ?_ OO10.out HGood.out (by omega) HG10.out.but (by omega) HR10.out hgz
          have hgc := HGood.out c (List.mem_of_getElem? Hc.out)
          unfold EventD.good I64 at hgc ⊢
          simp only
          omega
        · go_wp2_with fail
          with_reducible refine (one_at g (pq + 3) [3, -1, 2] 3 #[.int .i64 3, .int .i64 (-1), .int .i64 2] w9 _ HR9.out rfl (by omega) rfl rfl (by omega) (by omega)).mono ?_
          intro e w10 hone
          obtain ⟨z, hz, rfl, hr10, hg10⟩ := hone
          have HG10 := Lib.hid (HG9.out.pick hg10 hgz)
          have oo10 : w10.ownsRow w.heap.size 41 3 (.slice (some ⟨go, 0, none⟩) cs.length co) cs.length (cs.flatMap EventD.vals) := HG10.out.oo
          have hz' : -100 ≤ z ∧ z ≤ 100 := by simp at hz; omega
          have hcell := own_cell oo10 (flat_at cs (fun c _ => EventD.vals_len c) k c Hc.out 1 _ rfl)
          have hfree := own_free oo10 (k * 3 + 1)
          have HR10 := Lib.hid hr10
          have OO10 := Lib.hid oo10
          clear hr10 hg10 oo10 hz
          go_wp2_with fail
          go_ret
          refine bend_end (c' := ⟨c.proc, z, c.msg⟩) Hc.out (by omega) rfl ?_ OO10.out HGood.out (by omega) HG10.out.but (by omega) HR10.out hgz
          have hgc := HGood.out c (List.mem_of_getElem? Hc.out)
          unfold EventD.good I64 at hgc ⊢
          simp only
          omega
        · go_wp2_with fail
          with_reducible refine (one_at g (pq + 3) [3, -1, 0] 3 #[.int .i64 3, .int .i64 (-1), .int .i64 0] w9 _ HR9.out rfl (by omega) rfl rfl (by omega) (by omega)).mono ?_
          intro e w10 hone
          obtain ⟨z, hz, rfl, hr10, hg10⟩ := hone
          have HG10 := Lib.hid (HG9.out.pick hg10 hgz)
          have oo10 : w10.ownsRow w.heap.size 41 3 (.slice (some ⟨go, 0, none⟩) cs.length co) cs.length (cs.flatMap EventD.vals) := HG10.out.oo
          have hz' : -100 ≤ z ∧ z ≤ 100 := by simp at hz; omega
          have hcell := own_cell oo10 (flat_at cs (fun c _ => EventD.vals_len c) k c Hc.out 0 _ rfl)
          have hfree := own_free oo10 (k * 3 + 0)
          rw [Nat.add_zero] at hcell hfree
          have HR10 := Lib.hid hr10
          have OO10 := Lib.hid oo10
          clear hr10 hg10 oo10 hz
          go_wp2_with fail
          go_ret
          refine bend_end (f := 0) (p' := pq + 3 + 1) (c' := ⟨z, c.kind, c.msg⟩) Hc.out (by omega) rfl ?_ OO10.out HGood.out (by omega) HG10.out.but (by omega) HR10.out hgz
          have hgc := HGood.out c (List.mem_of_getElem? Hc.out)
          unfold EventD.good I64 at hgc ⊢
          simp only
          omega
      · have hxz : ((x : Int) == 0) = false := by simp; omega
        go_wp2_with fail
        go_ret
        exact ⟨_, cs, rfl, HG7.out.oo, HGood.out, by omega, HG7.out.but, p' + 1, by omega, HR7.out⟩
end Go.Proofs.Ytmeehfiekhdbkaa
