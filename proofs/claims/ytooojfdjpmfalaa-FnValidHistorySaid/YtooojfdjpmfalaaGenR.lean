/-
  What the generator of right calls holds in memory: the row of calls drawn so far, two states, the call that is being made; how each step leaves it. No condition.
-/
import Derived.Test.YtooojfdjpmfalaaGenG
import Derived.Test.YtooojfdjpmfalaaStepZ
import Derived.Test.YtooojfdjpmfalaaIsObj
namespace Go.Proofs.Ytooojfdjpmfalaa
open Go.RowKit
set_option maxRecDepth 100000

/-- A state of an object: it reads as some numbers, apart from the blocks 'bad' and from the row o. -/
def StAt (w : World) (bad : List Nat) (o : Value) (A : Option Addr) (n c : Nat) : Prop :=
  ∃ st : List Int, RowInts w A st ∧ st.length = n ∧ n ≤ c ∧ c ≤ maxLen ∧ ∀ x, 0 < n → A = some x → x.block ∉ bad ∧ o.ownBlock ≠ some x.block
section
variable {w w' : World} {bad : List Nat} {o : Value} {A : Option Addr} {n c : Nat}
theorem row_lt {st : List Int} (h : RowInts w A st) {x : Addr} (h0 : 0 < st.length) (e : A = some x) : x.block < w.heap.size := by
  obtain ⟨b, off, e', hat⟩ := h h0
  rw [e] at e'
  injection e' with e'
  subst e'
  have h1 := RowInts.at_ hat (List.getElem?_eq_getElem h0)
  exact World.block_lt_of_cell? _ _ h1
theorem row_grown {st : List Int} {row : Option Nat} (h : RowInts w A st) (hg : w.grownBy w' row) (hne : ∀ x, 0 < st.length → A = some x → row ≠ some x.block) : RowInts w' A st := by
  intro h0
  obtain ⟨b, off, e, hat⟩ := h h0
  refine ⟨b, off, e, fun i c hi j u hu => hg.cell (hat i c hi j u hu) (fun e' => hne _ h0 e e'.symm)⟩
theorem StAt.grown {row : Option Nat} (h : StAt w bad o A n c) (hg : w.grownBy w' row) (hr : ∀ k, row = some k → k ∈ bad ∨ o.ownBlock = some k) : StAt w' bad o A n c := by
  obtain ⟨st, h1, h2, h3, h4, h5⟩ := h
  refine ⟨st, row_grown h1 hg (fun x h0 e e' => ?_), h2, h3, h4, h5⟩
  obtain ⟨g1, g2⟩ := h5 x (by omega) e
  rcases hr _ e' with h | h
  · exact g1 h
  · exact g2 h
theorem StAt.below (h : StAt w bad o A n c) (hb : Below w.heap.size w w') : StAt w' bad o A n c := by
  obtain ⟨st, h1, h2⟩ := h
  exact ⟨st, h1.below hb, h2⟩
theorem StAt.more {k : Nat} (h : StAt w bad o A n c) (hk : w.heap.size ≤ k) : StAt w (k :: bad) o A n c := by
  obtain ⟨st, h1, h2, h3, h4, h5⟩ := h
  refine ⟨st, h1, h2, h3, h4, fun x h0 e => ⟨?_, (h5 x h0 e).2⟩⟩
  have hlt := row_lt h1 (by omega) e
  rw [List.mem_cons, not_or]
  exact ⟨by omega, (h5 x h0 e).1⟩
theorem StAt.less {k : Nat} (h : StAt w (k :: bad) o A n c) : StAt w bad o A n c := by
  obtain ⟨st, h1, h2, h3, h4, h5⟩ := h
  exact ⟨st, h1, h2, h3, h4, fun x h0 e => ⟨fun hm => (h5 x h0 e).1 (List.mem_cons_of_mem _ hm), (h5 x h0 e).2⟩⟩
theorem StAt.app {o' : Value} (h : StAt w bad o A n c) (hg : w.grownBy w' o.ownBlock) (ho : ∀ k, o'.ownBlock = some k → o.ownBlock = some k ∨ w.heap.size ≤ k) : StAt w' bad o' A n c := by
  obtain ⟨st, h1, h2, h3, h4, h5⟩ := h
  refine ⟨st, row_grown h1 hg (fun x h0 e e' => (h5 x (by omega) e).2 e'), h2, h3, h4, fun x h0 e => ⟨(h5 x h0 e).1, fun e' => ?_⟩⟩
  have hlt := row_lt h1 (by omega) e
  rcases ho _ e' with h | h
  · exact (h5 x h0 e).2 h
  · omega
/-- The state that a step leaves. -/
theorem StAt.of_step {st : List Int} {A' : Option Addr} {n' c' : Nat} (h : StAt w bad o A n c) (hlt : ∀ k ∈ bad, k < w.heap.size) (ho : ∀ k, o.ownBlock = some k → k < w.heap.size)
    (h1 : RowInts w' A' st) (h2 : st.length = n') (h3 : n' ≤ c') (h4 : c' ≤ maxLen) (h5 : ∀ x, 0 < n' → A' = some x → w.heap.size ≤ x.block ∨ (0 < n ∧ ∃ y, A = some y ∧ x.block = y.block)) : StAt w' bad o A' n' c' := by
  obtain ⟨st0, g1, g2, g3, g4, g5⟩ := h
  refine ⟨st, h1, h2, h3, h4, fun x h0 e => ?_⟩
  rcases h5 x h0 e with hx | ⟨hp, y, ey, hy⟩
  · exact ⟨fun hm => by have := hlt _ hm; omega, fun e' => by have := ho _ e'; omega⟩
  · rw [hy]
    exact g5 y hp ey
end

/-- The call that is being made, in a block of its own. -/
def CBlk (w : World) (b : Nat) (c : CallD) : Prop := w.heap[b]? = some (.cells c.vals.toArray 26 (0, 0))
section
variable {w w' : World} {b : Nat} {c : CallD}
theorem CBlk.lt (h : CBlk w b c) : b < w.heap.size := (Array.getElem?_eq_some_iff.1 h).1
theorem CBlk.cell {i : Nat} {v : Value} (h : CBlk w b c) (hi : c.vals[i]? = some v) : w.cell? ⟨b, i, none⟩ = some v := by
  rw [cell_of_row w b i _ _ _ h]; simpa using hi
theorem CBlk.free (h : CBlk w b c) (i : Nat) : w.frozen? ⟨b, i, none⟩ = false := frozen_of_row w b i _ _ h
theorem CBlk.grown {row : Option Nat} (h : CBlk w b c) (hg : w.grownBy w' row) (hne : row ≠ some b) : CBlk w' b c := (hg.block b h.lt (Ne.symm hne)).trans h
theorem CBlk.below (h : CBlk w b c) (hb : Below w.heap.size w w') : CBlk w' b c := (hb.block b h.lt).trans h
theorem CBlk.kind_ (h : CBlk w b c) (x : Int) : CBlk (w.setCell ⟨b, 2, none⟩ (.int .i64 x)) b { c with kind := x } := by
  have := heap_setCell_same w b 2 _ _ (.int .i64 x) h
  unfold CBlk
  rw [this]; rfl
theorem CBlk.arg_ (h : CBlk w b c) (x : Int) : CBlk (w.setCell ⟨b, 3, none⟩ (.int .i64 x)) b { c with arg := x } := by
  have := heap_setCell_same w b 3 _ _ (.int .i64 x) h
  unfold CBlk
  rw [this]; rfl
theorem CBlk.ret_ (h : CBlk w b c) (x : Int) : CBlk (w.setCell ⟨b, 4, none⟩ (.int .i64 x)) b { c with ret := x } := by
  have := heap_setCell_same w b 4 _ _ (.int .i64 x) h
  unfold CBlk
  rw [this]; rfl
end

/-- What is held: the row o of calls, the states in block gs. -/
structure RC (w0 w : World) (g gs : Nat) (bad : List Nat) (o : Value) (cs : List CallD) (m : Nat) : Prop where
  but : But g w0 w
  oo : w.ownsRow w0.heap.size 26 7 o cs.length (cs.flatMap CallD.vals)
  gg : g < w0.heap.size
  gsw : w0.heap.size ≤ gs
  og : o.ownBlock ≠ some gs
  mg : g ∈ bad
  mgs : gs ∈ bad
  lt : ∀ k ∈ bad, k < w.heap.size
  st : ∃ (A0 : Option Addr) (n0 c0 : Nat) (A1 : Option Addr) (n1 c1 : Nat), w.heap[gs]? = some (.cells #[.slice A0 n0 c0, .slice A1 n1 c1] 53 (0, 0)) ∧ StAt w bad o A0 n0 c0 ∧ StAt w bad o A1 n1 c1 ∧ n0 ≤ m ∧ n1 ≤ m
section
variable {w0 w w' : World} {g gs : Nat} {bad : List Nat} {o : Value} {cs : List CallD} {m : Nat}
theorem RC.ow (h : RC w0 w g gs bad o cs m) : ∀ k, o.ownBlock = some k → w0.heap.size ≤ k ∧ k < w.heap.size := fun k hk => h.oo.lt k hk
theorem RC.below (h : RC w0 w g gs bad o cs m) (hb : Below w.heap.size w w') : RC w0 w' g gs bad o cs m := by
  obtain ⟨A0, n0, c0, A1, n1, c1, hs, h0, h1, hl⟩ := h.st
  exact ⟨h.but.below hb, own_below h.oo hb, h.gg, h.gsw, h.og, h.mg, h.mgs, fun k hk => Nat.lt_of_lt_of_le (h.lt k hk) hb.size, A0, n0, c0, A1, n1, c1, (hb.block gs (h.lt _ h.mgs)).trans hs, h0.below hb, h1.below hb, hl⟩
/-- Something in one of the bad blocks but gs is written. -/
theorem RC.bad_ (h : RC w0 w g gs bad o cs m) {k : Nat} (hg : w.grownBy w' (some k)) (hk : k ∈ bad) (hne : k ≠ gs) (hno : o.ownBlock ≠ some k) (hor : k = g ∨ w0.heap.size ≤ k) : RC w0 w' g gs bad o cs m := by
  obtain ⟨A0, n0, c0, A1, n1, c1, hs, h0, h1, hl⟩ := h.st
  refine ⟨?_, ?_, h.gg, h.gsw, h.og, h.mg, h.mgs, fun k hk => Nat.lt_of_lt_of_le (h.lt k hk) hg.size, A0, n0, c0, A1, n1, c1, (hg.block gs (h.lt _ h.mgs) (fun e => by injection e with e; exact hne e.symm)).trans hs,
    h0.grown hg (fun j hj => .inl (by injection hj with hj; subst hj; exact hk)), h1.grown hg (fun j hj => .inl (by injection hj with hj; subst hj; exact hk)), hl⟩
  · rcases hor with rfl | hor
    · exact h.but.trans hg
    · exact h.but.own hg (fun i hi => by injection hi with hi; omega)
  · refine h.oo.kept hg ?_
    cases hv : o.ownBlock with
    | none => exact .inl rfl
    | some j => exact .inr (fun e => hno (by rw [hv, e]))
theorem RC.pick (h : RC w0 w g gs bad o cs m) (hg : w.grownBy w' (some g)) : RC w0 w' g gs bad o cs m :=
  h.bad_ hg h.mg (by have := h.gg; have := h.gsw; omega) (fun e => by have := (h.ow g e).1; have := h.gg; omega) (.inl rfl)
/-- A new block that is to be written. -/
theorem RC.more (h : RC w0 w g gs bad o cs m) {x : Obj} : RC w0 (w.alloc x) g gs (w.heap.size :: bad) o cs m := by
  have h' := h.below (below_alloc (Below.refl _ _) x)
  obtain ⟨A0, n0, c0, A1, n1, c1, hs, h0, h1, hl⟩ := h.st
  obtain ⟨B0, m0, d0, B1, m1, d1, hs', _, _, _⟩ := h'.st
  have e := (below_alloc (Below.refl _ _) x).block gs (h.lt _ h.mgs)
  refine ⟨h'.but, h'.oo, h.gg, h.gsw, h.og, List.mem_cons_of_mem _ h.mg, List.mem_cons_of_mem _ h.mgs, fun k hk => ?_, A0, n0, c0, A1, n1, c1, e.trans hs, (h0.more (Nat.le_refl _)).below (below_alloc (Below.refl _ _) x), (h1.more (Nat.le_refl _)).below (below_alloc (Below.refl _ _) x), hl⟩
  rcases List.mem_cons.1 hk with rfl | hk
  · simp
  · exact h'.lt k hk
theorem RC.less {k : Nat} (h : RC w0 w g gs (k :: bad) o cs m) (hk : k ≠ g) (hk2 : k ≠ gs) : RC w0 w g gs bad o cs m := by
  obtain ⟨A0, n0, c0, A1, n1, c1, hs, h0, h1, hl⟩ := h.st
  refine ⟨h.but, h.oo, h.gg, h.gsw, h.og, ?_, ?_, fun j hj => h.lt j (List.mem_cons_of_mem _ hj), A0, n0, c0, A1, n1, c1, hs, h0.less, h1.less, hl⟩
  · rcases List.mem_cons.1 h.mg with e | e
    · exact absurd e.symm hk
    · exact e
  · rcases List.mem_cons.1 h.mgs with e | e
    · exact absurd e.symm hk2
    · exact e
/-- The state of an object. -/
theorem RC.at_ (h : RC w0 w g gs bad o cs m) {i : Nat} (hi : i < 2) : ∃ (A : Option Addr) (n c : Nat), w.cell? ⟨gs, i, none⟩ = some (.slice A n c) ∧ w.frozen? ⟨gs, i, none⟩ = false ∧ StAt w bad o A n c ∧ n ≤ m := by
  obtain ⟨A0, n0, c0, A1, n1, c1, hs, h0, h1, hl0, hl1⟩ := h.st
  match i, hi with
  | 0, _ => exact ⟨A0, n0, c0, by rw [cell_of_row w gs 0 _ _ _ hs]; rfl, frozen_of_row w gs 0 _ _ hs, h0, hl0⟩
  | 1, _ => exact ⟨A1, n1, c1, by rw [cell_of_row w gs 1 _ _ _ hs]; rfl, frozen_of_row w gs 1 _ _ hs, h1, hl1⟩
theorem RC.weak (h : RC w0 w g gs bad o cs m) {m' : Nat} (hm : m ≤ m') : RC w0 w g gs bad o cs m' := by
  obtain ⟨A0, n0, c0, A1, n1, c1, hs, h0, h1, hl0, hl1⟩ := h.st
  exact ⟨h.but, h.oo, h.gg, h.gsw, h.og, h.mg, h.mgs, h.lt, A0, n0, c0, A1, n1, c1, hs, h0, h1, by omega, by omega⟩
/-- The state of an object is replaced. -/
theorem RC.put (h : RC w0 w g gs bad o cs m) {i : Nat} (hi : i < 2) {A : Option Addr} {n c m' : Nat} (hs : StAt w bad o A n c) (hn : n ≤ m') (hm : m ≤ m') : RC w0 (w.setCell ⟨gs, i, none⟩ (.slice A n c)) g gs bad o cs m' := by
  obtain ⟨A0, n0, c0, A1, n1, c1, hb, h0, h1, hl0, hl1⟩ := h.st
  have hg := gset_grown w gs i (.slice A n c)
  have hr : ∀ k, some gs = some k → k ∈ bad ∨ o.ownBlock = some k := fun k hk => .inl (by injection hk with hk; subst hk; exact h.mgs)
  have ho : (w.setCell ⟨gs, i, none⟩ (.slice A n c)).ownsRow w0.heap.size 26 7 o cs.length (cs.flatMap CallD.vals) := by
    refine h.oo.kept hg ?_
    cases hv : o.ownBlock with
    | none => exact .inl rfl
    | some j => exact .inr (fun e => h.og (by rw [hv, e]))
  refine ⟨h.but.own hg (fun j hj => by injection hj with hj; have := h.gsw; omega), ho, h.gg, h.gsw, h.og, h.mg, h.mgs, fun k hk => Nat.lt_of_lt_of_le (h.lt k hk) hg.size, ?_⟩
  have hc := heap_setCell_same w gs i _ _ (.slice A n c) hb
  match i, hi with
  | 0, _ => exact ⟨A, n, c, A1, n1, c1, by rw [hc]; rfl, hs.grown hg hr, h1.grown hg hr, hn, by omega⟩
  | 1, _ => exact ⟨A0, n0, c0, A, n, c, by rw [hc]; rfl, h0.grown hg hr, hs.grown hg hr, by omega, hn⟩
/-- A call more. -/
theorem RC.app (h : RC w0 w g gs bad o cs m) {gg cap H : Nat} {c : CallD} (hn : w'.ownsRow w0.heap.size 26 7 (.slice (some ⟨gg, 0, none⟩) (cs.length + 1) cap) (cs.length + 1) (cs.flatMap CallD.vals ++ c.vals))
    (hg : w.grownBy w' o.ownBlock) (hat : o.ownBlock = some gg ∨ gg = H) (hH : w.heap.size = H) : RC w0 w' g gs bad (.slice (some ⟨gg, 0, none⟩) (cs.length + 1) cap) (cs ++ [c]) m := by
  subst hH
  obtain ⟨A0, n0, c0, A1, n1, c1, hs, h0, h1, hl⟩ := h.st
  have hgs := h.lt _ h.mgs
  have hap : ∀ k, (Value.slice (some (⟨gg, 0, none⟩ : Addr)) (cs.length + 1) cap).ownBlock = some k → o.ownBlock = some k ∨ w.heap.size ≤ k := by
    intro k hk
    simp only [Value.ownBlock, Option.some.injEq] at hk
    subst hk
    rcases hat with e | e
    · exact .inl e
    · exact .inr (Nat.le_of_eq e.symm)
  refine ⟨h.but.own hg (fun k hk => (h.ow k hk).1), by simpa using hn, h.gg, h.gsw, ?_, h.mg, h.mgs, fun k hk => Nat.lt_of_lt_of_le (h.lt k hk) hg.size, A0, n0, c0, A1, n1, c1, (hg.block gs hgs (fun e => h.og e.symm)).trans hs, h0.app hg hap, h1.app hg hap, hl⟩
  intro e
  rcases hap _ e with h2 | h2
  · exact h.og h2
  · omega
end

/-- In the midst of a round: what is held, and a call in block bc. -/
structure RIn (w0 w : World) (g gs bc : Nat) (o : Value) (cs : List CallD) (m ob q : Nat) : Prop where
  rc : RC w0 w g gs [bc, gs, g] o cs m
  rdr : Rdr w g q
  blk : ∃ c : CallD, c.obj = (ob : Int) ∧ CBlk w bc c
  bcw : w0.heap.size ≤ bc
  bgs : bc ≠ gs
  ob_ : o.ownBlock ≠ some bc
section
variable {w0 w w' : World} {g gs bc m ob q : Nat} {o : Value} {cs : List CallD}
theorem RIn.start {m : Nat} (h : RC w0 w g gs [gs, g] o cs m) (hr : Rdr w g q) {c : CallD} (hc : c.obj = (ob : Int)) (hz : w.heap.size = bc) : RIn w0 (w.alloc (.cells c.vals.toArray 26)) g gs bc o cs m ob q := by
  subst hz
  exact ⟨h.more, hr.below (below_alloc (Below.refl _ _) _), ⟨c, hc, heap_alloc_new _ _⟩, h.but.size, fun e => by have := h.lt _ h.mgs; omega, fun e => by have := (h.ow _ e).2; omega⟩
theorem RIn.below (h : RIn w0 w g gs bc o cs m ob q) (hb : Below w.heap.size w w') : RIn w0 w' g gs bc o cs m ob q := by
  obtain ⟨c, h1, h2⟩ := h.blk
  exact ⟨h.rc.below hb, h.rdr.below hb, ⟨c, h1, h2.below hb⟩, h.bcw, h.bgs, h.ob_⟩
theorem RIn.set_ (h : RIn w0 w g gs bc o cs m ob q) {f : Nat} {v : Value} {c : CallD} (hc : c.obj = (ob : Int)) (hb : CBlk (w.setCell ⟨bc, f, none⟩ v) bc c) : RIn w0 (w.setCell ⟨bc, f, none⟩ v) g gs bc o cs m ob q := by
  have hg := gset_grown w bc f v
  have hgb : g < bc := Nat.lt_of_lt_of_le h.rc.gg h.bcw
  exact ⟨h.rc.bad_ hg (by simp) h.bgs h.ob_ (.inr h.bcw), h.rdr.grown hg (fun k hk => by injection hk with hk; omega), ⟨c, hc, hb⟩, h.bcw, h.bgs, h.ob_⟩
theorem RIn.pick {q' : Nat} (h : RIn w0 w g gs bc o cs m ob q) (hg : w.grownBy w' (some g)) (hr : Rdr w' g q') : RIn w0 w' g gs bc o cs m ob q' := by
  obtain ⟨c, h1, h2⟩ := h.blk
  have hgb : g < bc := Nat.lt_of_lt_of_le h.rc.gg h.bcw
  exact ⟨h.rc.pick hg, hr, ⟨c, h1, h2.grown hg (fun e => by injection e with e; omega)⟩, h.bcw, h.bgs, h.ob_⟩
theorem RIn.weak {m' : Nat} (h : RIn w0 w g gs bc o cs m ob q) (hm : m ≤ m') : RIn w0 w g gs bc o cs m' ob q := ⟨h.rc.weak hm, h.rdr, h.blk, h.bcw, h.bgs, h.ob_⟩
theorem RIn.put (h : RIn w0 w g gs bc o cs m ob q) {i : Nat} (hi : i < 2) {A : Option Addr} {n c m' : Nat} (hs : StAt w [bc, gs, g] o A n c) (hn : n ≤ m') (hm : m ≤ m') : RIn w0 (w.setCell ⟨gs, i, none⟩ (.slice A n c)) g gs bc o cs m' ob q := by
  obtain ⟨d, h1, h2⟩ := h.blk
  have hg := gset_grown w gs i (.slice A n c)
  have hgg : g < gs := Nat.lt_of_lt_of_le h.rc.gg h.rc.gsw
  exact ⟨h.rc.put hi hs hn hm, h.rdr.grown hg (fun k hk => by injection hk with hk; omega), ⟨d, h1, h2.grown hg (fun e => by injection e with e; exact h.bgs e.symm)⟩, h.bcw, h.bgs, h.ob_⟩
end
end Go.Proofs.Ytooojfdjpmfalaa
