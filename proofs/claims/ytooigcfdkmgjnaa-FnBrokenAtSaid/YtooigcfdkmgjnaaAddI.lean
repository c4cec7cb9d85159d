/-
  Two rows of the call's own that grow beside a struct: what stays as it is. No condition.
-/
import Derived.Test.YtooigcfdkmgjnaaAddR
import Derived.Test.YtooigcfdkmgjnaaFar
import Derived.Deep.AppendLies
namespace Go.Proofs.Ytooigcfdkmgjnaa
open Go.RowKit

theorem SessBlk.set6 {w : World} {g : Nat} {m h : Nat → Nat} {row fol cau : Value} (k : SessBlk w g m h row fol cau) (v : Value) : SessBlk (w.setCell ⟨g, 6, none⟩ v) g m h v fol cau := by
  have := heap_setCell_same w g 6 _ _ v k
  unfold SessBlk
  rw [this]
  rfl
theorem SessBlk.set7 {w : World} {g : Nat} {m h : Nat → Nat} {row fol cau : Value} (k : SessBlk w g m h row fol cau) (v : Value) : SessBlk (w.setCell ⟨g, 7, none⟩ v) g m h row v cau := by
  have := heap_setCell_same w g 7 _ _ v k
  unfold SessBlk
  rw [this]
  rfl
theorem SessBlk.set8 {w : World} {g : Nat} {m h : Nat → Nat} {row fol cau : Value} (k : SessBlk w g m h row fol cau) (v : Value) : SessBlk (w.setCell ⟨g, 8, none⟩ v) g m h row fol v := by
  have := heap_setCell_same w g 8 _ _ v k
  unfold SessBlk
  rw [this]
  rfl
theorem SessBlk.far {p : Nat → Prop} {w w' : World} {g : Nat} {m h : Nat → Nat} {row fol cau : Value} (k : SessBlk w g m h row fol cau) (hf : Far p w w') (hp : ¬ p g) : SessBlk w' g m h row fol cau := by
  have := hf.block g k.lt hp
  unfold SessBlk at k ⊢
  rw [this]; exact k
theorem Far.set {p : Nat → Prop} {a b : World} (h : Far p a b) (g i : Nat) (v : Value) (hp : p g) : Far p a (b.setCell ⟨g, i, none⟩ v) :=
  h.grown (sess_grown b g i v) (fun k _ e => by injection e with e; subst e; exact hp)

theorem int_new2 (w : World) (n : Int) (E : TypeId) (o : Obj) : ∀ j u, [Value.int .i64 n][j]? = some u → ((w.alloc (.cells #[.int .i64 n] E)).alloc o).cell? ((⟨w.heap.size, 0, none⟩ : Addr).add j) = some u := by
  intro j u hu
  have h := int_new w n E j u hu
  exact cell_below (below_alloc (Below.refl _ _) _) h
theorem int_newg0 {w w1 : World} {n : Int} {E : TypeId} {row : Option Nat} (hg : (w.alloc (.cells #[.int .i64 n] E)).grownBy w1 row) (hne : row ≠ some w.heap.size) : ∀ j u, [Value.int .i64 n][j]? = some u → w1.cell? ((⟨w.heap.size, 0, none⟩ : Addr).add j) = some u := by
  intro j u hu
  refine hg.cell (int_new w n E j u hu) ?_
  rw [Addr.add_lit]
  exact fun e => hne e.symm
theorem int_newg {w w1 : World} {n : Int} {E : TypeId} {o : Obj} {row : Option Nat} (hg : ((w.alloc (.cells #[.int .i64 n] E)).alloc o).grownBy w1 row) (hne : row ≠ some w.heap.size) : ∀ j u, [Value.int .i64 n][j]? = some u → w1.cell? ((⟨w.heap.size, 0, none⟩ : Addr).add j) = some u := by
  intro j u hu
  refine hg.cell (int_new2 w n E o j u hu) ?_
  rw [Addr.add_lit]
  exact fun e => hne e.symm
theorem int_newh {w w1 : World} {n : Int} {E : TypeId} {o : Obj} {row : Option Nat} (hg : ((w.alloc o).alloc (.cells #[.int .i64 n] E)).grownBy w1 row) (hne : row ≠ some (w.heap.size + 1)) : ∀ j u, [Value.int .i64 n][j]? = some u → w1.cell? ((⟨w.heap.size + 1, 0, none⟩ : Addr).add j) = some u := by
  intro j u hu
  have h := int_new (w.alloc o) n E j u hu
  have e : (w.alloc o).heap.size = w.heap.size + 1 := by simp
  rw [e] at h
  refine hg.cell h ?_
  rw [Addr.add_lit]
  exact fun e => hne e.symm
theorem int_newgd {w w1 : World} {n : Int} {E : TypeId} {o : Obj} {row : Option Nat} (hg : ((w.alloc (.cells #[.int .i64 n] E)).alloc o).drew.grownBy w1 row) (hne : row ≠ some w.heap.size) : ∀ j u, [Value.int .i64 n][j]? = some u → w1.cell? ((⟨w.heap.size, 0, none⟩ : Addr).add j) = some u :=
  int_newg (o := o) (E := E) ⟨hg.os, hg.tape, hg.output, hg.size, hg.block⟩ hne
theorem int_newhd {w w1 : World} {n : Int} {E : TypeId} {o : Obj} {row : Option Nat} (hg : ((w.alloc o).alloc (.cells #[.int .i64 n] E)).drew.grownBy w1 row) (hne : row ≠ some (w.heap.size + 1)) : ∀ j u, [Value.int .i64 n][j]? = some u → w1.cell? ((⟨w.heap.size + 1, 0, none⟩ : Addr).add j) = some u :=
  int_newh (o := o) (E := E) ⟨hg.os, hg.tape, hg.output, hg.size, hg.block⟩ hne
theorem int_new1 (w : World) (n : Int) (E : TypeId) (o : Obj) : ∀ j u, [Value.int .i64 n][j]? = some u → ((w.alloc o).alloc (.cells #[.int .i64 n] E)).cell? ((⟨w.heap.size + 1, 0, none⟩ : Addr).add j) = some u := by
  intro j u hu
  have h := int_new (w.alloc o) n E j u hu
  have e : (w.alloc o).heap.size = w.heap.size + 1 := by simp
  rwa [e] at h

/-- Two rows that began as row and fol in the world w0, and are r and f in the world W. -/
structure AddI (w0 W : World) (B : Nat) (row fol r f : Value) (rn fn : Nat) (R F : List Int) : Prop where
  far : Far (fun k => row.ownBlock = some k ∨ fol.ownBlock = some k) w0 W
  ro : W.ownsRow B 3 1 r rn (R.flatMap intVals)
  fo : W.ownsRow B 3 1 f fn (F.flatMap intVals)
  apart : ∀ k, r.ownBlock = some k → f.ownBlock ≠ some k
  rw_ : ∀ k, r.ownBlock = some k → row.ownBlock = some k ∨ w0.heap.size ≤ k
  fw_ : ∀ k, f.ownBlock = some k → fol.ownBlock = some k ∨ w0.heap.size ≤ k
section
variable {w0 W : World} {B : Nat} {row fol r f : Value} {rn fn : Nat} {R F : List Int}
theorem AddI.alloc (h : AddI w0 W B row fol r f rn fn R F) (o : Obj) : AddI w0 (W.alloc o) B row fol r f rn fn R F := ⟨h.far.alloc o, h.ro.alloc o, h.fo.alloc o, h.apart, h.rw_, h.fw_⟩
theorem AddI.drew (h : AddI w0 W B row fol r f rn fn R F) : AddI w0 W.drew B row fol r f rn fn R F := ⟨h.far.drew, h.ro.drew, h.fo.drew, h.apart, h.rw_, h.fw_⟩
theorem AddI.cell (h : AddI w0 W B row fol r f rn fn R F) {x : Addr} {u : Value} (hc : w0.cell? x = some u) (h1 : row.ownBlock ≠ some x.block) (h2 : fol.ownBlock ≠ some x.block) : W.cell? x = some u :=
  h.far.cell hc (fun e => e.elim h1 h2)
theorem AddI.frozen (h : AddI w0 W B row fol r f rn fn R F) {x : Addr} (hx : x.block < w0.heap.size) (h1 : row.ownBlock ≠ some x.block) (h2 : fol.ownBlock ≠ some x.block) : W.frozen? x = w0.frozen? x :=
  World.frozen?_of_block (h.far.block x.block hx (fun e => e.elim h1 h2))
theorem AddI.app1 (h : AddI w0 W B row fol row f rn fn R F) {w1 : World} {gg cap : Nat} {x : Int} {H : Nat} (ho : w1.ownsRow B 3 1 (.slice (some ⟨gg, 0, none⟩) (rn + 1) cap) (rn + 1) (R.flatMap intVals ++ [.int .i64 x]))
    (hg : W.grownBy w1 row.ownBlock) (hat : row.ownBlock = some gg ∨ gg = H) (hH : W.heap.size = H) : AddI w0 w1 B row fol (.slice (some ⟨gg, 0, none⟩) (rn + 1) cap) f (rn + 1) fn (R ++ [x]) F := by
  subst hH
  refine ⟨h.far.grown hg (fun i _ e => .inl e), ?_, ?_, ?_, ?_, h.fw_⟩
  · rw [List.flatMap_append]; simpa [intVals] using ho
  · refine h.fo.kept hg ?_
    cases hf : f.ownBlock with
    | none => exact .inl rfl
    | some k => exact .inr (fun e => h.apart k e.symm hf)
  · intro k hk
    simp only [Value.ownBlock, Option.some.injEq] at hk
    subst hk
    rcases hat with e | e
    · exact h.apart _ e
    · intro hf; have := (h.fo.lt _ hf).2; omega
  · intro k hk
    simp only [Value.ownBlock, Option.some.injEq] at hk
    subst hk
    rcases hat with e | e
    · exact .inl e
    · exact .inr (by have := h.far.size; omega)
theorem AddI.app2 (h : AddI w0 W B row fol r fol rn fn R F) {w1 : World} {gg cap : Nat} {x : Int} {H : Nat} (ho : w1.ownsRow B 3 1 (.slice (some ⟨gg, 0, none⟩) (fn + 1) cap) (fn + 1) (F.flatMap intVals ++ [.int .i64 x]))
    (hg : W.grownBy w1 fol.ownBlock) (hat : fol.ownBlock = some gg ∨ gg = H) (hH : W.heap.size = H) : AddI w0 w1 B row fol r (.slice (some ⟨gg, 0, none⟩) (fn + 1) cap) rn (fn + 1) R (F ++ [x]) := by
  subst hH
  refine ⟨h.far.grown hg (fun i _ e => .inr e), ?_, ?_, ?_, h.rw_, ?_⟩
  · refine h.ro.kept hg ?_
    cases hf : r.ownBlock with
    | none => exact .inl rfl
    | some k => exact .inr (fun e => h.apart k hf e.symm)
  · rw [List.flatMap_append]; simpa [intVals] using ho
  · intro k hk hf
    simp only [Value.ownBlock, Option.some.injEq] at hf
    subst hf
    rcases hat with e | e
    · exact h.apart _ hk e
    · have := (h.ro.lt _ hk).2; omega
  · intro k hk
    simp only [Value.ownBlock, Option.some.injEq] at hk
    subst hk
    rcases hat with e | e
    · exact .inl e
    · exact .inr (by have := h.far.size; omega)
end

/-- The struct with its three rows, all in memory from block B on, and no two of them in one block. -/
structure SessI (w : World) (B g : Nat) (m h : Nat → Nat) (row fol cau : Value) (R F C : List Int) : Prop where
  blk : SessBlk w g m h row fol cau
  base : B ≤ g
  ro : OwnInts w B row R
  fo : OwnInts w B fol F
  co : OwnInts w B cau C
  rg : row.ownBlock ≠ some g
  fg : fol.ownBlock ≠ some g
  cg : cau.ownBlock ≠ some g
  rf : ∀ k, row.ownBlock = some k → fol.ownBlock ≠ some k
  rc : ∀ k, row.ownBlock = some k → cau.ownBlock ≠ some k
  fc : ∀ k, fol.ownBlock = some k → cau.ownBlock ≠ some k
def SessW (w : World) (B g : Nat) (m h : Nat → Nat) (R F C : List Int) : Prop := ∃ row fol cau, SessI w B g m h row fol cau R F C
theorem SessW.far {p : Nat → Prop} {w w' : World} {B g : Nat} {m h : Nat → Nat} {R F C : List Int} (k : SessW w B g m h R F C) (hf : Far p w w') (hp : ∀ i, B ≤ i → i < w.heap.size → ¬ p i) : SessW w' B g m h R F C := by
  obtain ⟨row, fol, cau, k⟩ := k
  have hh : ∀ v n xs, w.ownsRow B 3 1 v n xs → w'.ownsRow B 3 1 v n xs := fun v n xs ho => hf.own ho (fun i hi => hp i (ho.lt i hi).1 (ho.lt i hi).2)
  exact ⟨row, fol, cau, k.blk.far hf (hp g k.base k.blk.lt), k.base, hh _ _ _ k.ro, hh _ _ _ k.fo, hh _ _ _ k.co, k.rg, k.fg, k.cg, k.rf, k.rc, k.fc⟩
theorem SessW.below {w w' : World} {B g : Nat} {m h : Nat → Nat} {R F C : List Int} (k : SessW w B g m h R F C) (hb : Below w.heap.size w w') : SessW w' B g m h R F C :=
  k.far ((Far.refl (fun _ => False) w).below hb) (fun _ _ _ h => h)
end Go.Proofs.Ytooigcfdkmgjnaa
