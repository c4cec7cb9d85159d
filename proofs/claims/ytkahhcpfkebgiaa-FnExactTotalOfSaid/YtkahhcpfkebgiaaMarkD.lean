/-
  A mark of a copy as a datum: its four cells, rows of marks. No condition.
-/
import Derived.Test.YtkahhcpfkebgiaaData
namespace Go.Proofs.Ytkahhcpfkebgiaa
open Go.RowKit Go.ChangeShapes Go.WideShapes Go.Deep
set_option maxRecDepth 100000

structure MarkD where
  value : Int
  proc : Int
  number : Int
  gone : Bool
def MarkD.vals (c : MarkD) : List Value := [.int .i64 c.value, .int .i64 c.proc, .int .i64 c.number, .bool c.gone]
theorem MarkD.vals_len (c : MarkD) : c.vals.length = 4 := rfl
def MarkD.good (c : MarkD) : Prop := I64 c.value ∧ I64 c.proc ∧ I64 c.number
abbrev MarkD.val (c : MarkD) : Value := .agg #[.int .i64 c.value, .int .i64 c.proc, .int .i64 c.number, .bool c.gone]
abbrev RowMarks (w : World) (A : Option Addr) (h : List MarkD) : Prop := RowOf MarkD.vals 4 w A h
/-- Its four cells. -/
def MarkAt (w : World) (b o : Nat) (c : MarkD) : Prop :=
  w.cell? ⟨b, o, none⟩ = some (.int .i64 c.value) ∧ w.cell? ⟨b, o + 1, none⟩ = some (.int .i64 c.proc) ∧ w.cell? ⟨b, o + 2, none⟩ = some (.int .i64 c.number) ∧ w.cell? ⟨b, o + 3, none⟩ = some (.bool c.gone)
theorem RowMarks.at_ {w : World} {b off : Nat} {h : List MarkD} (hc : ∀ i c, h[i]? = some c → ∀ j u, (MarkD.vals c)[j]? = some u → w.cell? ⟨b, off + i * 4 + j, none⟩ = some u) {i : Nat} {c : MarkD} (hi : h[i]? = some c) : MarkAt w b (off + i * 4) c :=
  ⟨hc i c hi 0 _ rfl, hc i c hi 1 _ rfl, hc i c hi 2 _ rfl, hc i c hi 3 _ rfl⟩
theorem MarkAt.below {w w' : World} {b o : Nat} {c : MarkD} (h : MarkAt w b o c) (hb : Below w.heap.size w w') : MarkAt w' b o c :=
  ⟨cell_below hb h.1, cell_below hb h.2.1, cell_below hb h.2.2.1, cell_below hb h.2.2.2⟩
theorem mark_of_cells {H : Type} {enc : TypeId × Value → H} {P : Program} {w : World} {base : Nat} {spare : Nat → Bool} {held : Bool} {t : TypeId} {f0 f1 f2 f3 : Field} {m : Nat} {cs : List Value} {y : DataW H × List MemPlace}
    (hs : P.underlying t = some (.struct #[f0, f1, f2, f3])) (hone : oneCellFields P #[f0, f1, f2, f3] = true) (hC : P.cellsOf t = 4)
    (hi : P.underlying f0.type = some (.int .i64) ∧ P.underlying f1.type = some (.int .i64) ∧ P.underlying f2.type = some (.int .i64) ∧ P.underlying f3.type = some .bool)
    (h : DataW.trod enc P w base spare held m t cs = some y) : ∃ c : MarkD, cs = c.vals ∧ c.good := by
  obtain ⟨hl, hf⟩ := open_fields hs hone hC h
  obtain ⟨i0, i1, i2, i3⟩ := hi
  match cs, hl with
  | [c0, c1, c2, c3], _ =>
    obtain ⟨v0, k0, z0, e0, g0⟩ := hf 0 f0 rfl
    obtain ⟨v1, k1, z1, e1, g1⟩ := hf 1 f1 rfl
    obtain ⟨v2, k2, z2, e2, g2⟩ := hf 2 f2 rfl
    obtain ⟨v3, k3, z3, e3, g3⟩ := hf 3 f3 rfl
    simp at e0 e1 e2 e3
    subst e0 e1 e2 e3
    obtain ⟨n0, rfl, w0⟩ := open_int_cell i0 g0
    obtain ⟨n1, rfl, w1⟩ := open_int_cell i1 g1
    obtain ⟨n2, rfl, w2⟩ := open_int_cell i2 g2
    obtain ⟨n3, rfl⟩ := open_bool_cell i3 g3
    exact ⟨⟨n0, n1, n2, n3⟩, rfl, w0, w1, w2⟩
end Go.Proofs.Ytkahhcpfkebgiaa
