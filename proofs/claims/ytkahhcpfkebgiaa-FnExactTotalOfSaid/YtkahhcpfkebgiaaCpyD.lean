/-
  An argument that is a copy: its six cells, the three slices read as lists. No condition.
-/
import Derived.Test.YtkahhcpfkebgiaaCpyG
namespace Go.Proofs.Ytkahhcpfkebgiaa
open Go.RowKit Go.ChangeShapes Go.WideShapes Go.Deep
set_option maxRecDepth 100000

section
variable {H : Type} {enc : TypeId × Value → H} {P : Program} {w : World} {base : Nat} {spare : Nat → Bool} {held : Bool}
theorem slice_cell {t e : TypeId} {m : Nat} {v : Value} {y : DataW H × List MemPlace} (ht : P.underlying t = some (.slice e)) (h : DataW.trod enc P w base spare held m t [v] = some y) : ∃ A n c, v = .slice A n c := by
  rcases open_slice ht h with ⟨h0, _⟩ | ⟨a, len, cap, _, _, _, _, hcs, _⟩
  · simp at h0
    exact ⟨_, _, _, h0⟩
  · simp at hcs
    exact ⟨_, _, _, hcs⟩
theorem copy_of_cells {t ei em : TypeId} {f0 f1 f2 f3 f4 f5 g0 g1 g2 g3 : Field} {m : Nat} {cs : List Value} {y : DataW H × List MemPlace}
    (hs : P.underlying t = some (.struct #[f0, f1, f2, f3, f4, f5])) (hone : oneCellFields P #[f0, f1, f2, f3, f4, f5] = true) (hC : P.cellsOf t = 6)
    (hi : P.underlying f0.type = some (.slice ei) ∧ P.underlying f1.type = some (.slice ei) ∧ P.underlying f2.type = some (.int .i64) ∧ P.underlying f3.type = some (.int .i64) ∧ P.underlying f4.type = some (.int .i64) ∧ P.underlying f5.type = some (.slice em))
    (he : P.underlying ei = some (.int .i64)) (hce : P.cellsOf ei = 1)
    (hm : P.underlying em = some (.struct #[g0, g1, g2, g3])) (hom : oneCellFields P #[g0, g1, g2, g3] = true) (hcm : P.cellsOf em = 4)
    (hg : P.underlying g0.type = some (.int .i64) ∧ P.underlying g1.type = some (.int .i64) ∧ P.underlying g2.type = some (.int .i64) ∧ P.underlying g3.type = some .bool)
    (h : DataW.trod enc P w base spare held m t cs = some y) :
    ∃ (A : Option Addr) (n1 c1 : Nat) (B : Option Addr) (n2 c2 : Nat) (x y z : Int) (M : Option Addr) (n3 c3 : Nat) (U D : List Int) (K : List MarkD),
      cs = [.slice A n1 c1, .slice B n2 c2, .int .i64 x, .int .i64 y, .int .i64 z, .slice M n3 c3] ∧ RowCpy w A B M U D K ∧ U.length = n1 ∧ D.length = n2 ∧ K.length = n3 ∧ n1 ≤ maxLen ∧ n2 ≤ maxLen ∧ n3 ≤ maxLen := by
  obtain ⟨hl, hf⟩ := open_fields hs hone hC h
  obtain ⟨i0, i1, i2, i3, i4, i5⟩ := hi
  match cs, hl with
  | [c0, c1, c2, c3, c4, c5], _ =>
    obtain ⟨v0, k0, z0, e0, j0⟩ := hf 0 f0 rfl
    obtain ⟨v1, k1, z1, e1, j1⟩ := hf 1 f1 rfl
    obtain ⟨v2, k2, z2, e2, j2⟩ := hf 2 f2 rfl
    obtain ⟨v3, k3, z3, e3, j3⟩ := hf 3 f3 rfl
    obtain ⟨v4, k4, z4, e4, j4⟩ := hf 4 f4 rfl
    obtain ⟨v5, k5, z5, e5, j5⟩ := hf 5 f5 rfl
    simp at e0 e1 e2 e3 e4 e5
    subst e0 e1 e2 e3 e4 e5
    obtain ⟨x, rfl, _⟩ := open_int_cell i2 j2
    obtain ⟨y, rfl, _⟩ := open_int_cell i3 j3
    obtain ⟨z, rfl, _⟩ := open_int_cell i4 j4
    obtain ⟨A, n1, a1, rfl⟩ := slice_cell i0 j0
    obtain ⟨B, n2, a2, rfl⟩ := slice_cell i1 j1
    obtain ⟨M, n3, a3, rfl⟩ := slice_cell i5 j5
    obtain ⟨U, hU, lU, mU, rU, _⟩ := open_rows (vals := intVals) (good := I64) i0 hce (by omega) (fun m cs y _ ht => int_of_cells he ht) j0
    obtain ⟨D, hD, lD, mD, rD, _⟩ := open_rows (vals := intVals) (good := I64) i1 hce (by omega) (fun m cs y _ ht => int_of_cells he ht) j1
    obtain ⟨K, hK, lK, mK, rK, _⟩ := open_rows (vals := MarkD.vals) (good := MarkD.good) i5 hcm (by omega) (fun m cs y _ ht => mark_of_cells hm hom hcm hg ht) j5
    exact ⟨A, n1, a1, B, n2, a2, x, y, z, M, n3, a3, U, D, K, rfl, ⟨rU, rD, rK⟩, hU, hD, hK, by omega, by omega, by omega⟩
end
end Go.Proofs.Ytkahhcpfkebgiaa
