/-
  What one call of an object's step leaves, and the laws that close its ways. No condition.
-/
import Derived.Test.YtoeecaeaobfhmaaStepP
import Derived.Test.YtoeecaeaobfhmaaAppA
import Derived.Test.YtoeecaeaobfhmaaHas
import Derived.Test.YtoeecaeaobfhmaaSmall
namespace Go.Proofs.Ytoeecaeaobfhmaa
open Go.RowKit
set_option maxRecDepth 100000

/-- A state that reads as L, in the memory of A or in new memory, and whether the answer was right. -/
def StepTo (w w' : World) (A : Option Addr) (N : Nat) (L : List Int) (b : Bool) (e : Ending) : Prop :=
  ∃ (A' : Option Addr) (n' c' : Nat), e = .returned (.tuple #[.slice A' n' c', .bool b]) ∧ RowInts w' A' L ∧ L.length = n' ∧ n' ≤ c' ∧ c' ≤ maxLen ∧
    (∀ x, 0 < n' → A' = some x → w.heap.size ≤ x.block ∨ (0 < N ∧ ∃ y, A = some y ∧ x.block = y.block)) ∧ Below w.heap.size w w'
section
variable {w w' : World} {A : Option Addr} {L : List Int} {b : Bool} {n cap N : Nat}
theorem StepTo.same (hr : RowInts w A L) (hn : L.length = n) (hnc : n ≤ cap) (hcm : cap ≤ maxLen) (hb : Below w.heap.size w w') : StepTo w w' A n L b (.returned (.tuple #[.slice A n cap, .bool b])) :=
  ⟨A, n, cap, rfl, hr.below hb, hn, hnc, hcm, fun x h0 e => .inr ⟨h0, x, e, rfl⟩, hb⟩
theorem StepTo.own {v : Value} (ho : w'.ownsRow w.heap.size 3 1 v n (L.flatMap intVals)) (hn : L.length = n) (hb : Below w.heap.size w w') : StepTo w w' A N L b (.returned (.tuple #[v, .bool b])) := by
  obtain ⟨A', c', rfl, h1, h2, h3⟩ := own_form ho
  exact ⟨A', n, c', rfl, RowOf.of_own hn.symm (fun _ _ => rfl) ho, hn, h1, h2, fun x h0 e => .inl (h3 x.block (by subst e; rfl)), hb⟩
theorem StepTo.one {g : Nat} {x : Int} (hg : w'.cell? ⟨g, 0, none⟩ = some (.int .i64 x)) (hwg : w.heap.size ≤ g) (hb : Below w.heap.size w w') : StepTo w w' A N [x] b (.returned (.tuple #[.slice (some ⟨g, 0, none⟩) 1 1, .bool b])) := by
  refine ⟨_, 1, 1, rfl, fun _ => ⟨g, 0, rfl, ?_⟩, rfl, Nat.le_refl _, by simp [maxLen], fun y _ e => .inl (by injection e with e; subst e; exact hwg), hb⟩
  intro i c hi j u hu
  match i, hi with
  | 0, hi =>
    simp only [List.getElem?_cons_zero, Option.some.injEq] at hi
    subst hi
    match j, hu with
    | 0, hu =>
      simp only [intVals, List.getElem?_cons_zero, Option.some.injEq] at hu
      subst hu
      simpa using hg
theorem StepTo.empty {A' : Option Addr} {c' : Nat} (hc : c' ≤ maxLen) (hb : Below w.heap.size w w') : StepTo w w' A N [] b (.returned (.tuple #[.slice A' 0 c', .bool b])) :=
  ⟨A', 0, c', rfl, RowOf.nil, rfl, Nat.zero_le _, hc, fun x h0 => absurd h0 (by omega), hb⟩
theorem StepTo.tail {bk off : Nat} {st : List Int} (hat : ∀ i c, st[i]? = some c → ∀ j u, (intVals c)[j]? = some u → w.cell? ⟨bk, off + i * 1 + j, none⟩ = some u) (hn : st.length = n) (h0 : 0 < n) (hnc : n ≤ cap) (hcm : cap ≤ maxLen) (hb : Below w.heap.size w w') :
    StepTo w w' (some ⟨bk, off, none⟩) n st.tail b (.returned (.tuple #[.slice (some ⟨bk, off + 1, none⟩) (n - 1) (cap - 1), .bool b])) := by
  refine ⟨_, n - 1, cap - 1, rfl, fun _ => ⟨bk, off + 1, rfl, ?_⟩, by simp [hn], by omega, by omega, fun x _ e => .inr ⟨h0, _, rfl, by injection e with e; rw [← e]⟩, hb⟩
  intro i c hi j u hu
  have h1 := hat (i + 1) c (by rw [← hi]; cases st <;> simp) j u hu
  have e1 : off + 1 + i * 1 + j = off + (i + 1) * 1 + j := by omega
  rw [e1]
  exact cell_below hb h1
theorem StepTo.tail1 {bk off : Nat} {st : List Int} (hn : st.length = n) (h0 : 0 < n) (h1 : n ≤ 1) (hb : Below w.heap.size w w') :
    StepTo w w' (some ⟨bk, off, none⟩) n st.tail b (.returned (.tuple #[.slice (some ⟨bk, off, none⟩) (n - 1) 0, .bool b])) := by
  obtain rfl : n = 1 := by omega
  have e : st.tail = [] := List.eq_nil_of_length_eq_zero (by simp [hn])
  rw [e]
  exact StepTo.empty (Nat.zero_le _) hb
theorem StepTo.init {bk off : Nat} {st : List Int} (hat : ∀ i c, st[i]? = some c → ∀ j u, (intVals c)[j]? = some u → w.cell? ⟨bk, off + i * 1 + j, none⟩ = some u) (hn : st.length = n) (hnc : n ≤ cap) (hcm : cap ≤ maxLen) (hb : Below w.heap.size w w') :
    StepTo w w' (some ⟨bk, off, none⟩) n st.dropLast b (.returned (.tuple #[.slice (some ⟨bk, off, none⟩) (n - 1) cap, .bool b])) := by
  refine ⟨_, n - 1, cap, rfl, fun _ => ⟨bk, off, rfl, ?_⟩, by simp [hn], by omega, by omega, fun x h0 e => .inr ⟨by omega, _, rfl, by injection e with e; rw [← e]⟩, hb⟩
  intro i c hi j u hu
  refine cell_below hb (hat i c ?_ j u hu)
  rw [List.dropLast_eq_take, List.getElem?_take] at hi
  split at hi
  · exact hi
  · cases hi
end

theorem step_box (c : CallD) (w : World) (E : TypeId) : (∀ i v, (CallD.vals c)[i]? = some v → (w.alloc (.cells #[.int .i64 c.proc, .int .i64 c.obj, .int .i64 c.kind, .int .i64 c.arg, .int .i64 c.ret, .int .i64 c.fr, .int .i64 c.till] E)).cell? ⟨w.heap.size, i, none⟩ = some v) := by
  intro i v h
  rw [World.cell?_alloc_new]
  simpa [CallD.vals] using h

end Go.Proofs.Ytoeecaeaobfhmaa
