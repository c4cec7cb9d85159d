/-
  The law FnExactTotalOf holds for every input: the frame round its walk. No condition.
-/
import Derived.Test.YtkahhcpfkebgiaaWExactTotalOf
import Derived.Test.YtkahhcpfkebgiaaCpyD
import Derived.ChangeOld
import Derived.ShutString
namespace Go.Proofs.Ytkahhcpfkebgiaa.fnExactTotalOf
open Go.ChangeShapes Go.WideShapes Go.ChangeAt Go.RowKit Go.Deep
open Go.ChangeMaps (open_string shut_string)
set_option linter.unusedVariables false

theorem own : ownKnob Try.prog.godebug = none := by kernel_rfl
theorem laidOut : laidOutB Try.prog = true := by kernel_rfl

set_option maxRecDepth 100000 in
set_option maxHeartbeats 1000000 in
theorem lifted (os : Os) (started : os.Started) (H : Type) (enc : TypeId × Value → H) :
    ReturnsInHanded {} Try.checked os 5 .any (Rows.fnExactTotalOfSpec.pre6 enc Try.prog Try.f5 Rows.fnExactTotalOfRow.domain false) (Rows.fnExactTotalOfSpec.post enc Try.prog Try.f5 false true false false) := by
  refine returnsInHanded_of_change (C := Try.checked) own started (by kernel_rfl) Try.func5
    (ChangeSpec.witness6 (enc := enc) (C := Try.checked) false ⟨#[], #[.agg #[.slice none 0 0, .slice none 0 0, .int .i64 0, .int .i64 0, .int .i64 0, .slice none 0 0]], []⟩ 8 (by kernel_rfl) (by kernel_rfl) (by kernel_rfl) (by kernel_rfl)) ?_
  intro W base args ds gs before hval0 hW hcnd _
  have hval : ∀ (j : Nat) t v, Try.f5.params[j]? = some t → args[j]? = some v → Value.okWide Try.prog W .any base t v := hval0
  have hW' := hW
  obtain ⟨p, q, hA0, hV, rfl, hfz, hnd⟩ := hW
  have hA : DataW.TrodAll enc Try.prog W 0 (fun _ => true) true Try.f5.params.toList args.toList ds p := hA0
  rw [Try.params5] at hA hval
  obtain ⟨v0, vs0, d0, ds0, p0, q0, hargs, rfl, rfl, h0, r0⟩ := trodAll_cons hA
  obtain ⟨rfl, rfl, rfl⟩ := trodAll_nil r0
  obtain rfl : args = #[v0] := by cases args; simp_all
  obtain ⟨rfl, rfl⟩ := trodVars_none hV
  have k0 := h0
  have lt0 : ∀ x ∈ p0, x.block < W.heap.size := by obtain ⟨m, hm⟩ := k0; exact DataW.trod_lt m _ _ _ hm
  obtain ⟨cs0, rfl, _⟩ := okWide_struct Try.underlying32 (hval 0 32 v0 rfl rfl)
  obtain ⟨A, n1, c1, B, n2, c2, x, y, z, M, n3, c3, U, D, K, hc0, hr0, l1, l2, l3, m1, m2, m3⟩ : ∃ (A : Option Addr) (n1 c1 : Nat) (B : Option Addr) (n2 c2 : Nat) (x y z : Int) (M : Option Addr) (n3 c3 : Nat) (U D : List Int) (K : List MarkD), cs0.toList = [.slice A n1 c1, .slice B n2 c2, .int .i64 x, .int .i64 y, .int .i64 z, .slice M n3 c3] ∧ RowCpy W A B M U D K ∧ U.length = n1 ∧ D.length = n2 ∧ K.length = n3 ∧ n1 ≤ maxLen ∧ n2 ≤ maxLen ∧ n3 ≤ maxLen := by
    obtain ⟨fuel, hf⟩ := h0
    exact copy_of_cells Try.underlying32 (by kernel_rfl) (by kernel_rfl) ⟨Try.underlying22, Try.underlying22, Try.underlying3, Try.underlying3, Try.underlying3, Try.underlying30⟩ Try.underlying3 (by kernel_rfl) Try.underlying53 (by kernel_rfl) (by kernel_rfl) ⟨Try.underlying3, Try.underlying3, Try.underlying3, Try.underlying4⟩ hf
  obtain rfl : cs0 = #[.slice A n1 c1, .slice B n2 c2, .int .i64 x, .int .i64 y, .int .i64 z, .slice M n3 c3] := by apply Array.ext'; rw [hc0]
  clear hA0 hval0
  refine (walk_FnExactTotalOf A B M U D K n1 n2 n3 c1 c2 c3 x y z W hr0 l1 l2 l3 m1 m2 m3).mono fun e W' ⟨he, bel⟩ => ?_
  subst he
  exact ⟨_, rfl, _, _, _, [], _, [], hW', trodAll_mk1 (shut_bool Try.underlying4 _), (trodAll_cons_mk (Below.trod laidOut (by kernel_rfl) (of_decide_eq_true (by kernel_rfl)) k0 bel lt0) trodAll_mk0), rfl, bel.frame _, fun h => by cases h⟩

theorem over : Rows.fnExactTotalOfRow.holds Try.pinned (OpenSpec.ofChange Rows.fnExactTotalOfSpec) :=
  OpenClaim.holds_of_wide 5 Try.f5 rfl rfl rfl rfl rfl rfl rfl ⟨rfl, rfl, rfl, rfl, rfl⟩ rfl rfl rfl rfl rfl (by kernel_rfl) Try.func5 (by kernel_rfl)
    (of_decide_eq_true (by kernel_rfl)) (by unfold Func.isWrapper; first | (rw [if_pos (by decide +kernel)]; kernel_rfl) | (rw [if_neg (by decide +kernel)]; exact ⟨rfl, rfl⟩))
    (fun os started H enc _ => lifted os started H enc)

end Go.Proofs.Ytkahhcpfkebgiaa.fnExactTotalOf
namespace Go.Proofs.Ytkahhcpfkebgiaa
/-- THE STATEMENT. -/
theorem fnExactTotalOf_holds : Rows.FnExactTotalOfSaid := fnExactTotalOf.over
#print axioms fnExactTotalOf_holds
end Go.Proofs.Ytkahhcpfkebgiaa
