/-
  The law FnExactStepObject holds for every input: the frame round its walk. No condition.
-/
import Derived.Test.YtoeecaeaobfhmaaWExactStepObject
import Derived.ChangeOld
import Derived.ShutString
namespace Go.Proofs.Ytoeecaeaobfhmaa.fnExactStepObject
open Go.ChangeShapes Go.WideShapes Go.ChangeAt Go.RowKit Go.Deep
open Go.ChangeMaps (open_string shut_string)
set_option linter.unusedVariables false

theorem own : ownKnob Try.prog.godebug = none := by kernel_rfl
theorem laidOut : laidOutB Try.prog = true := by kernel_rfl

set_option maxRecDepth 100000 in
set_option maxHeartbeats 1000000 in
theorem lifted (os : Os) (started : os.Started) (H : Type) (enc : TypeId × Value → H) :
    ReturnsInHanded {} Try.checked os 12 .any (Rows.fnExactStepObjectSpec.pre6 enc Try.prog Try.f12 Rows.fnExactStepObjectRow.domain false) (Rows.fnExactStepObjectSpec.post enc Try.prog Try.f12 false true false false) := by
  refine returnsInHanded_of_change (C := Try.checked) own started (by kernel_rfl) Try.func12
    (ChangeSpec.witness6 (enc := enc) (C := Try.checked) false ⟨#[], #[.string ByteArray.empty, .slice none 0 0, .agg #[.int .i64 0, .int .i64 0, .int .i64 0, .int .i64 0, .int .i64 0, .int .i64 0, .int .i64 0]], []⟩ 8 (by kernel_rfl) (by kernel_rfl) (by kernel_rfl) (by kernel_rfl)) ?_
  intro W base args ds gs before hval0 hW hcnd _
  have hval : ∀ (j : Nat) t v, Try.f12.params[j]? = some t → args[j]? = some v → Value.okWide Try.prog W .any base t v := hval0
  have hW' := hW
  obtain ⟨p, q, hA0, hV, rfl, hfz, hnd⟩ := hW
  have hA : DataW.TrodAll enc Try.prog W 0 (fun _ => true) true Try.f12.params.toList args.toList ds p := hA0
  rw [Try.params12] at hA hval
  obtain ⟨v0, vs0, d0, ds0, p0, q0, hargs, rfl, rfl, h0, r0⟩ := trodAll_cons hA
  obtain ⟨v1, vs1, d1, ds1, p1, q1, rfl, rfl, rfl, h1, r1⟩ := trodAll_cons r0
  obtain ⟨v2, vs2, d2, ds2, p2, q2, rfl, rfl, rfl, h2, r2⟩ := trodAll_cons r1
  obtain ⟨rfl, rfl, rfl⟩ := trodAll_nil r2
  obtain rfl : args = #[v0, v1, v2] := by cases args; simp_all
  obtain ⟨rfl, rfl⟩ := trodVars_none hV
  have k0 := h0
  have lt0 : ∀ x ∈ p0, x.block < W.heap.size := by obtain ⟨m, hm⟩ := k0; exact DataW.trod_lt m _ _ _ hm
  obtain ⟨a0, rfl, _, _, w0⟩ := open_string Try.underlying9 (hval 0 9 v0 rfl rfl) h0
  have k1 := h1
  have lt1 : ∀ x ∈ p1, x.block < W.heap.size := by obtain ⟨m, hm⟩ := k1; exact DataW.trod_lt m _ _ _ hm
  obtain ⟨A1, n1, c1, rfl⟩ := okWide_slice Try.underlying24 (hval 1 24 v1 rfl rfl)
  obtain ⟨a1, rfl, hlc1, hcm1, hr1, hg1, hn1⟩ : ∃ l : List Int, l.length = n1 ∧ n1 ≤ c1 ∧ c1 ≤ maxLen ∧ RowOf intVals 1 W A1 l ∧ (∀ d ∈ l, I64 d) ∧ (A1 = none → n1 = 0 ∧ c1 = 0) := by
    obtain ⟨fuel, hf⟩ := h1
    exact open_rows Try.underlying24 (by kernel_rfl) (by omega) (fun m cs y _ ht => int_of_cells Try.underlying3 ht) hf
  have k2 := h2
  have lt2 : ∀ x ∈ p2, x.block < W.heap.size := by obtain ⟨m, hm⟩ := k2; exact DataW.trod_lt m _ _ _ hm
  obtain ⟨cs2, rfl, _⟩ := okWide_struct Try.underlying43 (hval 2 43 v2 rfl rfl)
  obtain ⟨a2, hc2, w2⟩ : ∃ c : CallD, cs2.toList = c.vals ∧ c.good := by
    obtain ⟨fuel, hf⟩ := h2
    exact call_of_cells Try.underlying43 (by kernel_rfl) (by kernel_rfl) ⟨Try.underlying3, Try.underlying3, Try.underlying3, Try.underlying3, Try.underlying3, Try.underlying3, Try.underlying3⟩ hf
  obtain rfl : cs2 = a2.vals.toArray := by rw [← hc2]
  clear hA0 hval0
  refine (walk_FnExactStepObject a0 a1 A1 c1 a2 W w0 hlc1 hcm1 hr1 hg1 hn1 w2).mono fun e W' ⟨he, bel⟩ => ?_
  subst he
  exact ⟨_, rfl, _, _, _, [], _, [], hW', trodAll_mk1 (shut_bool Try.underlying4 _), (trodAll_cons_mk (Below.trod laidOut (by kernel_rfl) (of_decide_eq_true (by kernel_rfl)) k0 bel lt0) (trodAll_cons_mk (Below.trod laidOut (by kernel_rfl) (of_decide_eq_true (by kernel_rfl)) k1 bel lt1) (trodAll_cons_mk (Below.trod laidOut (by kernel_rfl) (of_decide_eq_true (by kernel_rfl)) k2 bel lt2) trodAll_mk0))), rfl, bel.frame _, fun h => by cases h⟩

theorem over : Rows.fnExactStepObjectRow.holds Try.pinned (OpenSpec.ofChange Rows.fnExactStepObjectSpec) :=
  OpenClaim.holds_of_wide 12 Try.f12 rfl rfl rfl rfl rfl rfl rfl ⟨rfl, rfl, rfl, rfl, rfl⟩ rfl rfl rfl rfl rfl (by kernel_rfl) Try.func12 (by kernel_rfl)
    (of_decide_eq_true (by kernel_rfl)) (by unfold Func.isWrapper; first | (rw [if_pos (by decide +kernel)]; kernel_rfl) | (rw [if_neg (by decide +kernel)]; exact ⟨rfl, rfl⟩))
    (fun os started H enc _ => lifted os started H enc)

end Go.Proofs.Ytoeecaeaobfhmaa.fnExactStepObject
namespace Go.Proofs.Ytoeecaeaobfhmaa
/-- THE STATEMENT. -/
theorem fnExactStepObject_holds : Rows.FnExactStepObjectSaid := fnExactStepObject.over
#print axioms fnExactStepObject_holds
end Go.Proofs.Ytoeecaeaobfhmaa
