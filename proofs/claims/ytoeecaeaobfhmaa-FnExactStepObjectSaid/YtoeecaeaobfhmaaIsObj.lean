/-
  Whether there is an object of a name, as the reference asks it. No condition.
-/
import Derived.Test.YtoeecaeaobfhmaaStepP
import Derived.Test.YtoeecaeaobfhmaaRows
namespace Go.Proofs.Ytoeecaeaobfhmaa
open Go.RowKit
set_option maxRecDepth 100000

theorem isObj_calls (s : ByteArray) (w : World) : Calls Try.prog 68 #[.string s] w fun e w' => e = .returned (.bool (obOf s).isSome) ∧ w = w' := by
  cases h : obOf s with
  | none =>
    have q1 : (s.toList == [114, 101, 103, 105, 115, 116, 101, 114]) = false := beq_eq_false_iff_ne.2 (obOf_none h .register)
    have q2 : (s.toList == [113, 117, 101, 117, 101]) = false := beq_eq_false_iff_ne.2 (obOf_none h .queue)
    have q3 : (s.toList == [115, 116, 97, 99, 107]) = false := beq_eq_false_iff_ne.2 (obOf_none h .stack)
    have q4 : (s.toList == [99, 111, 117, 110, 116, 101, 114]) = false := beq_eq_false_iff_ne.2 (obOf_none h .counter)
    have q5 : (s.toList == [115, 101, 116]) = false := beq_eq_false_iff_ne.2 (obOf_none h .set)
    have q6 : (s.toList == [109, 111, 115, 116]) = false := beq_eq_false_iff_ne.2 (obOf_none h .most)
    clear h
    go_enter Try.func68, Try.ntmps68
    go_wp2
    go_ret
    exact ⟨rfl, rfl⟩
  | some o =>
    have ht := obOf_text h
    clear h
    cases o
    all_goals
      unfold Ob.text at ht
      go_enter Try.func68, Try.ntmps68
      go_wp2
      go_ret
      exact ⟨rfl, rfl⟩
end Go.Proofs.Ytoeecaeaobfhmaa
