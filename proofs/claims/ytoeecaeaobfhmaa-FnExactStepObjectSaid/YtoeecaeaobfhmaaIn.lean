/-
  Being in a range, as the program and the reference ask it; and small laws on 'all of a range'. No condition.
-/
import Derived.Test.YtoeecaeaobfhmaaData
import Derived.Test.YtoeecaeaobfhmaaRows
namespace Go.Proofs.Ytoeecaeaobfhmaa
open Go.RowKit
set_option maxRecDepth 100000

def inB (n l h : Int) : Bool := decide (l ≤ n ∧ n ≤ h)
theorem all_range_succ (p : Nat → Bool) (k : Nat) : (List.range (k + 1)).all p = ((List.range k).all p && p k) := by
  rw [List.range_succ, List.all_append]; simp
theorem all_range_false {p : Nat → Bool} {n k : Nat} (hk : k < n) (h : p k = false) : (List.range n).all p = false := by
  rw [List.all_eq_false]
  exact ⟨k, List.mem_range.2 hk, by simp [h]⟩
theorem within_calls (n l h : Int) (w : World) : Calls Try.prog 78 #[.int .i64 n, .int .i64 l, .int .i64 h] w fun e w' => e = .returned (.bool (inB n l h)) ∧ w = w' := by
  by_cases h1 : l ≤ n
  · by_cases h2 : n ≤ h
    · have e1 : inB n l h = true := by simp [inB, h1, h2]
      rw [e1]
      clear e1
      go_enter Try.func78, Try.ntmps78
      go_wp2
      go_ret
      exact ⟨rfl, rfl⟩
    · have e1 : inB n l h = false := by simp [inB, h2]
      rw [e1]
      clear e1
      go_enter Try.func78, Try.ntmps78
      go_wp2
      go_ret
      exact ⟨rfl, rfl⟩
  · have e1 : inB n l h = false := by simp [inB, h1]
    rw [e1]
    clear e1
    go_enter Try.func78, Try.ntmps78
    go_wp2
    go_ret
    exact ⟨rfl, rfl⟩
theorem inRange_calls (n l h : Int) (w : World) : Calls Try.prog 76 #[.int .i64 n, .int .i64 l, .int .i64 h] w fun e w' => e = .returned (.bool (inB n l h)) ∧ w = w' := by
  by_cases h1 : l ≤ n
  · by_cases h2 : n ≤ h
    · have e1 : inB n l h = true := by simp [inB, h1, h2]
      rw [e1]
      clear e1
      go_enter Try.func76, Try.ntmps76
      go_wp2
      go_ret
      exact ⟨rfl, rfl⟩
    · have e1 : inB n l h = false := by simp [inB, h2]
      rw [e1]
      clear e1
      go_enter Try.func76, Try.ntmps76
      go_wp2
      go_ret
      exact ⟨rfl, rfl⟩
  · have e1 : inB n l h = false := by simp [inB, h1]
    rw [e1]
    clear e1
    go_enter Try.func76, Try.ntmps76
    go_wp2
    go_ret
    exact ⟨rfl, rfl⟩

end Go.Proofs.Ytoeecaeaobfhmaa
