/-
  The sizes of slices of numbers and of marks, reckoned off a number, as the law package does. No condition but lengths that Go allows.
-/
import Derived.Test.YtkahhcpfkebgiaaMarkS
import Derived.Test.YtkahhcpfkebgiaaIntS
namespace Go.Proofs.Ytkahhcpfkebgiaa
open Go.RowKit
set_option maxRecDepth 100000

theorem szIntS_fits (A : Option Addr) (n c : Nat) (q : Int) (w : World) (hn : (n : Int) ≤ q) (hq : q ≤ 1048576) : Calls Try.prog 24 #[.slice A n c, .int .i64 q] w fun e w' => e = .returned (.int .i64 (q - n)) ∧ w = w' := by
  have h0 : (0 : Int) ≤ q - n := by omega
  go_enter Try.func24, Try.ntmps24
  go_wp2
  go_ret
  exact ⟨rfl, rfl⟩
theorem szIntS_over (A : Option Addr) (n c : Nat) (q : Int) (w : World) (h0 : 0 ≤ q) (hn : q < (n : Int)) (hm : n ≤ maxLen) (hq : q ≤ 1048576) : Calls Try.prog 24 #[.slice A n c, .int .i64 q] w fun e w' => e = .returned (.int .i64 (-1)) ∧ w = w' := by
  unfold maxLen at hm
  have h1 : (n : Int) ≤ 9223372036854775807 := by omega
  have h2 : q - n < 0 := by omega
  go_enter Try.func24, Try.ntmps24
  go_wp2
  go_ret
  exact ⟨rfl, rfl⟩
theorem szMarkS_fits (A : Option Addr) (n c : Nat) (q : Int) (w : World) (hn : (n : Int) ≤ q) (hq : q ≤ 1048576) : Calls Try.prog 25 #[.slice A n c, .int .i64 q] w fun e w' => e = .returned (.int .i64 (q - n)) ∧ w = w' := by
  have h0 : (0 : Int) ≤ q - n := by omega
  go_enter Try.func25, Try.ntmps25
  go_wp2
  go_ret
  exact ⟨rfl, rfl⟩
theorem szMarkS_over (A : Option Addr) (n c : Nat) (q : Int) (w : World) (h0 : 0 ≤ q) (hn : q < (n : Int)) (hm : n ≤ maxLen) (hq : q ≤ 1048576) : Calls Try.prog 25 #[.slice A n c, .int .i64 q] w fun e w' => e = .returned (.int .i64 (-1)) ∧ w = w' := by
  unfold maxLen at hm
  have h1 : (n : Int) ≤ 9223372036854775807 := by omega
  have h2 : q - n < 0 := by omega
  go_enter Try.func25, Try.ntmps25
  go_wp2
  go_ret
  exact ⟨rfl, rfl⟩

/-- A copy handed over: two slices of numbers, three numbers, a slice of marks. -/
abbrev copyArg (A : Option Addr) (n1 c1 : Nat) (B : Option Addr) (n2 c2 : Nat) (x y z : Int) (M : Option Addr) (n3 c3 : Nat) : Value :=
  .agg #[.slice A n1 c1, .slice B n2 c2, .int .i64 x, .int .i64 y, .int .i64 z, .slice M n3 c3]

set_option maxHeartbeats 1000000 in
theorem szCopy_fits (A : Option Addr) (n1 c1 : Nat) (B : Option Addr) (n2 c2 : Nat) (x y z : Int) (M : Option Addr) (n3 c3 : Nat) (w : World) (hn : n1 + n2 + n3 ≤ 1048576) :
    Calls Try.prog 11 #[copyArg A n1 c1 B n2 c2 x y z M n3 c3, .int .i64 1048576] w fun e w' => e = .returned (.int .i64 (1048576 - n1 - n2 - n3)) ∧ Below w.heap.size w w' := by
  have h1 : ¬ ((1048576 : Int) - n1 < 0) := by omega
  have h2 : ¬ ((1048576 : Int) - n1 - n2 < 0) := by omega
  have h3 : ¬ ((1048576 : Int) - n1 - n2 - n3 < 0) := by omega
  go_enter Try.func11, Try.ntmps11
  go_wp2_with fail
  refine (szIntS_fits _ _ _ _ _ (by omega) (by omega)).mono ?_
  rintro e w1 ⟨rfl, rfl⟩
  go_wp2_with fail
  refine (szIntS_fits _ _ _ _ _ (by omega) (by omega)).mono ?_
  rintro e w2 ⟨rfl, rfl⟩
  go_wp2_with fail
  refine (szMarkS_fits _ _ _ _ _ (by omega) (by omega)).mono ?_
  rintro e w3 ⟨rfl, rfl⟩
  go_wp2
  go_ret
  exact ⟨rfl, (by repeat (first | exact Below.refl _ _ | assumption | refine below_alloc ?_ _ | refine below_trans' ?_ (by assumption) | refine Below.drew ?_))⟩

set_option maxHeartbeats 1000000 in
theorem szCopy_over (A : Option Addr) (n1 c1 : Nat) (B : Option Addr) (n2 c2 : Nat) (x y z : Int) (M : Option Addr) (n3 c3 : Nat) (w : World) (hn : 1048576 < n1 + n2 + n3) (m1 : n1 ≤ maxLen) (m2 : n2 ≤ maxLen) (m3 : n3 ≤ maxLen) :
    Calls Try.prog 11 #[copyArg A n1 c1 B n2 c2 x y z M n3 c3, .int .i64 1048576] w fun e w' => e = .returned (.int .i64 (-1)) ∧ Below w.heap.size w w' := by
  by_cases k1 : n1 ≤ 1048576
  · have h1 : ¬ ((1048576 : Int) - n1 < 0) := by omega
    by_cases k2 : n1 + n2 ≤ 1048576
    · have h2 : ¬ ((1048576 : Int) - n1 - n2 < 0) := by omega
      go_enter Try.func11, Try.ntmps11
      go_wp2_with fail
      refine (szIntS_fits _ _ _ _ _ (by omega) (by omega)).mono ?_
      rintro e w1 ⟨rfl, rfl⟩
      go_wp2_with fail
      refine (szIntS_fits _ _ _ _ _ (by omega) (by omega)).mono ?_
      rintro e w2 ⟨rfl, rfl⟩
      go_wp2_with fail
      refine (szMarkS_over _ _ _ _ _ (by omega) (by omega) m3 (by omega)).mono ?_
      rintro e w3 ⟨rfl, rfl⟩
      go_wp2
      go_ret
      exact ⟨rfl, (by repeat (first | exact Below.refl _ _ | assumption | refine below_alloc ?_ _ | refine below_trans' ?_ (by assumption) | refine Below.drew ?_))⟩
    · go_enter Try.func11, Try.ntmps11
      go_wp2_with fail
      refine (szIntS_fits _ _ _ _ _ (by omega) (by omega)).mono ?_
      rintro e w1 ⟨rfl, rfl⟩
      go_wp2_with fail
      refine (szIntS_over _ _ _ _ _ (by omega) (by omega) m2 (by omega)).mono ?_
      rintro e w2 ⟨rfl, rfl⟩
      go_wp2
      go_ret
      exact ⟨rfl, (by repeat (first | exact Below.refl _ _ | assumption | refine below_alloc ?_ _ | refine below_trans' ?_ (by assumption) | refine Below.drew ?_))⟩
  · go_enter Try.func11, Try.ntmps11
    go_wp2_with fail
    refine (szIntS_over _ _ _ _ _ (by omega) (by omega) m1 (by omega)).mono ?_
    rintro e w1 ⟨rfl, rfl⟩
    go_wp2
    go_ret
    exact ⟨rfl, (by repeat (first | exact Below.refl _ _ | assumption | refine below_alloc ?_ _ | refine below_trans' ?_ (by assumption) | refine Below.drew ?_))⟩
end Go.Proofs.Ytkahhcpfkebgiaa
