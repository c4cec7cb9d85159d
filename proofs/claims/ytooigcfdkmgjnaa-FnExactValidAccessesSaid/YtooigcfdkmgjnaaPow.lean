/-
  Powers of two: as the reference doubles, and as a shift gives them. No condition but exponents of at most 2 to the 20.
-/
import Derived.Test.YtooigcfdkmgjnaaIn
namespace Go.Proofs.Ytooigcfdkmgjnaa
open Go.RowKit
set_option maxRecDepth 100000

/-- Two to a number, as the reference doubles. -/
def pw : Nat → Int
  | 0 => 1
  | n + 1 => wrap64 (2 * pw n)
theorem two_cast (n : Nat) : ((2 ^ n : Nat) : Int) = (2 : Int) ^ n := by rw [Int.natCast_pow]; rfl
theorem two_le {n m : Nat} (h : n ≤ m) : (2 : Int) ^ n ≤ 2 ^ m := by
  rw [← two_cast, ← two_cast]
  exact Int.ofNat_le.2 (Nat.pow_le_pow_right (by omega) h)
theorem two_pos (n : Nat) : (1 : Int) ≤ 2 ^ n := by
  rw [← two_cast]
  have := Nat.two_pow_pos n
  omega
theorem pw_eq : ∀ n : Nat, n ≤ 62 → pw n = 2 ^ n
  | 0, _ => rfl
  | n + 1, h => by
    rw [pw, pw_eq n (by omega), Int.pow_succ]
    have h1 : (2 : Int) ^ n ≤ 2 ^ 61 := two_le (by omega)
    have h0 := two_pos n
    generalize (2 : Int) ^ n = t at *
    have e : (2 : Int) ^ 61 = 2305843009213693952 := by decide
    rw [e] at h1
    rw [IntWalk.wrap64_in _ ⟨by omega, by omega⟩]
    omega
theorem shift_less {m : Nat} (hm : m ≤ 61) : wrap64 (wrap64 (2 ^ m) - 1) = 2 ^ m - 1 := by
  have h1 : (2 : Int) ^ m ≤ 2 ^ 61 := two_le hm
  have h0 := two_pos m
  generalize (2 : Int) ^ m = t at *
  have e : (2 : Int) ^ 61 = 2305843009213693952 := by decide
  rw [e] at h1
  rw [IntWalk.wrap64_in t ⟨by omega, by omega⟩, IntWalk.wrap64_in _ ⟨by omega, by omega⟩]

theorem power_calls (n : Nat) (w : World) (hn : n ≤ 1048576) : Calls Try.prog 58 #[.int .i64 n] w fun e w' => e = .returned (.int .i64 (pw n)) ∧ w = w' := by
  go_enter Try.func58, Try.ntmps58
  go_wp2
  go_loop [0, 3] (fun m out => ∃ k : Nat, k ≤ n ∧ m = .int .i64 ((n - k : Nat) : Int) ∧ out = .int .i64 (pw k)) (fun m _ => (intOf m).toNat)
  case atStart => exact ⟨0, by omega, rfl, rfl⟩
  case round =>
    obtain ⟨k, hk, rfl, rfl⟩ := hrel
    by_cases hlt : k < n
    · have hs : pw (k + 1) = wrap64 (2 * pw k) := rfl
      generalize pw k = p at *
      have Hs := Lib.hid hs
      clear hs
      obtain ⟨m, hm⟩ : ∃ m, n - k = m + 1 := ⟨n - k - 1, by omega⟩
      have Hm := Lib.hid hm
      rw [hm]
      clear hm
      have hm0 : (0 : Int) < ((m + 1 : Nat) : Int) := by omega
      have hm1 : (m : Int) ≤ 1048576 := by have := Hm.out; omega
      go_wp2
      refine ⟨⟨k + 1, by omega, ?_, by rw [Hs.out]⟩, by simp [intOf]⟩
      rw [show n - (k + 1) = m by have := Hm.out; omega]
    · have hk' : k = n := by omega
      subst hk'
      go_wp2
      go_ret
      exact ⟨rfl, rfl⟩

end Go.Proofs.Ytooigcfdkmgjnaa
