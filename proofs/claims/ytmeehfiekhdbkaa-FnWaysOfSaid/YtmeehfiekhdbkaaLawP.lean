/-
  The law package's own helpers: equal lists, powers of two, bits. Asked: lengths of at most 2 to the 20, numbers less than 2 to the 60.
-/
import Derived.Test.YtmeehfiekhdbkaaEv2
import Derived.Test.YtmeehfiekhdbkaaScalP
namespace Go.Proofs.Ytmeehfiekhdbkaa
open Go.RowKit
set_option maxRecDepth 100000

theorem lpower_calls (n : Nat) (w : World) (hn : n ≤ 1048576) : Calls Try.prog 22 #[.int .i64 n] w fun e w' => e = .returned (.int .i64 (pw n)) ∧ w = w' := by
  go_enter Try.func22, Try.ntmps22
  go_wp2
  go_loop [0, 3] (fun m out => ∃ k : Nat, k ≤ n ∧ m = .int .i64 ((n - k : Nat) : Int) ∧ out = .int .i64 (pw k)) (fun m _ => (intOf m).toNat)
  case atStart => exact ⟨0, by omega, rfl, rfl⟩
  case round =>
    obtain ⟨k, hk, rfl, rfl⟩ := hrel
    by_cases hlt : k < n
    · have hs : pw (k + 1) = wrap64 (2 * pw k) := rfl
      generalize pw k = p at *
      have Hs := Lib.hid hs
      clear hs
      obtain ⟨m, hm⟩ : ∃ m, n - k = m + 1 := ⟨n - k - 1, by omega⟩
      have Hm := Lib.hid hm
      rw [hm]
      clear hm
      have hm0 : (0 : Int) < ((m + 1 : Nat) : Int) := by omega
      have hm1 : (m : Int) ≤ 1048576 := by have := Hm.out; omega
      go_wp2
      refine ⟨⟨k + 1, by omega, ?_, by rw [Hs.out]⟩, by simp [intOf]⟩
      rw [show n - (k + 1) = m by have := Hm.out; omega]
    · have hk' : k = n := by omega
      subst hk'
      go_wp2
      go_ret
      exact ⟨rfl, rfl⟩

end Go.Proofs.Ytmeehfiekhdbkaa
