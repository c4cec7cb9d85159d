/-
  A bit, as the reference reads it. Asked: a number that is not negative and a place of at most 61.
-/
import Derived.Test.YtmeehfiekhdbkaaScalP
namespace Go.Proofs.Ytmeehfiekhdbkaa
open Go.RowKit
set_option maxRecDepth 100000

theorem bit_calls (r k : Nat) (hr : r < 2 ^ 60) (hk : k ≤ 61) (w : World) : Calls Try.prog 45 #[.int .i64 r, .int .i64 k] w fun e w' => e = .returned (.int .i64 (bitN r k)) ∧ w = w' := by
  have hpw : pw k = ((2 ^ k : Nat) : Int) := by rw [pw_eq k (by omega), two_cast]
  have hb : bitN r k = r / 2 ^ k % 2 := rfl
  have h1 : r / 2 ^ k ≤ r := Nat.div_le_self _ _
  have hp := Nat.two_pow_pos k
  have HPW := Lib.hid (fun (W : World) => power_calls k W (by omega))
  rw [hpw] at HPW
  have e : (2 : Nat) ^ 60 = 1152921504606846976 := by decide
  rw [e] at hr
  have ed : ((r : Int) / ((2 ^ k : Nat) : Int)) = ((r / 2 ^ k : Nat) : Int) := (Int.natCast_ediv _ _).symm
  have et : Int.tdiv (r : Int) ((2 ^ k : Nat) : Int) = ((r / 2 ^ k : Nat) : Int) := by rw [Int.tdiv_eq_ediv_of_nonneg (by omega), ed]
  generalize bitN r k = b at *
  generalize r / 2 ^ k = q at *
  generalize 2 ^ k = t at *
  have Hb := Lib.hid hb
  clear hb hpw e
  have ht : (0 : Int) < (t : Int) := by omega
  have hq : Int.tmod (q : Int) 2 = ((b : Nat) : Int) := by
    rw [Hb.out, Int.tmod_eq_emod_of_nonneg (by omega)]; omega
  have hq0 : (q : Int) ≤ 1152921504606846976 := by omega
  go_enter Try.func45, Try.ntmps45
  go_wp2_with (go_at_call 25; refine (HPW.out _).mono ?_; rintro e w4 ⟨rfl, rfl⟩)
  go_ret
  exact ⟨rfl, rfl⟩
end Go.Proofs.Ytmeehfiekhdbkaa
