/-
  What the law package's held of slices (element: Access) does: it finds the running numbers that mark wrote. No condition but sizes.
-/
import Derived.Test.YtooigcfdkmgjnaaMkAccess
namespace Go.Proofs.Ytooigcfdkmgjnaa
open Go.RowKit
set_option maxRecDepth 100000

set_option maxHeartbeats 2000000 in
theorem heldAccessS_calls (A : Option Addr) (n c : Nat) (q : Int) (w : World) (hr : RowOf markAccess 3 w A (marksAccess q n)) (hq : 0 ≤ q) (hn : q + 3 * n ≤ 1099511627776) :
    Calls Try.prog 35 #[.slice A n c, .int .i64 q] w fun e w' => e = .returned (.int .i64 (q + 3 * n)) ∧ w = w' := by
  have HR := Lib.hid hr
  clear hr
  have hlen : (n : Int) ≤ 1099511627776 := by omega
  go_enter Try.func35, Try.ntmps35
  go_wp2
  go_loop [1, 5] (fun kv i => ∃ (k : Nat) (kk : Int), k ≤ n ∧ i = .int .i64 k ∧ kv = .int .i64 kk ∧ Hid (kk = q + 3 * k)) (fun _ i => n - (intOf i).toNat)
  case atStart => exact ⟨0, q, by omega, rfl, rfl, by show _ = _; omega⟩
  case round =>
    obtain ⟨k, kk, hk, rfl, rfl, HK⟩ := hrel
    by_cases hlt : k < n
    · obtain ⟨b, off, rfl, hat⟩ := HR.out (by rw [marksAccess_len]; omega)
      have hg := marksAccess_get (q := q) hlt
      rw [← HK.out] at hg
      have x0 : w.cell? ⟨b, off + k * 3, none⟩ = some (.int .i64 (kk)) := hat k kk hg 0 _ rfl
      have x1 : w.cell? ⟨b, off + k * 3 + 1, none⟩ = some (.bool ((kk + 1) % 3 == 0)) := hat k kk hg 1 _ rfl
      have x2 : w.cell? ⟨b, off + k * 3 + 2, none⟩ = some (.int .i64 (kk + 1 + 1)) := hat k kk hg 2 _ rfl
      clear HR hat hg
      have hkk0 : (0 : Int) ≤ kk := by have := HK.out; omega
      have hkk1 : kk ≤ 1099511627776 - 3 := by have := HK.out; omega
      have hk0 : (0 : Int) ≤ (k : Int) := by omega
      have hkn : (k : Int) < (n : Int) := by omega
      go_wp2
      first
        | exact ⟨⟨k + 1, _, by omega, by go_num, rfl, by show _ = _; have := HK.out; omega⟩, by simp [intOf]; omega⟩
        | (go_round
           case rel => exact ⟨k + 1, _, by omega, by go_num, rfl, by show _ = _; have := HK.out; omega⟩
           case measure => simp [intOf]; omega)
    · have hge : ¬ ((k : Int) < (n : Int)) := by omega
      have e1 : k = n := by omega
      subst e1
      go_wp2
      go_ret
      exact ⟨by rw [HK.out]; rfl, rfl⟩
end Go.Proofs.Ytooigcfdkmgjnaa
