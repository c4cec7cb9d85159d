/-
  What the law package's held of slices (element: Int) does: it finds the running numbers that mark wrote. No condition but sizes.
-/
import Derived.Test.YtoeecaeaobfhmaaMkInt
namespace Go.Proofs.Ytoeecaeaobfhmaa
open Go.RowKit
set_option maxRecDepth 100000

set_option maxHeartbeats 2000000 in
theorem heldIntS_calls (A : Option Addr) (n c : Nat) (q : Int) (w : World) (hr : RowOf markInt 1 w A (marksInt q n)) (hq : 0 ≤ q) (hn : q + n ≤ 1099511627776) :
    Calls Try.prog 21 #[.slice A n c, .int .i64 q] w fun e w' => e = .returned (.int .i64 (q + n)) ∧ w = w' := by
  have HR := Lib.hid hr
  clear hr
  have hlen : (n : Int) ≤ 1099511627776 := by omega
  go_enter Try.func21, Try.ntmps21
  go_wp2
  go_loop [1, 5] (fun kv i => ∃ (k : Nat) (kk : Int), k ≤ n ∧ i = .int .i64 k ∧ kv = .int .i64 kk ∧ Hid (kk = q + k)) (fun _ i => n - (intOf i).toNat)
  case atStart => exact ⟨0, q, by omega, rfl, rfl, by show _ = _; omega⟩
  case round =>
    obtain ⟨k, kk, hk, rfl, rfl, HK⟩ := hrel
    by_cases hlt : k < n
    · obtain ⟨b, off, rfl, hat⟩ := HR.out (by rw [marksInt_len]; omega)
      have hg := marksInt_get (q := q) hlt
      rw [← HK.out] at hg
      have x0 : w.cell? ⟨b, off + k, none⟩ = some (.int .i64 (kk)) := by simpa using hat k kk hg 0 _ rfl
      clear HR hat hg
      have hkk0 : (0 : Int) ≤ kk := by have := HK.out; omega
      have hkk1 : kk ≤ 1099511627776 - 1 := by have := HK.out; omega
      have hk0 : (0 : Int) ≤ (k : Int) := by omega
      have hkn : (k : Int) < (n : Int) := by omega
      go_wp2
      first
        | exact ⟨⟨k + 1, _, by omega, by go_num, rfl, by show _ = _; have := HK.out; omega⟩, by simp [intOf]; omega⟩
        | (go_round
           case rel => exact ⟨k + 1, _, by omega, by go_num, rfl, by show _ = _; have := HK.out; omega⟩
           case measure => simp [intOf]; omega)
    · have hge : ¬ ((k : Int) < (n : Int)) := by omega
      have e1 : k = n := by omega
      subst e1
      go_wp2
      go_ret
      exact ⟨by rw [HK.out]; rfl, rfl⟩
end Go.Proofs.Ytoeecaeaobfhmaa
