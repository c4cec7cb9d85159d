/-
  The law package's own helpers: equal lists, powers of two, bits. Asked: lengths of at most 2 to the 20, numbers less than 2 to the 60.
-/
import Derived.Test.YtcmecgnlhgjciaaIntS
import Derived.Test.YtcmecgnlhgjciaaScalP
namespace Go.Proofs.Ytcmecgnlhgjciaa
open Go.RowKit
set_option maxRecDepth 100000

set_option maxHeartbeats 1000000 in
theorem equalInts_same (cs : List Int) (A B : Option Addr) (ca cb : Nat) (w : World) (ha : RowInts w A cs) (hbb : RowInts w B cs) (hl : cs.length ≤ 1048576) :
    Calls Try.prog 28 #[.slice A cs.length ca, .slice B cs.length cb] w fun e w' => e = .returned (.bool true) ∧ Below w.heap.size w w' := by
  have HA := Lib.hid ha
  have HB := Lib.hid hbb
  clear ha hbb
  generalize hn : cs.length = n at *
  have Hn := Lib.hid hn
  clear hn
  have hlen : (n : Int) ≤ 1048576 := by omega
  go_enter Try.func28, Try.ntmps28
  go_wp2
  go_loopw [5] (fun i wr => ∃ k : Nat, k ≤ n ∧ i = .int .i64 k ∧ Below w.heap.size w wr) (fun i _ => n - (intOf i).toNat)
  case atStart => exact ⟨0, by omega, rfl, Below.refl _ _⟩
  case round =>
    obtain ⟨k, hk, rfl, hb⟩ := hrel
    by_cases hlt : k < n
    · obtain ⟨b, off, rfl, hat⟩ := HA.out (by have := Hn.out; omega)
      obtain ⟨b2, off2, rfl, hat2⟩ := HB.out (by have := Hn.out; omega)
      obtain ⟨c, hc⟩ : ∃ c, cs[k]? = some c := ⟨cs[k]'(by have := Hn.out; omega), List.getElem?_eq_getElem _⟩
      have x0 := cell_below hb (RowInts.at_ hat hc)
      have y0 := cell_below hb (RowInts.at_ hat2 hc)
      have l1 := World.block_lt_of_cell? _ _ x0
      have l2 := World.block_lt_of_cell? _ _ y0
      dsimp only at l1 l2
      clear HA HB hat hat2 hc
      have Hb := Lib.hid hb
      clear hb
      have hk0 : (0 : Int) ≤ (k : Int) := by omega
      have hkn : (k : Int) < (n : Int) := by omega
      go_wp2_with fail
      refine wp_region_grow (by kernel_rfl) (by kernel_rfl) ?_
      repeat (go_big_quiet_step (fail))
      refine wpQuiet_end ?_
      intro w1 hb1
      go_wp2_with fail
      go_roundw
      case rel => exact ⟨k + 1, by omega, by go_num, Hb.out.trans (hb1.mono Hb.out.size)⟩
      case measure => simp [intOf]; omega
    · have hkn : k = n := by omega
      subst hkn
      have hlt' : ¬ ((k : Int) < (k : Int)) := by omega
      go_wp2
      go_ret
      exact ⟨rfl, hb⟩

theorem lpower_calls (n : Nat) (w : World) (hn : n ≤ 1048576) : Calls Try.prog 36 #[.int .i64 n] w fun e w' => e = .returned (.int .i64 (pw n)) ∧ w = w' := by
  go_enter Try.func36, Try.ntmps36
  go_wp2
  go_loop [0, 3] (fun m out => ∃ k : Nat, k ≤ n ∧ m = .int .i64 ((n - k : Nat) : Int) ∧ out = .int .i64 (pw k)) (fun m _ => (intOf m).toNat)
  case atStart => exact ⟨0, by omega, rfl, rfl⟩
  case round =>
    obtain ⟨k, hk, rfl, rfl⟩ := hrel
    by_cases hlt : k < n
    · have hs : pw (k + 1) = wrap64 (2 * pw k) := rfl
      generalize pw k = p at *
      have Hs := Lib.hid hs
      clear hs
      obtain ⟨m, hm⟩ : ∃ m, n - k = m + 1 := ⟨n - k - 1, by omega⟩
      have Hm := Lib.hid hm
      rw [hm]
      clear hm
      have hm0 : (0 : Int) < ((m + 1 : Nat) : Int) := by omega
      have hm1 : (m : Int) ≤ 1048576 := by have := Hm.out; omega
      go_wp2
      refine ⟨⟨k + 1, by omega, ?_, by rw [Hs.out]⟩, by simp [intOf]⟩
      rw [show n - (k + 1) = m by have := Hm.out; omega]
    · have hk' : k = n := by omega
      subst hk'
      go_wp2
      go_ret
      exact ⟨rfl, rfl⟩


theorem lbit_calls (r k : Nat) (hr : r < 2 ^ 60) (hk : k ≤ 61) (w : World) : Calls Try.prog 29 #[.int .i64 r, .int .i64 k] w fun e w' => e = .returned (.int .i64 (bitN r k)) ∧ w = w' := by
  have hpw : pw k = ((2 ^ k : Nat) : Int) := by rw [pw_eq k (by omega), two_cast]
  have hb : bitN r k = r / 2 ^ k % 2 := rfl
  have h1 : r / 2 ^ k ≤ r := Nat.div_le_self _ _
  have hp := Nat.two_pow_pos k
  have HPW := Lib.hid (fun (W : World) => lpower_calls k W (by omega))
  rw [hpw] at HPW
  have e : (2 : Nat) ^ 60 = 1152921504606846976 := by decide
  rw [e] at hr
  have ed : ((r : Int) / ((2 ^ k : Nat) : Int)) = ((r / 2 ^ k : Nat) : Int) := (Int.natCast_ediv _ _).symm
  have et : Int.tdiv (r : Int) ((2 ^ k : Nat) : Int) = ((r / 2 ^ k : Nat) : Int) := by rw [Int.tdiv_eq_ediv_of_nonneg (by omega), ed]
  generalize bitN r k = b at *
  generalize r / 2 ^ k = q at *
  generalize 2 ^ k = t at *
  have Hb := Lib.hid hb
  clear hb hpw e
  have ht : (0 : Int) < (t : Int) := by omega
  have hq : Int.tmod (q : Int) 2 = ((b : Nat) : Int) := by
    rw [Hb.out, Int.tmod_eq_emod_of_nonneg (by omega)]; omega
  have hq0 : (q : Int) ≤ 1152921504606846976 := by omega
  go_enter Try.func29, Try.ntmps29
  go_wp2_with (go_at_call 36; refine (HPW.out _).mono ?_; rintro e w4 ⟨rfl, rfl⟩)
  go_ret
  exact ⟨rfl, rfl⟩
end Go.Proofs.Ytcmecgnlhgjciaa
