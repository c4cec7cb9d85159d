/-
  What the law package's equality, mark and held do with slices of slices of three numbers. No condition but sizes.
-/
import Derived.Test.YtcmecgnlhgjciaaVecS
import Derived.Test.YtcmecgnlhgjciaaMkInt
import Derived.Test.YtcmecgnlhgjciaaHeInt
namespace Go.Proofs.Ytcmecgnlhgjciaa
open Go.RowKit
set_option maxRecDepth 100000

set_option maxHeartbeats 1000000 in
theorem eqIntSS_same (L : List (List Int)) (base base' : Nat) (A B : Option Addr) (n c c' : Nat) (bs bs' : List Nat) (w : World) (hA : Vecs w base A n c bs L) (hB : Vecs w base' B n c' bs' L) (hn : n ≤ 1048576) :
    Calls Try.prog 41 #[.slice A n c, .slice B n c'] w fun e w' => e = .returned (.bool true) ∧ Below w.heap.size w w' := by
  have HA := Lib.hid hA
  have HB := Lib.hid hB
  clear hA hB
  have hlen : (n : Int) ≤ 1048576 := by omega
  go_enter Try.func41, Try.ntmps41
  go_wp2
  go_loopw [5] (fun i wr => ∃ k : Nat, k ≤ n ∧ i = .int .i64 k ∧ Below w.heap.size w wr) (fun i _ => n - (intOf i).toNat)
  case atStart => exact ⟨0, by omega, rfl, Below.refl _ _⟩
  case round =>
    obtain ⟨k, hk, rfl, hb⟩ := hrel
    by_cases hlt : k < n
    · have hA := HA.out.below hb
      have hB := HB.out.below hb
      obtain ⟨b1, r, h1, h2, h3⟩ := hA.get hlt
      obtain ⟨b2, r', h1', h2', _⟩ := hB.get hlt
      have e : r' = r := by rw [h2] at h2'; injection h2' with h; exact h.symm
      subst e
      obtain ⟨ga, rfl, ca, la⟩ := hA.cell h1
      obtain ⟨gb, rfl, cb, lb⟩ := hB.cell h1'
      have HRa := Lib.hid (hA.row h1 h2)
      have HRb := Lib.hid (hB.row h1' h2')
      have Hb := Lib.hid hb
      rw [rowV] at ca cb
      have HE := Lib.hid (fun (W : World) (h1 : RowInts W (some ⟨b1, 0, none⟩) r') (h2 : RowInts W (some ⟨b2, 0, none⟩) r') => eqIntS_same r' (some ⟨b1, 0, none⟩) (some ⟨b2, 0, none⟩) 3 3 W h1 h2 (by omega))
      rw [h3] at HE
      clear hA hB h1 h2 h1' h2' hb h3
      have hk0 : (0 : Int) ≤ (k : Int) := by omega
      have hkn : (k : Int) < (n : Int) := by omega
      go_wp2_with fail
      refine wp_region_grow (by kernel_rfl) (by kernel_rfl) ?_
      repeat (go_big_quiet_step ((go_at_call 23; exact Calls.ext_of (Nat.le_refl _) (HE.out _ (HRa.out.below (Wx.h _)) (HRb.out.below (Wx.h _))))))
      refine wpQuiet_end ?_
      intro w3 hb3
      go_wp2_with fail
      go_roundw
      case rel => exact ⟨k + 1, by omega, by go_num, below_trans' Hb.out hb3⟩
      case measure => simp [intOf]; omega
    · have hge : ¬ ((k : Int) < (n : Int)) := by omega
      have Hb := Lib.hid hb
      clear hb
      go_wp2
      go_ret
      exact ⟨rfl, Hb.out⟩

set_option maxHeartbeats 1000000 in
theorem markIntSS_calls (L : List (List Int)) (base : Nat) (A : Option Addr) (n c : Nat) (bs : List Nat) (q : Int) (w : World) (hA : Vecs w base A n c bs L) (hq : 0 ≤ q) (hn : q + 3 * n ≤ 1099511627776) :
    Calls Try.prog 42 #[.slice A n c, .int .i64 q] w fun e w' => e = .returned (.int .i64 (q + 3 * n)) ∧ Vecs w' base A n c bs (marks3 q n) ∧ Far (fun b => b ∈ bs) w w' := by
  have HA := Lib.hid hA
  have HL := Lib.hid hA.llen
  clear hA
  have hlen : (n : Int) ≤ 1099511627776 := by omega
  go_enter Try.func42, Try.ntmps42
  go_wp2
  go_loopw [1, 5] (fun kv i wr => ∃ (k : Nat) (kk : Int), k ≤ n ∧ i = .int .i64 k ∧ kv = .int .i64 kk ∧ Hid (kk = q + 3 * k) ∧ Vecs wr base A n c bs (markTo q k L) ∧ Far (fun b => b ∈ bs) w wr) (fun _ i _ => n - (intOf i).toNat)
  case atStart => exact ⟨0, q, by omega, rfl, rfl, by show _ = _; omega, by rw [markTo_zero]; exact HA.out, Far.refl _ _⟩
  case round =>
    obtain ⟨k, kk, hk, rfl, rfl, HK, hV, hf⟩ := hrel
    by_cases hlt : k < n
    · obtain ⟨b1, r, h1, h2, h3⟩ := hV.get hlt
      obtain ⟨ga, rfl, ca, la⟩ := hV.cell h1
      have hro := (hV.inn k b1 r h1 h2).2
      rw [rowV] at ca hro
      have HV := Lib.hid hV
      have Hf := Lib.hid hf
      have H1 := Lib.hid h1
      have hkk0 : (0 : Int) ≤ kk := by have := HK.out; omega
      have hkk1 : kk + 3 ≤ 1099511627776 := by have := HK.out; omega
      have HM := Lib.hid (fun (W : World) (h : W.ownsRow base 3 1 (.slice (some ⟨b1, 0, none⟩) 3 3) 3 (r.flatMap intVals)) => markIntS_calls (some ⟨b1, 0, none⟩) 3 3 base (r.flatMap intVals) kk W h hkk0 (by omega))
      have Hro := Lib.hid hro
      clear hV hf h1 h2 hro
      have hk0 : (0 : Int) ≤ (k : Int) := by omega
      have hkn : (k : Int) < (n : Int) := by omega
      go_wp2_with fail
      refine (HM.out _ Hro.out).mono ?_
      rintro e w3 ⟨rfl, own3, hg3⟩
      have V3 := HV.out.set H1.out (marksInt_len (q + 3 * k) 3) (by rw [← HK.out]; exact own3) hg3
      have HV3 := Lib.hid (show Vecs w3 base _ n c bs (markTo q (k + 1) L) by rw [← markTo_succ (by rw [HL.out]; exact hlt)]; exact V3)
      have HF3 := Lib.hid (hg3)
      clear own3 hg3 V3
      go_wp2_with fail
      go_roundw
      case rel =>
        refine ⟨k + 1, kk + ((3 : Nat) : Int), by omega, by go_num, by go_num, ?_, HV3.out, Hf.out.trans ((Far.of_grown HF3.out).weaken (fun j _ e => by subst e; exact List.mem_of_getElem? H1.out))⟩
        show _ = _
        have := HK.out
        omega
      case measure => simp [intOf]; omega
    · have e1 : k = n := by omega
      subst e1
      have hge : ¬ ((k : Int) < (k : Int)) := by omega
      have HV := Lib.hid (show Vecs wr base A k c bs (marks3 q k) by rw [← markTo_all HL.out]; exact hV)
      have Hf := Lib.hid hf
      clear hV hf
      go_wp2
      go_ret
      exact ⟨by rw [HK.out]; rfl, HV.out, Hf.out⟩

set_option maxHeartbeats 1000000 in
theorem heldIntSS_calls (base : Nat) (A : Option Addr) (n c : Nat) (bs : List Nat) (q : Int) (w : World) (hA : Vecs w base A n c bs (marks3 q n)) (hq : 0 ≤ q) (hn : q + 3 * n ≤ 1099511627776) :
    Calls Try.prog 43 #[.slice A n c, .int .i64 q] w fun e w' => e = .returned (.int .i64 (q + 3 * n)) ∧ w = w' := by
  have HA := Lib.hid hA
  clear hA
  have hlen : (n : Int) ≤ 1099511627776 := by omega
  go_enter Try.func43, Try.ntmps43
  go_wp2
  go_loop [1, 5] (fun kv i => ∃ (k : Nat) (kk : Int), k ≤ n ∧ i = .int .i64 k ∧ kv = .int .i64 kk ∧ Hid (kk = q + 3 * k)) (fun _ i => n - (intOf i).toNat)
  case atStart => exact ⟨0, q, by omega, rfl, rfl, by show _ = _; omega⟩
  case round =>
    obtain ⟨k, kk, hk, rfl, rfl, HK⟩ := hrel
    by_cases hlt : k < n
    · obtain ⟨b1, r, h1, h2, h3⟩ := HA.out.get hlt
      obtain ⟨ga, rfl, ca, la⟩ := HA.out.cell h1
      have hrow := HA.out.row h1 h2
      have er : r = marksInt kk 3 := by rw [marks3_get hlt] at h2; injection h2 with h; rw [← h, HK.out]
      rw [er] at hrow
      rw [rowV] at ca
      have Hrow := Lib.hid hrow
      have hkk0 : (0 : Int) ≤ kk := by have := HK.out; omega
      have hkk1 : kk + 3 ≤ 1099511627776 := by have := HK.out; omega
      have HM := Lib.hid (fun (W : World) (h : RowOf markInt 1 W (some ⟨b1, 0, none⟩) (marksInt kk 3)) => heldIntS_calls (some ⟨b1, 0, none⟩) 3 3 kk W h hkk0 (by omega))
      clear hrow h1 h2 er
      have hk0 : (0 : Int) ≤ (k : Int) := by omega
      have hkn : (k : Int) < (n : Int) := by omega
      have hpos : ¬ (kk + 3 < 0) := by omega
      go_wp2_with (go_at_call 26; refine (HM.out _ Hrow.out).mono ?_; rintro e w3 ⟨rfl, rfl⟩)
      go_round
      case rel =>
        refine ⟨k + 1, kk + ((3 : Nat) : Int), by omega, by go_num, by go_num, ?_⟩
        show _ = _
        have := HK.out
        omega
      case measure => simp [intOf]; omega
    · have e1 : k = n := by omega
      subst e1
      have hge : ¬ ((k : Int) < (k : Int)) := by omega
      go_wp2
      go_ret
      exact ⟨by rw [HK.out]; rfl, rfl⟩
end Go.Proofs.Ytcmecgnlhgjciaa
