/-
  Whether the last event of each process in a set is there and has a mark, of the program and of the reference: the same Lean function. Asked: at most 20 events, sets less than 2 to the 20.
-/
import Derived.Test.YtmeehfiekhdbkaaWayQ
import Derived.Test.YtmeehfiekhdbkaaCut
namespace Go.Proofs.Ytmeehfiekhdbkaa
open Go.RowKit
set_option maxRecDepth 100000

theorem lastK_nat (cs : List EventD) (s : Nat) (p : Int) (k : Nat) : lastK cs s p k = -1 ∨ ∃ j : Nat, lastK cs s p k = j ∧ j < k := by
  have h := lastK_bd cs s p k
  by_cases h0 : lastK cs s p k = -1
  · exact .inl h0
  · exact .inr ⟨(lastK cs s p k).toNat, by omega, by omega⟩

theorem markP_eq {cs : List EventD} {n : Nat} (marks s p : Nat) (hn : cs.length = n) : markP cs marks s p = (decide (0 ≤ lastK cs s p n) && bitN marks (lastK cs s p n).toNat == 1) := by subst hn; rfl

set_option maxHeartbeats 2000000 in
theorem isMarked_calls (cs : List EventD) (s marks : Nat) (A : Option Addr) (cap : Nat) (w : World) (hr : RowEvents w A cs) (hl : cs.length ≤ 20) (hs : s < 2 ^ 20) (hm : marks < 2 ^ 20) (b : Bool) (hb : markB cs marks s = b) :
    Calls Try.prog 33 #[.slice A cs.length cap, .int .i64 s, .int .i64 marks] w fun e w' => e = .returned (.bool b) ∧ Below w.heap.size w w' := by
  have HR := Lib.hid hr
  have HV := Lib.hid hb
  have HN := Lib.hid (fun p : Nat => lastK_nat cs s (p : Int) cs.length)
  clear hr hb
  generalize hn : cs.length = n at *
  have Hn := Lib.hid hn
  clear hn
  have hlen : (n : Int) ≤ 20 := by omega
  go_enter Try.func33, Try.ntmps33
  go_wp2
  go_loopw [11] (fun i wr => ∃ k : Nat, k ≤ 3 ∧ i = .int .i64 k ∧ Below w.heap.size w wr ∧ Hid ((List.range k).all (markP cs marks s) = true)) (fun i _ => 3 - (intOf i).toNat)
  case atStart => exact ⟨0, by omega, rfl, Below.refl _ _, rfl⟩
  case round =>
    obtain ⟨p, hp, rfl, hb, HG⟩ := hrel
    by_cases hlt : p < 3
    · have Hb := Lib.hid hb
      clear hb
      have hp0 : (0 : Int) ≤ (p : Int) := by omega
      have hp3 : (p : Int) < 3 := by omega
      have HBad := Lib.hid (fun (e : markP cs marks s p = false) => show b = false by rw [← HV.out]; exact markB_row hlt e)
      have HOk := Lib.hid (fun (e : markP cs marks s p = true) => show Hid ((List.range (p + 1)).all (markP cs marks s) = true) by show _ = true; rw [all_range_succ, HG.out, e]; rfl)
      go_wp2_with fail
      go_loopw [8, 16] (fun m i wq => ∃ k : Nat, k ≤ n ∧ i = .int .i64 k ∧ m = .int .i64 (lastK cs s p k) ∧ Below w.heap.size w wq) (fun _ i _ => n - (intOf i).toNat)
      case atStart => exact ⟨0, by omega, rfl, rfl, Hb.out⟩
      case round =>
        clear Hb
        obtain ⟨k, hk, rfl, rfl, hb⟩ := hrel
        by_cases hkl : k < n
        · obtain ⟨b0, off, rfl, hat⟩ := HR.out (by have := Hn.out; omega)
          obtain ⟨c, hc⟩ : ∃ c, cs[k]? = some c := ⟨cs[k]'(by have := Hn.out; omega), List.getElem?_eq_getElem _⟩
          obtain ⟨x0, x1, x2⟩ := (RowEvents.at_ hat hc).below hb
          have hst : lastK cs s p (k + 1) = if c.proc == p && bitN s k == 1 then (k : Int) else lastK cs s p k := by rw [lastK, evAt_eq hc]
          have hbit := bit_and (r := s) (by omega) k
          have hbl := bitN_le s k
          have Hst := Lib.hid hst
          have Hb := Lib.hid hb
          clear hat hc hb hst
          generalize lastK cs s p k = m at *
          generalize bitN s k = bb at *
          have hk0 : (0 : Int) ≤ (k : Int) := by omega
          have hkn : (k : Int) < (n : Int) := by omega
          have hk64 : (k : Int) ≤ 64 := by omega
          have hbb : bb = 0 ∨ bb = 1 := by omega
          cases hpe : (c.proc == (p : Int))
          · go_wp2
            go_roundw
            case rel => exact ⟨k + 1, by omega, by go_num, by rw [Hst.out, hpe]; rfl, below_alloc Hb.out _⟩
            case measure => simp [intOf]; omega
          · rcases hbb with rfl | rfl
            · go_wp2
              go_roundw
              case rel => exact ⟨k + 1, by omega, by go_num, by rw [Hst.out, hpe]; rfl, below_alloc Hb.out _⟩
              case measure => simp [intOf]; omega
            · go_wp2
              go_roundw
              case rel => exact ⟨k + 1, by omega, by go_num, by rw [Hst.out, hpe]; rfl, below_alloc Hb.out _⟩
              case measure => simp [intOf]; omega
        · have e1 : k = n := by omega
          subst e1
          have hge : ¬ ((k : Int) < (k : Int)) := by omega
          have hP := markP_eq marks s p Hn.out
          have Hb := Lib.hid hb
          clear hb
          rcases HN.out p with h | ⟨j, h, hj⟩
          · rw [h] at hP ⊢
            have e2 := HBad.out (by rw [hP]; rfl)
            subst e2
            clear hP h
            go_wp2
            go_ret
            exact ⟨rfl, Hb.out⟩
          · rw [h] at hP ⊢
            rw [Int.toNat_natCast] at hP
            have hbit := bit_and (r := marks) (by omega) j
            have hbl := bitN_le marks j
            have hj0 : ¬ ((j : Int) < 0) := by omega
            have hj1 : (0 : Int) ≤ (j : Int) := by omega
            have hjd : decide (0 ≤ (j : Int)) = true := by simp
            rw [hjd, Bool.true_and] at hP
            have HPj := Lib.hid hP
            clear hP h hjd
            have hj64 : (j : Int) ≤ 64 := by omega
            generalize bitN marks j = bb at *
            have hbb : bb = 0 ∨ bb = 1 := by omega
            rcases hbb with rfl | rfl
            · have e2 := HBad.out (by rw [HPj.out]; rfl)
              subst e2
              go_wp2
              go_ret
              exact ⟨rfl, Hb.out⟩
            · have Hq := HOk.out (by rw [HPj.out]; rfl)
              go_wp2
              go_roundw
              case rel => exact ⟨p + 1, by omega, by go_num, Hb.out, Hq⟩
              case measure => simp [intOf]; omega
    · have e1 : p = 3 := by omega
      subst e1
      have e2 : b = true := by rw [← HV.out]; exact HG.out
      subst e2
      have Hb := Lib.hid hb
      clear hb
      go_wp2
      go_ret
      exact ⟨rfl, Hb.out⟩

set_option maxHeartbeats 2000000 in
theorem marked_calls (cs : List EventD) (s marks : Nat) (A : Option Addr) (cap : Nat) (w : World) (hr : RowEvents w A cs) (hl : cs.length ≤ 20) (hs : s < 2 ^ 20) (hm : marks < 2 ^ 20) (b : Bool) (hb : markB cs marks s = b) :
    Calls Try.prog 27 #[.slice A cs.length cap, .int .i64 marks, .int .i64 s] w fun e w' => e = .returned (.bool b) ∧ w = w' := by
  have HR := Lib.hid hr
  have HV := Lib.hid hb
  have HN := Lib.hid (fun p : Nat => lastK_nat cs s (p : Int) cs.length)
  clear hr hb
  generalize hn : cs.length = n at *
  have Hn := Lib.hid hn
  clear hn
  have hlen : (n : Int) ≤ 20 := by omega
  go_enter Try.func27, Try.ntmps27
  go_wp2
  go_loop [7, 8, 9] (fun i _ _ => ∃ k : Nat, k ≤ 3 ∧ i = .int .i64 k ∧ Hid ((List.range k).all (markP cs marks s) = true)) (fun i _ _ => 3 - (intOf i).toNat)
  case atStart => exact ⟨0, by omega, rfl, rfl⟩
  case round =>
    obtain ⟨p, hp, rfl, HG⟩ := hrel
    by_cases hlt : p < 3
    · have hp0 : (0 : Int) ≤ (p : Int) := by omega
      have hp3 : (p : Int) < 3 := by omega
      have HBad := Lib.hid (fun (e : markP cs marks s p = false) => show b = false by rw [← HV.out]; exact markB_row hlt e)
      have HOk := Lib.hid (fun (e : markP cs marks s p = true) => show Hid ((List.range (p + 1)).all (markP cs marks s) = true) by show _ = true; rw [all_range_succ, HG.out, e]; rfl)
      go_wp2_with fail
      go_loop [8, 9] (fun m i => ∃ k : Nat, k ≤ n ∧ i = .int .i64 k ∧ m = .int .i64 (lastK cs s p k)) (fun _ i => n - (intOf i).toNat)
      case atStart => exact ⟨0, by omega, rfl, rfl⟩
      case round =>
        obtain ⟨k, hk, rfl, rfl⟩ := hrel
        by_cases hkl : k < n
        · obtain ⟨b0, off, rfl, hat⟩ := HR.out (by have := Hn.out; omega)
          obtain ⟨c, hc⟩ : ∃ c, cs[k]? = some c := ⟨cs[k]'(by have := Hn.out; omega), List.getElem?_eq_getElem _⟩
          obtain ⟨x0, x1, x2⟩ := RowEvents.at_ hat hc
          have hst : lastK cs s p (k + 1) = if c.proc == p && bitN s k == 1 then (k : Int) else lastK cs s p k := by rw [lastK, evAt_eq hc]
          have HBC := Lib.hid (fun (W : World) => bit_calls s k (by omega) (by omega) W)
          have hbl := bitN_le s k
          have Hst := Lib.hid hst
          clear hat hc hst
          generalize lastK cs s p k = m at *
          generalize bitN s k = bb at *
          have hk0 : (0 : Int) ≤ (k : Int) := by omega
          have hkn : (k : Int) < (n : Int) := by omega
          have hbb : bb = 0 ∨ bb = 1 := by omega
          rcases hbb with rfl | rfl
          · go_wp2_with (go_at_call 45; refine (HBC.out _).mono ?_; rintro e w' ⟨rfl, rfl⟩)
            go_round
            case rel => exact ⟨k + 1, by omega, by go_num, by rw [Hst.out]; simp⟩
            case measure => simp [intOf]; omega
          · cases hpe : (c.proc == (p : Int))
            · go_wp2_with (go_at_call 45; refine (HBC.out _).mono ?_; rintro e w' ⟨rfl, rfl⟩)
              go_round
              case rel => exact ⟨k + 1, by omega, by go_num, by rw [Hst.out, hpe]; rfl⟩
              case measure => simp [intOf]; omega
            · go_wp2_with (go_at_call 45; refine (HBC.out _).mono ?_; rintro e w' ⟨rfl, rfl⟩)
              go_round
              case rel => exact ⟨k + 1, by omega, by go_num, by rw [Hst.out, hpe]; rfl⟩
              case measure => simp [intOf]; omega
        · have e1 : k = n := by omega
          subst e1
          have hge : ¬ ((k : Int) < (k : Int)) := by omega
          have hP := markP_eq marks s p Hn.out
          rcases HN.out p with h | ⟨j, h, hj⟩
          · rw [h] at hP ⊢
            have e2 := HBad.out (by rw [hP]; rfl)
            subst e2
            clear hP h
            go_wp2
            go_ret
            exact ⟨rfl, rfl⟩
          · rw [h] at hP ⊢
            rw [Int.toNat_natCast] at hP
            have HBC := Lib.hid (fun (W : World) => bit_calls marks j (by omega) (by omega) W)
            have hbl := bitN_le marks j
            have hj0 : ¬ ((j : Int) < 0) := by omega
            have hjd : decide (0 ≤ (j : Int)) = true := by simp
            rw [hjd, Bool.true_and] at hP
            have HPj := Lib.hid hP
            clear hP h hjd
            generalize bitN marks j = bb at *
            have hbb : bb = 0 ∨ bb = 1 := by omega
            rcases hbb with rfl | rfl
            · have e2 := HBad.out (by rw [HPj.out]; rfl)
              subst e2
              go_wp2_with (go_at_call 45; refine (HBC.out _).mono ?_; rintro e w' ⟨rfl, rfl⟩)
              go_ret
              exact ⟨rfl, rfl⟩
            · have Hq := HOk.out (by rw [HPj.out]; rfl)
              go_wp2_with (go_at_call 45; refine (HBC.out _).mono ?_; rintro e w' ⟨rfl, rfl⟩)
              go_round
              case rel => exact ⟨p + 1, by omega, by go_num, Hq⟩
              case measure => simp [intOf]; omega
    · have e1 : p = 3 := by omega
      subst e1
      have e2 : b = true := by rw [← HV.out]; exact HG.out
      subst e2
      go_wp2
      go_ret
      exact ⟨rfl, rfl⟩
end Go.Proofs.Ytmeehfiekhdbkaa
