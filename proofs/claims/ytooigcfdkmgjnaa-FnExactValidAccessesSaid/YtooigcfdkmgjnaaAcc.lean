/-
  What the program and the reference answer on whether accesses are valid: the same Lean function. No condition but lengths of at most 2 to the 20.
-/
import Derived.Test.YtooigcfdkmgjnaaAccessS
import Derived.Test.YtooigcfdkmgjnaaAccP
import Derived.BigGuardPart
namespace Go.Proofs.Ytooigcfdkmgjnaa
open Go.RowKit
set_option maxRecDepth 100000

theorem acc_ways (s w z b : Bool) : s = false ∨ (s = true ∧ w = false ∧ b = false) ∨ (s = true ∧ w = false ∧ b = true) ∨ (s = true ∧ w = true ∧ z = true) ∨ (s = true ∧ w = true ∧ z = false ∧ b = false) ∨ (s = true ∧ w = true ∧ z = false ∧ b = true) := by
  cases s <;> cases w <;> cases z <;> cases b <;> simp
set_option maxHeartbeats 2000000 in
theorem implValidAccesses_calls (cs : List AccessD) (A : Option Addr) (cap : Nat) (w : World) (hr : RowAccesss w A cs) (_hl : cs.length ≤ 1048576) (_hcap : cs.length ≤ cap) (b : Bool) (hb : accB cs = b) :
    Calls Try.prog 16 #[.slice A cs.length cap] w fun e w' => e = .returned (.bool b) ∧ Below w.heap.size w w' := by
  have HR := Lib.hid hr
  have HV := Lib.hid hb
  clear hr hb
  generalize hn : cs.length = n at *
  have Hn := Lib.hid hn
  clear hn
  have hlen : (n : Int) ≤ 1048576 := by omega
  by_cases h10 : 10 < n
  · have e1 : b = false := by rw [← HV.out]; exact accB_long (by rw [Hn.out]; exact h10)
    subst e1
    have h10' : (10 : Int) < (n : Int) := by omega
    go_enter Try.func16, Try.ntmps16
    go_wp2
    go_ret
    exact ⟨rfl, Below.refl _ _⟩
  have h10' : (n : Int) ≤ 10 := by omega
  go_enter Try.func16, Try.ntmps16
  go_wp2
  go_loopw [3, 11] (fun m i wr => ∃ k : Nat, k ≤ n ∧ i = .int .i64 k ∧ m = .int .i64 (wrN cs k) ∧ Below w.heap.size w wr ∧ Hid ((List.range k).all (accRow cs) = true)) (fun _ i _ => n - (intOf i).toNat)
  case atStart => exact ⟨0, by omega, rfl, rfl, Below.refl _ _, rfl⟩
  case round =>
    obtain ⟨i, hi, rfl, rfl, hb, HG⟩ := hrel
    by_cases hlt : i < n
    · obtain ⟨b0, off, rfl, hat⟩ := HR.out (by have := Hn.out; omega)
      obtain ⟨c, hc⟩ : ∃ c, cs[i]? = some c := ⟨cs[i]'(by have := Hn.out; omega), List.getElem?_eq_getElem _⟩
      obtain ⟨x0, x1, x2⟩ := (RowAccesss.at_ hat hc).below hb
      have hws := wrN_succ hc
      have hwl := wrN_le cs i
      have hrow : accRow cs i = okAcc (wrN cs i) c := by rw [accRow, aAt_eq hc]
      generalize wrN cs i = m at *
      have Hws := Lib.hid hws
      have Hrow := Lib.hid hrow
      have Hb := Lib.hid hb
      clear HR hat hc hb hws hrow
      have hi0 : (0 : Int) ≤ (i : Int) := by omega
      have hin : (i : Int) < (n : Int) := by omega
      have hm0 : (0 : Int) ≤ (m : Int) := by omega
      have hm1 : (m : Int) ≤ 10 := by omega
      have hfalse : okAcc m c = false → b = false := fun h => by rw [← HV.out]; exact accB_row (i := i) (by rw [Hn.out]; exact hlt) (by rw [Hrow.out]; exact h)
      have HF := Lib.hid hfalse
      clear hfalse
      have hsh := shift_less (m := m) (by omega)
      have htrue : okAcc m c = true → (List.range (i + 1)).all (accRow cs) = true := fun h => by rw [all_range_succ, HG.out, Hrow.out, h]; rfl
      have HT := Lib.hid htrue
      clear htrue HG
      rcases acc_ways (inB c.session 0 2) c.write (c.seen != 0) (inB c.seen 0 (2 ^ m - 1)) with q1 | ⟨q1, q2, q3⟩ | ⟨q1, q2, q3⟩ | ⟨q1, q2, q3⟩ | ⟨q1, q2, q3, q4⟩ | ⟨q1, q2, q3, q4⟩
      all_goals
        go_wp2_with (go_at_call 41; refine (within_calls _ _ _ _).mono ?_; rintro e w' ⟨rfl, rfl⟩)
        first
          | (go_ret
             have e1 := HF.out (by simp [okAcc, *])
             rw [e1]
             have hb := Hb.out
             exact ⟨rfl, (by repeat (first | exact Below.refl _ _ | assumption | refine below_alloc ?_ _ | refine below_trans' ?_ (by assumption) | refine Below.drew ?_))⟩)
          | (have hb := Hb.out
             exact ⟨⟨i + 1, by omega, by go_num, by rw [Hws.out]; simp [q2]; try omega, (by repeat (first | exact Below.refl _ _ | assumption | refine below_alloc ?_ _ | refine below_trans' ?_ (by assumption) | refine Below.drew ?_)), HT.out (by simp [okAcc, *])⟩, by simp [intOf]; omega⟩)
          | (go_roundw
             case rel =>
               have hb := Hb.out
               exact ⟨i + 1, by omega, by go_num, by rw [Hws.out]; simp [q2]; try omega, (by repeat (first | exact Below.refl _ _ | assumption | refine below_alloc ?_ _ | refine below_trans' ?_ (by assumption) | refine Below.drew ?_)), HT.out (by simp [okAcc, *])⟩
             case measure => simp [intOf]; omega)
    · have hge : ¬ ((i : Int) < (n : Int)) := by omega
      have e1 : i = n := by omega
      subst e1
      have e1 : b = true := by rw [← HV.out]; exact accB_true (by rw [Hn.out]; omega) (by rw [Hn.out]; exact HG.out)
      subst e1
      go_wp2
      go_ret
      exact ⟨rfl, hb⟩

theorem acc_ways2 (s b w z : Bool) : s = false ∨ (s = true ∧ b = false) ∨ (s = true ∧ b = true ∧ w = false) ∨ (s = true ∧ b = true ∧ w = true ∧ z = true) ∨ (s = true ∧ b = true ∧ w = true ∧ z = false) := by
  cases s <;> cases b <;> cases w <;> cases z <;> simp

set_option maxHeartbeats 2000000 in
theorem specValid_calls (cs : List AccessD) (A : Option Addr) (cap : Nat) (w : World) (hr : RowAccesss w A cs) (_hl : cs.length ≤ 1048576) (b : Bool) (hb : accB cs = b) :
    Calls Try.prog 39 #[.slice A cs.length cap] w fun e w' => e = .returned (.bool b) ∧ Below w.heap.size w w' := by
  have HR := Lib.hid hr
  have HV := Lib.hid hb
  clear hr hb
  generalize hn : cs.length = n at *
  have Hn := Lib.hid hn
  clear hn
  have hlen : (n : Int) ≤ 1048576 := by omega
  go_enter Try.func39, Try.ntmps39
  go_wp2
  go_loopw [3, 4] (fun m i wr => ∃ k : Nat, k ≤ n ∧ i = .int .i64 k ∧ m = .int .i64 (wrN cs k) ∧ Below w.heap.size w wr ∧ Hid (n ≤ 10 → (List.range k).all (accRow cs) = true)) (fun _ i _ => n - (intOf i).toNat)
  case atStart => exact ⟨0, by omega, rfl, rfl, Below.refl _ _, fun _ => rfl⟩
  case round =>
    obtain ⟨i, hi, rfl, rfl, hb, HG⟩ := hrel
    by_cases hlt : i < n
    · obtain ⟨b0, off, rfl, hat⟩ := HR.out (by have := Hn.out; omega)
      obtain ⟨c, hc⟩ : ∃ c, cs[i]? = some c := ⟨cs[i]'(by have := Hn.out; omega), List.getElem?_eq_getElem _⟩
      obtain ⟨x0, x1, x2⟩ := (RowAccesss.at_ hat hc).below hb
      have hbz : b0 < wr.heap.size := World.block_lt_of_cell? _ _ x0
      have hws := wrN_succ hc
      have hwl := wrN_le cs i
      have hrow : accRow cs i = okAcc (wrN cs i) c := by rw [accRow, aAt_eq hc]
      generalize wrN cs i = m at *
      have Hws := Lib.hid hws
      have Hrow := Lib.hid hrow
      have Hb := Lib.hid hb
      have Hp : Hid (n ≤ 10 → wrap64 (pw m - 1) = 2 ^ m - 1) := fun h => by
        have h1 := pw_eq m (by omega)
        have h2 := shift_less (m := m) (by omega)
        have h3 : wrap64 ((2 : Int) ^ m) = 2 ^ m := by
          have h4 : (2 : Int) ^ m ≤ 2 ^ 61 := two_le (by omega)
          have h5 := two_pos m
          have e : (2 : Int) ^ 61 = 2305843009213693952 := by decide
          rw [e] at h4
          exact IntWalk.wrap64_in _ ⟨by omega, by omega⟩
        rw [h1]
        rwa [h3] at h2
      have HPW := Lib.hid (fun (W : World) => power_calls m W (by omega))
      generalize pw m = p at *
      clear HR hat hc hb hws hrow
      have hi0 : (0 : Int) ≤ (i : Int) := by omega
      have hin : (i : Int) < (n : Int) := by omega
      have hm0 : (0 : Int) ≤ (m : Int) := by omega
      have hm1 : (m : Int) ≤ 1048576 := by omega
      have hok : n ≤ 10 → okAcc m c = (inB c.session 0 2 && inB c.seen 0 (wrap64 (p - 1)) && !(c.write && c.seen != 0)) := fun h => by
        rw [Hp.out h]
        simp only [okAcc]
        cases inB c.session 0 2 <;> cases inB c.seen 0 (2 ^ m - 1) <;> cases c.write <;> cases c.seen != 0 <;> rfl
      have hfalse : (inB c.session 0 2 && inB c.seen 0 (wrap64 (p - 1)) && !(c.write && c.seen != 0)) = false → b = false := fun h => by
        by_cases h10 : n ≤ 10
        · rw [← HV.out]; exact accB_row (i := i) (by rw [Hn.out]; exact hlt) (by rw [Hrow.out, hok h10]; exact h)
        · rw [← HV.out]; exact accB_long (by rw [Hn.out]; omega)
      have HF := Lib.hid hfalse
      have htrue : (inB c.session 0 2 && inB c.seen 0 (wrap64 (p - 1)) && !(c.write && c.seen != 0)) = true → (n ≤ 10 → (List.range (i + 1)).all (accRow cs) = true) := fun h h10 => by rw [all_range_succ, HG.out h10, Hrow.out, hok h10, h]; rfl
      have HT := Lib.hid htrue
      clear hok
      clear hfalse htrue HG
      rcases acc_ways2 (inB c.session 0 2) (inB c.seen 0 (wrap64 (p - 1))) c.write (c.seen != 0) with q1 | ⟨q1, q2⟩ | ⟨q1, q2, q3⟩ | ⟨q1, q2, q3, q4⟩ | ⟨q1, q2, q3, q4⟩
      all_goals
        go_wp2_with fail
        refine wp_region_grow (by kernel_rfl) (by kernel_rfl) ?_
        repeat (go_big_quiet_step ((first | (go_at_call 57; exact Calls.ext_same (inRange_calls _ _ _ _)) | (go_at_call 58; exact Calls.ext_same (HPW.out _)))))
        refine wpQuiet_end ?_
        intro w3 hb3
        obtain ⟨hc3, _⟩ := bcell hb3
        go_wp2_with fail
        first
          | (go_ret
             have e1 := HF.out (by simp [*])
             rw [e1]
             have hb := Hb.out
             exact ⟨rfl, (by repeat (first | exact Below.refl _ _ | assumption | refine below_alloc ?_ _ | refine below_trans' ?_ (by assumption) | refine Below.drew ?_))⟩)
          | (have hb := Hb.out
             exact ⟨⟨i + 1, by omega, by go_num, by rw [Hws.out]; simp [q3]; try omega, (by repeat (first | exact Below.refl _ _ | assumption | refine below_alloc ?_ _ | refine below_trans' ?_ (by assumption) | refine Below.drew ?_)), HT.out (by simp [*])⟩, by simp [intOf]; omega⟩)
          | (go_roundw
             case rel =>
               have hb := Hb.out
               exact ⟨i + 1, by omega, by go_num, by rw [Hws.out]; simp [q3]; try omega, (by repeat (first | exact Below.refl _ _ | assumption | refine below_alloc ?_ _ | refine below_trans' ?_ (by assumption) | refine Below.drew ?_)), HT.out (by simp [*])⟩
             case measure => simp [intOf]; omega)
    · have hge : ¬ ((i : Int) < (n : Int)) := by omega
      have e1 : i = n := by omega
      subst e1
      by_cases h10 : i ≤ 10
      · have e1 : b = true := by rw [← HV.out]; exact accB_true (by rw [Hn.out]; omega) (by rw [Hn.out]; exact HG.out h10)
        subst e1
        have h10' : (i : Int) ≤ 10 := by omega
        go_wp2
        go_ret
        exact ⟨rfl, hb⟩
      · have e1 : b = false := by rw [← HV.out]; exact accB_long (by rw [Hn.out]; omega)
        subst e1
        have h10' : ¬ ((i : Int) ≤ 10) := by omega
        go_wp2
        go_ret
        exact ⟨rfl, hb⟩

theorem specValidAccesses_calls (cs : List AccessD) (A : Option Addr) (cap : Nat) (w : World) (hr : RowAccesss w A cs) (hl : cs.length ≤ 1048576) (b : Bool) (hb : accB cs = b) :
    Calls Try.prog 14 #[.slice A cs.length cap] w fun e w' => e = .returned (.bool b) ∧ Below w.heap.size w w' := by
  have HV := Lib.hid hb
  clear hb
  go_enter Try.func14, Try.ntmps14
  go_wp2_with (go_at_call 39; refine (specValid_calls cs A cap _ hr hl b HV.out).mono ?_; rintro e w1 ⟨rfl, hb1⟩)
  go_ret
  exact ⟨rfl, hb1⟩
end Go.Proofs.Ytooigcfdkmgjnaa
