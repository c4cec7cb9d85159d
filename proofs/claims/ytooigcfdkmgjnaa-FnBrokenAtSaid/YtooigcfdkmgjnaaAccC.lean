/-
  What the reference's helpers on valid accesses compute: the number of a write, the writes that a session has made, and has read. Asked: valid accesses where seen sets are read.
-/
import Derived.Test.YtooigcfdkmgjnaaAccessS
import Derived.Test.YtooigcfdkmgjnaaAccN
import Derived.BigGuardPart
namespace Go.Proofs.Ytooigcfdkmgjnaa
open Go.RowKit
set_option maxRecDepth 100000

set_option maxHeartbeats 1000000 in
theorem numberOf_calls (cs : List AccessD) (i : Nat) (A : Option Addr) (cap : Nat) (w : World) (hr : RowAccesss w A cs) (hl : cs.length ≤ 20) (hi : i ≤ cs.length) :
    Calls Try.prog 61 #[.slice A cs.length cap, .int .i64 i] w fun e w' => e = .returned (.int .i64 (wrN cs i)) ∧ w = w' := by
  have HR := Lib.hid hr
  clear hr
  generalize hn : cs.length = n at *
  have Hn := Lib.hid hn
  clear hn
  have hlen : (n : Int) ≤ 20 := by omega
  go_enter Try.func61, Try.ntmps61
  go_wp2
  go_loop [5, 6] (fun m j => ∃ k : Nat, k ≤ i ∧ j = .int .i64 k ∧ m = .int .i64 (wrN cs k)) (fun _ j => i - (intOf j).toNat)
  case atStart => exact ⟨0, by omega, rfl, rfl⟩
  case round =>
    obtain ⟨j, hj, rfl, rfl⟩ := hrel
    by_cases hlt : j < i
    · obtain ⟨b0, off, rfl, hat⟩ := HR.out (by have := Hn.out; omega)
      obtain ⟨c, hc⟩ : ∃ c, cs[j]? = some c := ⟨cs[j]'(by have := Hn.out; omega), List.getElem?_eq_getElem _⟩
      obtain ⟨x0, x1, x2⟩ := RowAccesss.at_ hat hc
      have hws := wrN_succ hc
      have hwl := wrN_le cs j
      generalize wrN cs j = m at *
      have Hws := Lib.hid hws
      clear HR hat hc hws
      have hj0 : (0 : Int) ≤ (j : Int) := by omega
      have hji : (j : Int) < (i : Int) := by omega
      have hjn : (j : Int) < (n : Int) := by omega
      have hm0 : (0 : Int) ≤ (m : Int) := by omega
      have hm1 : (m : Int) ≤ 20 := by omega
      cases hw : c.write
      all_goals
        go_wp2
        first
          | exact ⟨⟨j + 1, by omega, by go_num, by rw [Hws.out]; simp [hw]⟩, by simp [intOf]; omega⟩
          | (go_round
             case rel => exact ⟨j + 1, by omega, by go_num, by rw [Hws.out]; simp [hw]⟩
             case measure => simp [intOf]; omega)
    · have hge : ¬ ((j : Int) < (i : Int)) := by omega
      have e1 : j = i := by omega
      subst e1
      go_wp2
      go_ret
      exact ⟨rfl, rfl⟩

set_option maxHeartbeats 1000000 in
theorem mine_calls (cs : List AccessD) (i : Nat) (c : AccessD) (A : Option Addr) (cap : Nat) (w : World) (hr : RowAccesss w A cs) (hl : cs.length ≤ 20) (hc : cs[i]? = some c) :
    Calls Try.prog 46 #[.slice A cs.length cap, .int .i64 i] w fun e w' => e = .returned (.int .i64 (mineK cs c.session i)) ∧ Below w.heap.size w w' := by
  have hi : i < cs.length := (List.getElem?_eq_some_iff.1 hc).1
  have HR := Lib.hid hr
  have HNO := Lib.hid (fun (j : Nat) (W : World) (hW : RowAccesss W A cs) (hj : j ≤ cs.length) => numberOf_calls cs j A cap W hW hl hj)
  have HML := Lib.hid (mineK_lt cs c.session)
  clear hr
  generalize hn : cs.length = n at *
  have Hn := Lib.hid hn
  have Hc := Lib.hid hc
  clear hn hc
  have hlen : (n : Int) ≤ 20 := by omega
  have hi0 : (0 : Int) ≤ (i : Int) := by omega
  have hin : (i : Int) < (n : Int) := by omega
  go_enter Try.func46, Try.ntmps46
  go_wp2
  go_loopw [5, 6] (fun m j wr => ∃ k : Nat, k ≤ i ∧ j = .int .i64 k ∧ m = .int .i64 (mineK cs c.session k) ∧ Below w.heap.size w wr) (fun _ j _ => i - (intOf j).toNat)
  case atStart => exact ⟨0, by omega, rfl, rfl, Below.refl _ _⟩
  case round =>
    obtain ⟨j, hj, rfl, rfl, hb⟩ := hrel
    by_cases hlt : j < i
    · obtain ⟨b0, off, rfl, hat⟩ := HR.out (by have := Hn.out; omega)
      obtain ⟨o, ho⟩ : ∃ o, cs[j]? = some o := ⟨cs[j]'(by have := Hn.out; omega), List.getElem?_eq_getElem _⟩
      obtain ⟨x0, x1, x2⟩ := (RowAccesss.at_ hat Hc.out).below hb
      obtain ⟨y0, y1, y2⟩ := (RowAccesss.at_ hat ho).below hb
      have hbz : b0 < wr.heap.size := World.block_lt_of_cell? _ _ x0
      have hms : mineK cs c.session (j + 1) = if o.write && o.session == c.session then mineK cs c.session j ||| 2 ^ wrN cs j else mineK cs c.session j := by rw [mineK, aAt_eq ho]
      have hml := HML.out j (by omega)
      have hwl := wrN_le cs j
      have hp : 2 ^ wrN cs j ≤ 2 ^ 20 := Nat.pow_le_pow_right (by omega) (by omega)
      have hpw : pw (wrN cs j) = ((2 ^ wrN cs j : Nat) : Int) := by rw [pw_eq _ (by omega), two_cast]
      have HPW := Lib.hid (fun (W : World) => power_calls (wrN cs j) W (by omega))
      have hor := i64_or_nat (mineK cs c.session j) (2 ^ wrN cs j) (by omega) (by omega)
      rw [hpw] at HPW
      have HNJ := Lib.hid (HNO.out j)
      generalize mineK cs c.session j = m at *
      generalize 2 ^ wrN cs j = t at *
      generalize wrN cs j = q at *
      have Hms := Lib.hid hms
      have Hb := Lib.hid hb
      have hRw := HR.out.below hb
      have HRw := Lib.hid hRw
      clear hat ho hms hml hb hpw hp hRw
      have hj0 : (0 : Int) ≤ (j : Int) := by omega
      have hji : (j : Int) < (i : Int) := by omega
      have hjn : (j : Int) < (n : Int) := by omega
      cases q1 : o.write
      · go_wp2_with fail
        refine wp_region_grow (by kernel_rfl) (by kernel_rfl) ?_
        repeat (go_big_quiet_step (fail))
        refine wpQuiet_end ?_
        intro w3 hb3
        go_wp2_with fail
        have hb := Hb.out
        exact ⟨⟨j + 1, by omega, by go_num, by rw [Hms.out, q1]; rfl, (by repeat (first | exact Below.refl _ _ | assumption | refine below_alloc ?_ _ | refine below_trans' ?_ (by assumption) | refine Below.drew ?_))⟩, by simp [intOf]; omega⟩
      · cases q2 : o.session == c.session
        · go_wp2_with fail
          refine wp_region_grow (by kernel_rfl) (by kernel_rfl) ?_
          repeat (go_big_quiet_step (fail))
          refine wpQuiet_end ?_
          intro w3 hb3
          go_wp2_with fail
          have hb := Hb.out
          exact ⟨⟨j + 1, by omega, by go_num, by rw [Hms.out, q1, q2]; rfl, (by repeat (first | exact Below.refl _ _ | assumption | refine below_alloc ?_ _ | refine below_trans' ?_ (by assumption) | refine Below.drew ?_))⟩, by simp [intOf]; omega⟩
        · go_wp2_with fail
          refine wp_region_grow (by kernel_rfl) (by kernel_rfl) ?_
          repeat (go_big_quiet_step (fail))
          refine wpQuiet_end ?_
          intro w3 hb3
          go_wp2_with (first
            | (go_at_call 61; refine (HNJ.out _ (HRw.out.below hb3) (by omega)).mono ?_; rintro e w' ⟨rfl, rfl⟩)
            | (go_at_call 58; refine (HPW.out _).mono ?_; rintro e w' ⟨rfl, rfl⟩))
          have hb := Hb.out
          first
            | exact ⟨⟨j + 1, by omega, by go_num, by rw [Hms.out, q1, q2]; rfl, (by repeat (first | exact Below.refl _ _ | assumption | refine below_alloc ?_ _ | refine below_trans' ?_ (by assumption) | refine Below.drew ?_))⟩, by simp [intOf]; omega⟩
            | (go_roundw
               case rel => exact ⟨j + 1, by omega, by go_num, by rw [Hms.out, q1, q2]; rfl, (by repeat (first | exact Below.refl _ _ | assumption | refine below_alloc ?_ _ | refine below_trans' ?_ (by assumption) | refine Below.drew ?_))⟩
               case measure => simp [intOf]; omega)
    · have hge : ¬ ((j : Int) < (i : Int)) := by omega
      have e1 : j = i := by omega
      subst e1
      go_wp2
      go_ret
      exact ⟨rfl, hb⟩

set_option maxHeartbeats 1000000 in
theorem seen_calls (cs : List AccessD) (i : Nat) (c : AccessD) (A : Option Addr) (cap : Nat) (w : World) (hr : RowAccesss w A cs) (hv : accB cs = true) (hc : cs[i]? = some c) :
    Calls Try.prog 47 #[.slice A cs.length cap, .int .i64 i] w fun e w' => e = .returned (.int .i64 (seenK cs c.session i)) ∧ Below w.heap.size w w' := by
  have hi : i < cs.length := (List.getElem?_eq_some_iff.1 hc).1
  have HR := Lib.hid hr
  have hl := accB_len hv
  have HML := Lib.hid (seenK_lt hv c.session)
  have HS := Lib.hid (fun (k : Nat) (d : AccessD) (h : cs[k]? = some d) => acc_seen hv h)
  have HT := Lib.hid (wrN_ten hv)
  clear hr hv
  generalize hn : cs.length = n at *
  have Hn := Lib.hid hn
  have Hc := Lib.hid hc
  clear hn hc
  have hlen : (n : Int) ≤ 20 := by omega
  have hi0 : (0 : Int) ≤ (i : Int) := by omega
  have hin : (i : Int) < (n : Int) := by omega
  go_enter Try.func47, Try.ntmps47
  go_wp2
  go_loopw [5, 6] (fun m j wr => ∃ k : Nat, k ≤ i ∧ j = .int .i64 k ∧ m = .int .i64 (seenK cs c.session k) ∧ Below w.heap.size w wr) (fun _ j _ => i - (intOf j).toNat)
  case atStart => exact ⟨0, by omega, rfl, rfl, Below.refl _ _⟩
  case round =>
    obtain ⟨j, hj, rfl, rfl, hb⟩ := hrel
    by_cases hlt : j < i
    · obtain ⟨b0, off, rfl, hat⟩ := HR.out (by have := Hn.out; omega)
      obtain ⟨o, ho⟩ : ∃ o, cs[j]? = some o := ⟨cs[j]'(by have := Hn.out; omega), List.getElem?_eq_getElem _⟩
      obtain ⟨x0, x1, x2⟩ := (RowAccesss.at_ hat Hc.out).below hb
      obtain ⟨y0, y1, y2⟩ := (RowAccesss.at_ hat ho).below hb
      have hbz : b0 < wr.heap.size := World.block_lt_of_cell? _ _ x0
      obtain ⟨sn, hsn, hsl⟩ := HS.out j o ho
      have hms : seenK cs c.session (j + 1) = if !o.write && o.session == c.session then seenK cs c.session j ||| sn else seenK cs c.session j := by rw [seenK, aAt_eq ho, hsn, Int.toNat_natCast]
      have hml := HML.out j (by omega)
      have hp : 2 ^ wrN cs j ≤ 2 ^ 10 := Nat.pow_le_pow_right (by omega) (HT.out j)
      rw [hsn] at y2
      have hor := i64_or_nat (seenK cs c.session j) sn (by omega) (by omega)
      generalize seenK cs c.session j = m at *
      have Hms := Lib.hid hms
      have Hb := Lib.hid hb
      have Y2 := Lib.hid y2
      clear hat ho hms hml hb hp hsn hsl y2
      have hj0 : (0 : Int) ≤ (j : Int) := by omega
      have hji : (j : Int) < (i : Int) := by omega
      have hjn : (j : Int) < (n : Int) := by omega
      cases q1 : o.write
      · cases q2 : o.session == c.session
        · go_wp2_with fail
          refine wp_region_grow (by kernel_rfl) (by kernel_rfl) ?_
          repeat (go_big_quiet_step (fail))
          refine wpQuiet_end ?_
          intro w3 hb3
          go_wp2_with fail
          have hb := Hb.out
          exact ⟨⟨j + 1, by omega, by go_num, by rw [Hms.out, q1, q2]; rfl, (by repeat (first | exact Below.refl _ _ | assumption | refine below_alloc ?_ _ | refine below_trans' ?_ (by assumption) | refine Below.drew ?_))⟩, by simp [intOf]; omega⟩
        · go_wp2_with fail
          refine wp_region_grow (by kernel_rfl) (by kernel_rfl) ?_
          repeat (go_big_quiet_step (fail))
          refine wpQuiet_end ?_
          intro w3 hb3
          have z2 := cell_below hb3 Y2.out
          go_wp2_with fail
          have hb := Hb.out
          first
            | exact ⟨⟨j + 1, by omega, by go_num, by rw [Hms.out, q1, q2]; rfl, (by repeat (first | exact Below.refl _ _ | assumption | refine below_alloc ?_ _ | refine below_trans' ?_ (by assumption) | refine Below.drew ?_))⟩, by simp [intOf]; omega⟩
            | (go_roundw
               case rel => exact ⟨j + 1, by omega, by go_num, by rw [Hms.out, q1, q2]; rfl, (by repeat (first | exact Below.refl _ _ | assumption | refine below_alloc ?_ _ | refine below_trans' ?_ (by assumption) | refine Below.drew ?_))⟩
               case measure => simp [intOf]; omega)
      · go_wp2_with fail
        refine wp_region_grow (by kernel_rfl) (by kernel_rfl) ?_
        repeat (go_big_quiet_step (fail))
        refine wpQuiet_end ?_
        intro w3 hb3
        go_wp2_with fail
        have hb := Hb.out
        exact ⟨⟨j + 1, by omega, by go_num, by rw [Hms.out, q1]; rfl, (by repeat (first | exact Below.refl _ _ | assumption | refine below_alloc ?_ _ | refine below_trans' ?_ (by assumption) | refine Below.drew ?_))⟩, by simp [intOf]; omega⟩
    · have hge : ¬ ((j : Int) < (i : Int)) := by omega
      have e1 : j = i := by omega
      subst e1
      go_wp2
      go_ret
      exact ⟨rfl, hb⟩
end Go.Proofs.Ytooigcfdkmgjnaa
