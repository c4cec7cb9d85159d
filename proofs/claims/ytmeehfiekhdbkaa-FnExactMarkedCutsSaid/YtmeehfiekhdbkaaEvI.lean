/-
  Where an event of a kind and a message lies first, as the program finds it: through the library's loop over a function value. No condition but lengths.
-/
import Derived.Test.YtmeehfiekhdbkaaEventS
import Derived.Test.YtmeehfiekhdbkaaEvP
import Derived.BigGuardPart
namespace Go.Proofs.Ytmeehfiekhdbkaa
open Go.RowKit
set_option maxRecDepth 100000

theorem is_calls (c : EventD) (g1 g2 : Nat) (kind msg : Int) (b : Bool) (hb : evIs kind msg c = b) (w : World) (h1 : w.cell? ⟨g1, 0, none⟩ = some (.int .i64 kind)) (h2 : w.cell? ⟨g2, 0, none⟩ = some (.int .i64 msg)) :
    Calls Try.prog 55 #[c.val, .pointer (some ⟨g1, 0, none⟩), .pointer (some ⟨g2, 0, none⟩)] w fun e w' => e = .returned (.bool b) ∧ Below w.heap.size w w' := by
  have l1 : g1 < w.heap.size := World.block_lt_of_cell? _ _ h1
  have l2 : g2 < w.heap.size := World.block_lt_of_cell? _ _ h2
  have H := Lib.hid hb
  clear hb
  cases q1 : c.kind == kind
  all_goals
    cases q2 : c.msg == msg
    all_goals
      go_enter Try.func55, Try.ntmps55
      go_wp2
      go_ret
      refine ⟨?_, (by repeat (first | exact Below.refl _ _ | assumption | refine below_alloc ?_ _ | refine below_trans' ?_ (by assumption) | refine Below.drew ?_))⟩
      rw [← H.out]
      simp [evIs, q1, q2]

set_option maxHeartbeats 1000000 in
theorem index_calls (cs : List EventD) (n : Nat) (A : Option Addr) (cap : Nat) (g1 g2 : Nat) (kind msg : Int) (w : World) (hr : RowEvents w A cs) (hn : n ≤ cs.length) (hl : cs.length ≤ 1048576) (h1 : w.cell? ⟨g1, 0, none⟩ = some (.int .i64 kind)) (h2 : w.cell? ⟨g2, 0, none⟩ = some (.int .i64 msg)) (r : Int) (hp : evPlace cs n kind msg = r) :
    Calls Try.prog 54 #[.slice A n cap, .func (.func 55) #[] #[.pointer (some ⟨g1, 0, none⟩), .pointer (some ⟨g2, 0, none⟩)]] w fun e w' => e = .returned (.int .i64 r) ∧ Below w.heap.size w w' := by
  have HR := Lib.hid hr
  have HP := Lib.hid hp
  have H1 := Lib.hid h1
  have H2 := Lib.hid h2
  clear hr hp h1 h2
  have hlen : (n : Int) ≤ 1048576 := by omega
  go_enter Try.func54, Try.ntmps54
  go_wp2
  go_loopw [8] (fun i wr => ∃ k : Nat, k ≤ n ∧ i = .int .i64 k ∧ Below w.heap.size w wr ∧ Hid (∀ j, j < k → evIs kind msg (evAt cs j) = false)) (fun i _ => n - (intOf i).toNat)
  case atStart => exact ⟨0, by omega, rfl, Below.refl _ _, fun j hj => by omega⟩
  case round =>
    obtain ⟨i, hi, rfl, hb, HG⟩ := hrel
    by_cases hlt : i < n
    · obtain ⟨b0, off, rfl, hat⟩ := HR.out (by omega)
      obtain ⟨c, hc⟩ : ∃ c, cs[i]? = some c := ⟨cs[i]'(by omega), List.getElem?_eq_getElem _⟩
      obtain ⟨x0, x1, x2⟩ := (RowEvents.at_ hat hc).below hb
      have Hc := Lib.hid (evAt_eq hc)
      have Hb := Lib.hid hb
      clear HR hat hc hb
      have hi0 : (0 : Int) ≤ (i : Int) := by omega
      have hin : (i : Int) < (n : Int) := by omega
      cases hq : evIs kind msg c
      · have Hq := Lib.hid hq
        clear hq
        go_wp2_with (go_at_call 55; refine (is_calls c g1 g2 kind msg _ Hq.out _ (cell_below Hb.out H1.out) (cell_below Hb.out H2.out)).mono ?_; rintro e w1 ⟨rfl, hb1⟩)
        go_roundw
        case rel =>
          have hb := Hb.out
          refine ⟨i + 1, by omega, by go_num, (by repeat (first | exact Below.refl _ _ | assumption | refine below_alloc ?_ _ | refine below_trans' ?_ (by assumption) | refine Below.drew ?_)), ?_⟩
          intro j hj
          by_cases hji : j = i
          · subst hji; rw [Hc.out]; exact Hq.out
          · exact HG.out j (by omega)
        case measure => simp [intOf]; omega
      · have Hq := Lib.hid hq
        clear hq
        have er : r = i := by rw [← HP.out]; exact evPlace_some hlt (by rw [Hc.out]; exact Hq.out) HG.out
        subst er
        go_wp2_with (go_at_call 55; refine (is_calls c g1 g2 kind msg _ Hq.out _ (cell_below Hb.out H1.out) (cell_below Hb.out H2.out)).mono ?_; rintro e w1 ⟨rfl, hb1⟩)
        go_ret
        have hb := Hb.out
        exact ⟨rfl, (by repeat (first | exact Below.refl _ _ | assumption | refine below_alloc ?_ _ | refine below_trans' ?_ (by assumption) | refine Below.drew ?_))⟩
    · have hge : ¬ ((i : Int) < (n : Int)) := by omega
      have e1 : i = n := by omega
      subst e1
      have er : r = -1 := by rw [← HP.out]; exact evPlace_none HG.out
      subst er
      go_wp2
      go_ret
      exact ⟨rfl, hb⟩

theorem place_calls (cs : List EventD) (n : Nat) (A : Option Addr) (cap : Nat) (kind msg : Int) (w : World) (hr : RowEvents w A cs) (hn : n ≤ cs.length) (hl : cs.length ≤ 1048576) (r : Int) (hp : evPlace cs n kind msg = r) :
    Calls Try.prog 49 #[.slice A n cap, .int .i64 kind, .int .i64 msg] w fun e w' => e = .returned (.int .i64 r) ∧ Below w.heap.size w w' := by
  have HR := Lib.hid hr
  have HP := Lib.hid hp
  clear hr hp
  go_enter Try.func49, Try.ntmps49
  go_wp2_with (go_at_call 54; refine (index_calls cs n A cap _ _ kind msg _ (HR.out.below (by repeat (first | exact Below.refl _ _ | assumption | refine below_alloc ?_ _ | refine below_trans' ?_ (by assumption) | refine Below.drew ?_))) hn hl (by simp) (by simp) _ HP.out).mono ?_; rintro e w1 ⟨rfl, hb1⟩)
  go_ret
  exact ⟨rfl, (by repeat (first | exact Below.refl _ _ | assumption | refine below_alloc ?_ _ | refine below_trans' ?_ (by assumption) | refine Below.drew ?_))⟩
end Go.Proofs.Ytmeehfiekhdbkaa
