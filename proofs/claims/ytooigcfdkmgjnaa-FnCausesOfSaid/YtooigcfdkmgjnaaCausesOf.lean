/-
  What CausesOf answers, of the program and of the reference, in memory of its own. No condition but lengths of at most 2 to the 20.
-/
import Derived.Test.YtooigcfdkmgjnaaAddS
import Derived.Test.YtooigcfdkmgjnaaCau
import Derived.Test.YtooigcfdkmgjnaaAcc
namespace Go.Proofs.Ytooigcfdkmgjnaa
open Go.RowKit
set_option maxRecDepth 100000

def causesOfL (cs : List AccessD) : List Int := if accB cs then cauI cs cs.length else []
theorem causesOfL_len (cs : List AccessD) : (causesOfL cs).length ≤ 1048576 := by
  unfold causesOfL
  split
  · next h => have := accB_len h; rw [cauI_len (Nat.le_refl _)]; have := wrN_le cs cs.length; omega
  · simp

set_option maxHeartbeats 2000000 in
theorem implCausesOf_calls (cs : List AccessD) (A : Option Addr) (cap : Nat) (w : World) (hr : RowAccesss w A cs) (hl : cs.length ≤ 1048576) (hcap : cs.length ≤ cap) :
    Calls Try.prog 22 #[.slice A cs.length cap] w fun e w' => ∃ v, e = .returned v ∧ OwnInts w' w.heap.size v (causesOfL cs) ∧ Below w.heap.size w w' := by
  have HR := Lib.hid hr
  clear hr
  cases hv : accB cs
  · have E1 := Lib.hid (show causesOfL cs = [] by simp [causesOfL, hv])
    have HV := Lib.hid hv
    clear hv
    go_enter Try.func22, Try.ntmps22
    go_wp2_with (go_at_call 16; refine (implValidAccesses_calls cs A cap _ HR.out hl hcap false HV.out).mono ?_; rintro e w1 ⟨rfl, hb1⟩)
    go_ret
    exact ⟨_, rfl, by unfold OwnInts; rw [E1.out]; exact World.ownsRow_nil _ _ _ _, hb1⟩
  · have E1 := Lib.hid (show causesOfL cs = cauI cs cs.length by simp [causesOfL, hv])
    have HV := Lib.hid hv
    have h6 := accB_len hv
    have HA := Lib.hid (add_step cs hv w.heap.size)
    have HLN := Lib.hid (cauN_len cs cs.length (Nat.le_refl _))
    have HLC := Lib.hid (cauI_len (cs := cs) (Nat.le_refl cs.length))
    clear hv
    go_enter Try.func22, Try.ntmps22
    go_wp2_with (go_at_call 16; refine (implValidAccesses_calls cs A cap _ HR.out hl hcap true HV.out).mono ?_; rintro e w1 ⟨rfl, hb1⟩)
    have hs0 := sess_start w1 w.heap.size hb1.size cs
    have hbs : Below w.heap.size w (w1.alloc (.cells #[.int .i64 0, .int .i64 0, .int .i64 0, .int .i64 0, .int .i64 0, .int .i64 0, .slice none 0 0, .slice none 0 0, .slice none 0 0] 57)) := below_alloc hb1 _
    generalize hn : cs.length = n at *
    have Hn := Lib.hid hn
    clear hn
    have hlen : (n : Int) ≤ 10 := by omega
    go_loopw [12] (fun i wr => ∃ k : Nat, k ≤ n ∧ i = .int .i64 k ∧ SessAt wr w.heap.size w1.heap.size cs k ∧ Below w.heap.size w wr) (fun i _ => n - (intOf i).toNat)
    case atStart => exact ⟨0, by omega, rfl, hs0, hbs⟩
    case round =>
      clear hs0 hbs
      obtain ⟨i, hi, rfl, hk, hb⟩ := hrel
      by_cases hlt : i < n
      · obtain ⟨b0, off, rfl, hat⟩ := HR.out (by have := Hn.out; omega)
        obtain ⟨c, hc⟩ : ∃ c, cs[i]? = some c := ⟨cs[i]'(by have := Hn.out; omega), List.getElem?_eq_getElem _⟩
        obtain ⟨x0, x1, x2⟩ := (RowAccesss.at_ hat hc).below hb
        have Hk := Lib.hid hk
        have Hb := Lib.hid hb
        have Hc := Lib.hid hc
        clear hat hc hk hb
        have hi0 : (0 : Int) ≤ (i : Int) := by omega
        have hin : (i : Int) < (n : Int) := by omega
        go_wp2_with fail
        refine (HA.out w1.heap.size i c Hc.out _ (Hk.out.below (below_alloc (Below.refl _ _) _))).mono ?_
        intro e w2 hd
        unfold AddStep at hd
        obtain ⟨rfl, hk2, hb2⟩ := hd
        go_wp2_with fail
        go_roundw
        case rel => exact ⟨i + 1, by omega, by go_num, hk2, (below_alloc Hb.out _).trans hb2⟩
        case measure => simp [intOf]; omega
      · have e1 : i = n := by omega
        subst e1
        have hge : ¬ ((i : Int) < (i : Int)) := by omega
        obtain ⟨Ar, cr, Af, cf, Ac, cc, _, _, _, _, c8, _, _, _, own, _⟩ := hk.cells
        have Own := Lib.hid own
        have Hb := Lib.hid hb
        clear hk own hb
        go_wp2
        go_ret
        refine ⟨_, rfl, ?_, Hb.out⟩
        rw [E1.out]
        exact Own.out

theorem specCausesOf_calls (cs : List AccessD) (A : Option Addr) (cap : Nat) (w : World) (hr : RowAccesss w A cs) (hl : cs.length ≤ 1048576) :
    Calls Try.prog 21 #[.slice A cs.length cap] w fun e w' => ∃ v, e = .returned v ∧ OwnInts w' w.heap.size v (causesOfL cs) ∧ Below w.heap.size w w' := by
  have HR := Lib.hid hr
  clear hr
  cases hv : accB cs
  · have E1 := Lib.hid (show causesOfL cs = [] by simp [causesOfL, hv])
    have HV := Lib.hid hv
    clear hv
    go_enter Try.func21, Try.ntmps21
    go_wp2_with (go_at_call 39; refine (specValid_calls cs A cap _ HR.out hl false HV.out).mono ?_; rintro e w1 ⟨rfl, hb1⟩)
    go_ret
    exact ⟨_, rfl, by unfold OwnInts; rw [E1.out]; exact World.ownsRow_nil _ _ _ _, hb1⟩
  · have E1 := Lib.hid (show causesOfL cs = cauI cs cs.length by simp [causesOfL, hv])
    have HV := Lib.hid hv
    go_enter Try.func21, Try.ntmps21
    go_wp2_with (go_at_call 39; refine (specValid_calls cs A cap _ HR.out hl true HV.out).mono ?_; rintro e w1 ⟨rfl, hb1⟩)
    refine (speccauses_calls cs A cap _ (HR.out.below hb1) HV.out).mono ?_
    rintro e w2 ⟨v, rfl, ho, hb2⟩
    go_wp2_with fail
    go_ret
    exact ⟨v, rfl, by unfold OwnInts at ho ⊢; rw [E1.out]; exact own_base ho hb1.size, (by repeat (first | exact Below.refl _ _ | assumption | refine below_alloc ?_ _ | refine below_trans' ?_ (by assumption) | refine Below.drew ?_))⟩
end Go.Proofs.Ytooigcfdkmgjnaa
