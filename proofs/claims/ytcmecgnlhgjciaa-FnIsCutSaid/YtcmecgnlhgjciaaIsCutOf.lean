/-
  What IsCut answers, of the program and of the reference: the same Lean function. No condition but lengths of at most 2 to the 20.
-/
import Derived.Test.YtcmecgnlhgjciaaCut
namespace Go.Proofs.Ytcmecgnlhgjciaa
open Go.RowKit
set_option maxRecDepth 100000

theorem implIsCut_calls (cs : List EventD) (A : Option Addr) (cap : Nat) (x : Int) (w : World) (hr : RowEvents w A cs) (hl : cs.length ≤ 1048576) (hcap : cs.length ≤ cap) (b : Bool) (hb : isCutB cs x = b) :
    Calls Try.prog 34 #[.slice A cs.length cap, .int .i64 x] w fun e w' => e = .returned (.bool b) ∧ Below w.heap.size w w' := by
  have HR := Lib.hid hr
  clear hr
  cases hv : (evB cs && inB x 0 (2 ^ cs.length - 1))
  · have HV := Lib.hid hv
    have e1 : b = false := by rw [← hb, isCutB, ← Bool.and_assoc, hv]; rfl
    subst e1
    clear hv hb
    go_enter Try.func34, Try.ntmps34
    go_wp2_with (go_at_call 60; refine (isSet_calls cs x A cap _ HR.out hl hcap false HV.out).mono ?_; rintro e w1 ⟨rfl, hb1⟩)
    go_ret
    exact ⟨rfl, hb1⟩
  · have HV := Lib.hid hv
    have hb' : cutB cs cs.length x.toNat = b := by rw [← hb, isCutB, ← Bool.and_assoc, hv]; rfl
    simp only [Bool.and_eq_true] at hv
    have h7 := evB_len hv.1
    obtain ⟨s, rfl, hs⟩ := inB_two hv.2
    rw [Int.toNat_natCast] at hb'
    have Hb' := Lib.hid hb'
    have Hs := Lib.hid hs
    clear hv hb hb' hs
    go_enter Try.func34, Try.ntmps34
    go_wp2_with (go_at_call 60; refine (isSet_calls cs s A cap _ HR.out hl hcap true HV.out).mono ?_; rintro e w1 ⟨rfl, hb1⟩)
    refine (implpast_calls cs A cap _ (HR.out.below hb1) (by omega) hcap).mono ?_
    rintro e w2 ⟨vr, rfl, hor, hb2⟩
    unfold OwnInts at hor
    rw [show (pastL cs).length = cs.length from pastI_len _ _] at hor
    obtain ⟨Ar, cr, rfl, hrc, hrm, _⟩ := own_form hor
    have hrow : RowInts w2 Ar (pastI cs cs.length) := RowOf.of_own (pastI_len cs _).symm (fun _ _ => rfl) hor
    have Hrow := Lib.hid hrow
    clear hrow hor
    go_wp2_with (go_at_call 61; refine (implisCut_calls cs cs.length s Ar cr _ Hrow.out (by omega) Hs.out b Hb'.out).mono ?_; rintro e w3 ⟨rfl, rfl⟩)
    go_ret
    exact ⟨rfl, (by repeat (first | exact Below.refl _ _ | assumption | refine below_alloc ?_ _ | refine below_trans' ?_ (by assumption) | refine Below.drew ?_))⟩

theorem specIsCut_calls (cs : List EventD) (A : Option Addr) (cap : Nat) (x : Int) (w : World) (hr : RowEvents w A cs) (hl : cs.length ≤ 1048576) (b : Bool) (hb : isCutB cs x = b) :
    Calls Try.prog 33 #[.slice A cs.length cap, .int .i64 x] w fun e w' => e = .returned (.bool b) ∧ Below w.heap.size w w' := by
  have HR := Lib.hid hr
  clear hr
  cases hv : evB cs
  · have HV := Lib.hid hv
    have e1 : b = false := by rw [← hb, isCutB, hv]; rfl
    subst e1
    clear hv hb
    go_enter Try.func33, Try.ntmps33
    go_wp2_with (go_at_call 49; refine (specValid_calls cs A cap _ HR.out hl false HV.out).mono ?_; rintro e w1 ⟨rfl, hb1⟩)
    go_ret
    exact ⟨rfl, hb1⟩
  · have HV := Lib.hid hv
    have h7 := evB_len hv
    rw [isCutB, hv, Bool.true_and] at hb
    have Hb := Lib.hid hb
    clear hv hb
    go_enter Try.func33, Try.ntmps33
    go_wp2_with (first
      | (go_at_call 49; refine (specValid_calls cs A cap _ HR.out hl true HV.out).mono ?_; rintro e w1 ⟨rfl, hb1⟩)
      | (go_at_call 59; refine (specisCut_calls cs A cap x _ (HR.out.below hb1) (by omega) b Hb.out).mono ?_; rintro e w2 ⟨rfl, hb2⟩))
    go_ret
    exact ⟨rfl, (by repeat (first | exact Below.refl _ _ | assumption | refine below_alloc ?_ _ | refine below_trans' ?_ (by assumption) | refine Below.drew ?_))⟩
end Go.Proofs.Ytcmecgnlhgjciaa
