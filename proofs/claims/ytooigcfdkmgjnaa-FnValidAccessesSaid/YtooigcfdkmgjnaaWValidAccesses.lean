/-
  The walk of the law that valid accesses are valid without the last one: it returns true. No condition.
-/
import Derived.Test.YtooigcfdkmgjnaaDrawValidAccesses
import Derived.Test.YtooigcfdkmgjnaaWExactValidAccesses
namespace Go.Proofs.Ytooigcfdkmgjnaa
open Go.RowKit
set_option maxRecDepth 100000

set_option maxHeartbeats 2000000 in
theorem walk_FnValidAccesses (bs : List Int) (A : Option Addr) (cap : Nat) (w : World) (hlc : bs.length ≤ cap) (hcm : cap ≤ maxLen) (hr : RowOf byteVals 1 w A bs) (hg : ∀ d ∈ bs, isByte d) (_hn : A = none → bs.length = 0 ∧ cap = 0) :
    Calls Try.prog 4 #[.slice A bs.length cap] w fun e w' => e = .returned (.bool true) ∧ Below w.heap.size w w' := by
  have hM := hcm
  unfold maxLen at hM
  have HD := Lib.hid (fun (W : World) (hW : RowOf byteVals 1 W A bs) => drawValidAccesses_calls bs A bs.length cap W hW hg rfl hlc hcm)
  have HR := Lib.hid hr
  clear hr hg _hn
  generalize bs.length = n at *
  by_cases hbig : 1048576 < n
  · have hI : (1048576 : Int) < (n : Int) := by omega
    go_enter Try.func4, Try.ntmps4
    go_wp2_with fail
    go_ret
    exact ⟨rfl, Below.refl _ _⟩
  have hI : ¬ ((1048576 : Int) < (n : Int)) := by omega
  go_enter Try.func4, Try.ntmps4
  go_wp2_with fail
  refine (HD.out _ HR.out).mono ?_
  intro e w1 hd
  obtain ⟨v, cs, rfl, ho, hl, hb1⟩ := hd
  obtain ⟨Ao, co, rfl, hoc, hom, _⟩ := own_form ho
  have hrow : RowAccesss w1 Ao cs := RowOf.of_own rfl (fun c _ => c.vals_len) ho
  have HRow := Lib.hid hrow
  have HB1 := Lib.hid hb1
  obtain ⟨b, hb⟩ : ∃ b, accB cs = b := ⟨_, rfl⟩
  have HV := Lib.hid hb
  clear ho hrow hb1 hb
  unfold maxLen at hom
  have HI := Lib.hid (fun (W : World) (hW : RowAccesss W Ao cs) => implValidAccesses_calls cs Ao co W hW (by omega) hoc b HV.out)
  have HS := Lib.hid (fun (W : World) (hW : RowAccesss W Ao cs) => specValidAccesses_calls cs Ao co W hW (by omega) b HV.out)
  have HT := Lib.hid (fun (hbt : b = true) (W : World) (hW : RowAccesss W Ao cs) => by
    have h1 : (cs.take (cs.length - 1)).length = cs.length - 1 := by rw [List.length_take]; omega
    have h2 := implValidAccesses_calls (cs.take (cs.length - 1)) Ao co W (hW.take _) (by omega) (by omega) true (accB_take (HV.out.trans hbt) _)
    rw [h1] at h2
    exact h2)
  generalize cs.length = l at *
  have hl7 : (l : Int) ≤ 10 := by omega
  cases b
  · go_wp2_with fail
    refine (HI.out _ HRow.out).mono ?_
    rintro e w2 ⟨rfl, hb2⟩
    go_wp2_with fail
    refine (HS.out _ (HRow.out.below hb2)).mono ?_
    rintro e w3 ⟨rfl, hb3⟩
    go_wp2_with fail
    refine (HS.out _ (HRow.out.below (below_trans' hb2 hb3))).mono ?_
    rintro e w4 ⟨rfl, hb4⟩
    go_wp2_with fail
    go_ret
    exact ⟨rfl, below_trans' HB1.out (below_trans' (below_trans' hb2 hb3) hb4)⟩
  · go_wp2_with fail
    refine (HI.out _ HRow.out).mono ?_
    rintro e w2 ⟨rfl, hb2⟩
    go_wp2_with fail
    refine (HS.out _ (HRow.out.below hb2)).mono ?_
    rintro e w3 ⟨rfl, hb3⟩
    by_cases h0 : l = 0
    · subst h0
      go_wp2_with fail
      go_ret
      exact ⟨rfl, below_trans' HB1.out (below_trans' hb2 hb3)⟩
    · have hl1 : (1 : Int) ≤ (l : Int) := by omega
      have hlc' : (l : Int) ≤ (co : Int) := by omega
      have hz : ((l : Int) == 0) = false := by simp; omega
      go_wp2_with fail
      refine (HT.out trivial _ (HRow.out.below (below_trans' hb2 hb3))).mono ?_
      rintro e w4 ⟨rfl, hb4⟩
      go_wp2_with fail
      go_ret
      exact ⟨rfl, below_trans' HB1.out (below_trans' (below_trans' hb2 hb3) hb4)⟩
end Go.Proofs.Ytooigcfdkmgjnaa
