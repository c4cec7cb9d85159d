/-
  The law on histories that go one by one, given what its draw leaves. Asked: the draw leaves a history of the call's own, of at most twenty calls.
-/
import Derived.Test.YtooojfdjpmfalaaOneB
import Derived.Test.YtooojfdjpmfalaaWidth
import Derived.Test.YtooojfdjpmfalaaPart
import Derived.Test.YtooojfdjpmfalaaHistQ
namespace Go.Proofs.Ytooojfdjpmfalaa
open Go.RowKit
set_option maxRecDepth 100000

/-- A history drawn: a row of calls of the call's own. -/
def DrewCalls (w w' : World) (v : Value) (cs : List CallD) : Prop := w'.ownsRow w.heap.size 26 7 v cs.length (cs.flatMap CallD.vals) ∧ cs.length ≤ 20 ∧ Below w.heap.size w w'

set_option maxHeartbeats 2000000 in
theorem law_IsOneByOne (n : Nat) (A : Option Addr) (cap : Nat) (w : World) (hM : n ≤ 9223372036854775807)
    (hd : Calls Try.prog 29 #[.slice A n cap] w fun e w' => ∃ v cs, e = .returned v ∧ DrewCalls w w' v cs) :
    Calls Try.prog 10 #[.slice A n cap] w fun e w' => e = .returned (.bool true) ∧ Below w.heap.size w w' := by
  have HD := Lib.hid hd
  clear hd
  by_cases hbig : 1048576 < n
  · have hI : (1048576 : Int) < (n : Int) := by omega
    go_enter Try.func10, Try.ntmps10
    go_wp2_with fail
    go_ret
    exact ⟨rfl, Below.refl _ _⟩
  have hI : ¬ ((1048576 : Int) < (n : Int)) := by omega
  go_enter Try.func10, Try.ntmps10
  go_wp2_with fail
  refine HD.out.mono ?_
  rintro e w1 ⟨v, cs, rfl, ho, hl, hb1⟩
  obtain ⟨Ao, co, rfl, hoc, hom, _⟩ := own_form ho
  have hrow : RowCalls w1 Ao cs := RowOf.of_own rfl (fun c _ => c.vals_len) ho
  have HRow := Lib.hid hrow
  have HB1 := Lib.hid hb1
  obtain ⟨b, hb⟩ : ∃ b, oneHist cs = b := ⟨_, rfl⟩
  obtain ⟨q, hq⟩ : ∃ q, histB cs = q := ⟨_, rfl⟩
  obtain ⟨x, hx⟩ : ∃ x, widthI cs = x := ⟨_, rfl⟩
  have HI := Lib.hid (fun (W : World) (hW : RowCalls W Ao cs) => implIsOneByOne_calls cs Ao co W hW (by omega) hoc b hb)
  have HS := Lib.hid (fun (W : World) (hW : RowCalls W Ao cs) => specIsOneByOne_calls cs Ao co W hW (by omega) b hb)
  have HV := Lib.hid (fun (W : World) (hW : RowCalls W Ao cs) => implValid_calls cs Ao co W hW (by omega) hoc q hq)
  have HW := Lib.hid (fun (W : World) (hW : RowCalls W Ao cs) => implWidthOf_calls cs Ao co W hW (by omega) hoc x hx)
  have HQ := Lib.hid (show q = true → b = decide (x ≤ 1) from fun e => by rw [← hb, ← hx, oneHist, hq, e, Bool.and_true]; exact one_width (by rw [hq, e]))
  clear ho hrow hb1 hb hq hx HD
  generalize cs.length = l at *
  have hne : (b != b) = false := by simp
  have hee : (b == b) = true := by simp
  go_wp2_with fail
  refine (HI.out _ HRow.out).mono ?_
  rintro e w2 ⟨rfl, hb2⟩
  have HB2 := Lib.hid (below_trans' HB1.out hb2)
  have HR2 := Lib.hid (HRow.out.below hb2)
  clear hb2
  go_wp2_with fail
  refine (HS.out _ HR2.out).mono ?_
  rintro e w3 ⟨rfl, hb3⟩
  have HB3 := Lib.hid (below_trans' HB2.out hb3)
  have HR3 := Lib.hid (HR2.out.below hb3)
  clear hb3
  go_wp2_with fail
  refine (HV.out _ HR3.out).mono ?_
  rintro e w4 ⟨rfl, hb4⟩
  have HB4 := Lib.hid (below_trans' HB3.out hb4)
  have HR4 := Lib.hid (HR3.out.below hb4)
  clear hb4
  cases q
  · go_wp2_with fail
    refine (HS.out _ HR4.out).mono ?_
    rintro e w5 ⟨rfl, hb5⟩
    go_wp2_with fail
    go_ret
    exact ⟨by simp, below_trans' HB4.out hb5⟩
  · have e1 := HQ.out rfl
    have E1 := Lib.hid e1
    clear e1
    go_wp2_with fail
    refine (HW.out _ HR4.out).mono ?_
    rintro e w5 ⟨rfl, hb5⟩
    go_wp2_with fail
    go_ret
    exact ⟨by rw [E1.out]; simp, below_trans' HB4.out hb5⟩
end Go.Proofs.Ytooojfdjpmfalaa
