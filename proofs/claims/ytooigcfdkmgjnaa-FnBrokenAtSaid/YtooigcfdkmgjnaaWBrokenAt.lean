/-
  The walk of the law that ahead of what is broken nothing is: it returns true. No condition.
-/
import Derived.Test.YtooigcfdkmgjnaaDrawBrokenAt
import Derived.Test.YtooigcfdkmgjnaaBrokenAt
import Derived.Test.YtooigcfdkmgjnaaBrkQ
namespace Go.Proofs.Ytooigcfdkmgjnaa
open Go.RowKit
set_option maxRecDepth 100000

set_option maxHeartbeats 4000000 in
theorem walk_FnBrokenAt (bs : List Int) (A : Option Addr) (cap : Nat) (w : World) (hlc : bs.length ≤ cap) (hcm : cap ≤ maxLen) (hr : RowOf byteVals 1 w A bs) (hg : ∀ d ∈ bs, isByte d) (_hn : A = none → bs.length = 0 ∧ cap = 0) :
    Calls Try.prog 9 #[.slice A bs.length cap] w fun e w' => e = .returned (.bool true) ∧ Below w.heap.size w w' := by
  have hM := hcm
  unfold maxLen at hM
  have HD := Lib.hid (fun (W : World) (hW : RowOf byteVals 1 W A bs) => drawBrokenAt_calls bs A bs.length cap W hW hg rfl hlc hcm)
  have HR := Lib.hid hr
  clear hr hg _hn
  generalize bs.length = n at *
  by_cases hbig : 1048576 < n
  · have hI : (1048576 : Int) < (n : Int) := by omega
    go_enter Try.func9, Try.ntmps9
    go_wp2_with fail
    go_ret
    exact ⟨rfl, Below.refl _ _⟩
  have hI : ¬ ((1048576 : Int) < (n : Int)) := by omega
  go_enter Try.func9, Try.ntmps9
  go_wp2_with fail
  refine (HD.out _ HR.out).mono ?_
  intro e w1 hd
  obtain ⟨s, v, cs, rfl, ho, hl, hb1⟩ := hd
  obtain ⟨Ao, co, rfl, hoc, hom, _⟩ := own_form ho
  have hrow : RowAccesss w1 Ao cs := RowOf.of_own rfl (fun c _ => c.vals_len) ho
  have HRow := Lib.hid hrow
  have HB1 := Lib.hid hb1
  obtain ⟨b, hb⟩ : ∃ b, brokeV (prOf s) cs = b := ⟨_, rfl⟩
  obtain ⟨x, ok⟩ := b
  have HV := Lib.hid hb
  clear ho hrow hb1 hb
  unfold maxLen at hom
  have HI := Lib.hid (fun (W : World) (hW : RowAccesss W Ao cs) => implBrokenAt_calls s cs Ao cs.length co W hW rfl (by omega) hoc (x, ok) HV.out)
  have HS := Lib.hid (fun (W : World) (hW : RowAccesss W Ao cs) => specBrokenAt_calls s cs Ao cs.length co W hW rfl (by omega) (x, ok) HV.out)
  simp only [pairV] at HI HS
  obtain ⟨l, hll⟩ : ∃ l, cs.length = l := ⟨_, rfl⟩
  rw [hll] at HI HS hl hoc ⊢
  have Hll := Lib.hid hll
  clear hll
  have hl10 : (l : Int) ≤ 10 := by omega
  go_wp2_with fail
  refine (HI.out _ HRow.out).mono ?_
  rintro e w2 ⟨rfl, hb2⟩
  have HB2 := Lib.hid hb2
  clear hb2
  go_wp2_with fail
  refine (HS.out _ (HRow.out.below HB2.out)).mono ?_
  rintro e w3 ⟨rfl, hb3⟩
  have HB3 := Lib.hid (below_trans' HB2.out hb3)
  have HE := Lib.hid (below_trans' HB1.out HB3.out)
  clear hb3
  have hxx : (x != x) = false := by simp
  have hxe : (x == x) = true := by simp
  cases ok
  · go_wp2_with fail
    go_ret
    exact ⟨rfl, HE.out⟩
  · obtain ⟨q, hq, hv, hcase⟩ := broke_some HV.out
    rcases hcase with ⟨rfl, hn⟩ | ⟨i, rfl, hi, hf⟩
    · clear hq hv hn
      go_wp2_with fail
      go_ret
      exact ⟨rfl, HE.out⟩
    · obtain ⟨_, h1, h2, h3⟩ := broke_prefix hv hf
      rw [Hll.out] at hi
      obtain ⟨c, hc⟩ : ∃ c, cs[i]? = some c := ⟨cs[i]'(by have := Hll.out; omega), List.getElem?_eq_getElem _⟩
      rw [aAt_eq hc] at h3
      have e1 : (cs.take i).length = i := by rw [List.length_take, Hll.out]; omega
      have e2 : (cs.take (i + 1)).length = i + 1 := by rw [List.length_take, Hll.out]; omega
      have HT1 := Lib.hid (fun (W : World) (hW : RowAccesss W Ao cs) => implBrokenAt_calls s (cs.take i) Ao i co W (hW.take i) e1 (by omega) (by omega) (-1, true) (by rw [hq]; exact h1))
      have HT2 := Lib.hid (fun (W : World) (hW : RowAccesss W Ao cs) => implBrokenAt_calls s (cs.take (i + 1)) Ao (i + 1) co W (hW.take (i + 1)) e2 (by omega) (by omega) ((i : Int), true) (by rw [hq]; exact h2))
      simp only [pairV] at HT1 HT2
      have Hc := Lib.hid hc
      have Hw := Lib.hid h3
      clear h1 h2 h3 hc e1 e2 hq hv hf HV HI HS HD
      have hi0 : (0 : Int) ≤ (i : Int) := by omega
      have hin : (i : Int) < (l : Int) := by omega
      have hic : (i : Int) ≤ (co : Int) := by omega
      have hic1 : (i : Int) + 1 ≤ (co : Int) := by omega
      have hneg : ¬ ((i : Int) < 0) := by omega
      go_wp2_with fail
      refine (HT1.out _ (HRow.out.below HB3.out)).mono ?_
      rintro e w4 ⟨rfl, hb4⟩
      have HB4 := Lib.hid (below_trans' HB3.out hb4)
      clear hb4
      go_wp2_with fail
      refine (HT2.out _ (HRow.out.below HB4.out)).mono ?_
      rintro e w5 ⟨rfl, hb5⟩
      have HB5 := Lib.hid (below_trans' HB4.out hb5)
      clear hb5
      obtain ⟨b1, o1, rfl, hat1⟩ := HRow.out (by have := Hll.out; omega)
      obtain ⟨x0, x1, x2⟩ := (RowAccesss.at_ hat1 Hc.out).below HB5.out
      rw [Hw.out] at x1
      have hz1 : b1 < w5.heap.size := World.block_lt_of_cell? _ _ x0
      have hie : ((i : Int) == (i : Int)) = true := by simp
      clear hat1
      go_wp2_with fail
      go_ret
      exact ⟨rfl, below_trans' HB1.out HB5.out⟩
end Go.Proofs.Ytooigcfdkmgjnaa
