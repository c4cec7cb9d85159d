/-
  The walk of the law on how many ways there are: it returns true. No condition.
-/
import Derived.Test.YtmeehfiekhdbkaaDrawWaysOf
import Derived.Test.YtmeehfiekhdbkaaPastI
import Derived.Test.YtmeehfiekhdbkaaWaysOf
import Derived.Test.YtmeehfiekhdbkaaLawP
import Derived.BigGuardPart
namespace Go.Proofs.Ytmeehfiekhdbkaa
open Go.RowKit
set_option maxRecDepth 100000

def freeTo (cs : List EventD) (k : Nat) : Bool := (List.range k).all fun i => pastRow cs i == 2 ^ i
def oneTo (cs : List EventD) (k : Nat) : Bool := (List.range k).all fun i => (evAt cs i).proc == (evAt cs 0).proc
theorem freeTo_succ (cs : List EventD) (k : Nat) : freeTo cs (k + 1) = (freeTo cs k && (((pastRow cs k : Nat) : Int) == ((2 ^ k : Nat) : Int))) := by
  rw [freeTo, freeTo, all_range_succ]
  congr 1
  rw [Bool.eq_iff_iff]
  simp only [beq_iff_eq]
  exact ⟨fun h => by rw [h], fun h => Int.ofNat_inj.1 h⟩
theorem oneTo_succ (cs : List EventD) (k : Nat) : oneTo cs (k + 1) = (oneTo cs k && ((evAt cs k).proc == (evAt cs 0).proc)) := by
  rw [oneTo, oneTo, all_range_succ]
theorem free_fact {cs : List EventD} (h : freeTo cs cs.length = true) : way (opW cs fun _ => true) cs.length (2 ^ cs.length - 1) = fact cs.length := by
  refine way_free fun i hi => ?_
  rw [freeTo, List.all_eq_true] at h
  simpa using h i (List.mem_range.2 hi)
theorem one_fact {cs : List EventD} (h : oneTo cs cs.length = true) : way (opW cs fun _ => true) cs.length (2 ^ cs.length - 1) = 1 := by
  refine way_one fun i hi => ?_
  rw [oneTo, List.all_eq_true] at h
  simpa using h i (List.mem_range.2 hi)
theorem fact_next {k : Nat} (h : k < 7) : wrap64 ((fact k : Int) * ((k : Int) + 1)) = (fact (k + 1) : Int) := by
  have e : (fact k : Int) * ((k : Int) + 1) = (fact (k + 1) : Int) := by rw [fact, Int.natCast_mul, Int.mul_comm]; rfl
  have h2 := fact_seven (show k + 1 ≤ 7 by omega)
  rw [e]
  exact IntWalk.wrap64_in _ ⟨by omega, by omega⟩

set_option maxHeartbeats 4000000 in
theorem walk_FnWaysOf (bs : List Int) (A : Option Addr) (cap : Nat) (w : World) (hlc : bs.length ≤ cap) (hcm : cap ≤ maxLen) (hr : RowOf byteVals 1 w A bs) (hg : ∀ d ∈ bs, isByte d) (_hn : A = none → bs.length = 0 ∧ cap = 0) :
    Calls Try.prog 6 #[.slice A bs.length cap] w fun e w' => e = .returned (.bool true) ∧ Below w.heap.size w w' := by
  have hM := hcm
  unfold maxLen at hM
  have HD := Lib.hid (fun (W : World) (hW : RowOf byteVals 1 W A bs) => drawWaysOf_calls bs A bs.length cap W hW hg rfl hlc hcm)
  have HR := Lib.hid hr
  clear hr hg _hn
  generalize bs.length = n at *
  by_cases hbig : 1048576 < n
  · have hI : (1048576 : Int) < (n : Int) := by omega
    go_enter Try.func6, Try.ntmps6
    go_wp2_with fail
    go_ret
    exact ⟨rfl, Below.refl _ _⟩
  have hI : ¬ ((1048576 : Int) < (n : Int)) := by omega
  go_enter Try.func6, Try.ntmps6
  go_wp2_with fail
  refine (HD.out _ HR.out).mono ?_
  intro e w1 hd
  obtain ⟨v, cs, rfl, ho, hgd, hl, hb1⟩ := hd
  obtain ⟨Ao, co, rfl, hoc, hom, _⟩ := own_form ho
  have hrow : RowEvents w1 Ao cs := RowOf.of_own rfl (fun c _ => c.vals_len) ho
  have HRow := Lib.hid hrow
  have HB1 := Lib.hid hb1
  clear ho hgd hrow hb1
  unfold maxLen at hom
  have HI := Lib.hid (fun (W : World) (hW : RowEvents W Ao cs) => implWaysOf_calls cs Ao co W hW (by omega) hoc)
  have HS := Lib.hid (fun (W : World) (hW : RowEvents W Ao cs) => specWaysOf_calls cs Ao co W hW (by omega))
  cases hb : evB cs
  · have hy : waysV cs = -1 := by simp [waysV, hb]
    rw [hy] at HI HS
    clear hb hy
    generalize cs.length = l at *
    go_wp2_with fail
    refine (HI.out _ HRow.out).mono ?_
    rintro e w2 ⟨rfl, hb2⟩
    have HR2 := Lib.hid (HRow.out.below hb2)
    go_wp2_with fail
    refine (HS.out _ HR2.out).mono ?_
    rintro e w3 ⟨rfl, hb3⟩
    have HR3 := Lib.hid (HR2.out.below hb3)
    go_wp2_with fail
    refine (HS.out _ HR3.out).mono ?_
    rintro e w4 ⟨rfl, hb4⟩
    go_wp2_with fail
    go_ret
    exact ⟨rfl, below_trans' HB1.out (below_trans' (below_trans' hb2 hb3) hb4)⟩
  have h7 := evB_len hb
  have hy : waysV cs = ((way (opW cs fun _ => true) cs.length (2 ^ cs.length - 1) : Nat) : Int) := by simp [waysV, hb]
  have hy1 := way_least cs
  have hy2 := way_most cs (fun _ => true)
  have hfs := fact_seven h7
  have HFR := Lib.hid (@free_fact cs)
  have HON := Lib.hid (@one_fact cs)
  have HPa := Lib.hid (fun (W : World) (hW : RowEvents W Ao cs) => implPastOf_calls cs Ao co W hW (by omega) hoc)
  have hql : pastOfL cs = pastI cs cs.length := by simp [pastOfL, hb, pastL]
  rw [hql] at HPa
  rw [hy] at HI HS
  clear hql hb hy HD HR
  generalize way (opW cs fun _ => true) cs.length (2 ^ cs.length - 1) = y at *
  generalize hll : cs.length = l at *
  have Hll := Lib.hid hll
  clear hll
  have hlen : (l : Int) ≤ 7 := by omega
  have hyi : (1 : Int) ≤ (y : Int) := by omega
  have hyj : (y : Int) ≤ (fact l : Int) := by omega
  have hy0 : ¬ ((y : Int) < 0) := by omega
  clear hy1 hy2 hfs
  go_wp2_with fail
  refine (HI.out _ HRow.out).mono ?_
  rintro e w2 ⟨rfl, hb2⟩
  have HR2 := Lib.hid (HRow.out.below hb2)
  go_wp2_with fail
  refine (HS.out _ HR2.out).mono ?_
  rintro e w3 ⟨rfl, hb3⟩
  have HR3 := Lib.hid (HR2.out.below hb3)
  go_wp2_with fail
  refine (HPa.out _ HR3.out).mono ?_
  rintro e w6 ⟨v6, rfl, ho6, hb6⟩
  unfold OwnInts at ho6
  have hqlen : (pastI cs l).length = l := pastI_len cs l
  rw [hqlen] at ho6
  obtain ⟨A6, c6, rfl, _, _, _⟩ := own_form ho6
  have hr6 : RowInts w6 A6 (pastI cs l) := RowOf.of_own hqlen.symm (fun _ _ => rfl) ho6
  have HR6 := Lib.hid hr6
  have HE6 := Lib.hid (HR3.out.below hb6)
  have HB6 := Lib.hid (below_trans' HB1.out (below_trans' (below_trans' hb2 hb3) hb6))
  clear ho6 hr6 hb6 hb2 hb3 HR2 HR3 HPa HS HI
  go_wp2_with fail
  go_loopw [6, 7, 8, 9] (fun fr on al i wr => ∃ k : Nat, k ≤ l ∧ i = .int .i64 k ∧ fr = .bool (freeTo cs k) ∧ on = .bool (oneTo cs k) ∧ al = .int .i64 (fact k : Nat) ∧ Below w6.heap.size w6 wr) (fun _ _ _ i _ => l - (intOf i).toNat)
  case atStart => exact ⟨0, by omega, rfl, rfl, rfl, rfl, Below.refl _ _⟩
  case round =>
    obtain ⟨k, hk, rfl, rfl, rfl, rfl, hb⟩ := hrel
    by_cases hkl : k < l
    · obtain ⟨gb, goff, rfl, hgat⟩ := HR6.out (by rw [hqlen]; omega)
      obtain ⟨ob, ooff, rfl, hoat⟩ := HE6.out (by have := Hll.out; omega)
      obtain ⟨c, hc⟩ : ∃ c, cs[k]? = some c := ⟨cs[k]'(by have := Hll.out; omega), List.getElem?_eq_getElem _⟩
      obtain ⟨d, hd⟩ : ∃ c, cs[0]? = some c := ⟨cs[0]'(by have := Hll.out; omega), List.getElem?_eq_getElem _⟩
      have r1 := cell_below hb (RowInts.at_ hgat (pastI_row cs hkl))
      obtain ⟨x0, _, _⟩ := (RowEvents.at_ hoat hc).below hb
      obtain ⟨y0, _, _⟩ := (RowEvents.at_ hoat hd).below hb
      simp only [Nat.zero_mul, Nat.add_zero] at y0
      have hgb2 : gb < wr.heap.size := World.block_lt_of_cell? _ _ r1
      have hob2 : ob < wr.heap.size := World.block_lt_of_cell? _ _ x0
      have hfs := freeTo_succ cs k
      have hos := oneTo_succ cs k
      rw [evAt_eq hc, evAt_eq hd] at hos
      have hfn := fact_next (show k < 7 by omega)
      have hpk : pw k = ((2 ^ k : Nat) : Int) := by rw [pw_eq _ (by omega), two_cast]
      have HPK := Lib.hid (fun (W : World) => hpk ▸ lpower_calls k W (by omega))
      have Hfs := Lib.hid hfs
      have Hos := Lib.hid hos
      have Hfn := Lib.hid hfn
      have Hb := Lib.hid hb
      clear hfs hos hfn hpk hb hgat hoat hc hd
      generalize 2 ^ k = t at *
      generalize pastRow cs k = r at *
      generalize freeTo cs k = fr at *
      generalize oneTo cs k = on at *
      have hk0 : (0 : Int) ≤ (k : Int) := by omega
      have hkn : (k : Int) < (l : Int) := by omega
      have hk6 : (k : Int) ≤ 6 := by omega
      cases fr <;> cases on
      all_goals
        go_wp2_with fail
        refine wp_region_grow (by kernel_rfl) (by kernel_rfl) ?_
        repeat (go_big_quiet_step ((go_at_call 22; exact Calls.ext_same (HPK.out _))))
        refine wpQuiet_end ?_
        intro w7 hb7
        have x1 := cell_below hb7 x0
        have y1 := cell_below hb7 y0
        have hob3 : ob < w7.heap.size := World.block_lt_of_cell? _ _ x1
        have Hb7 := Lib.hid hb7
        clear x0 y0 r1 hb7
        go_wp2_with fail
        refine wp_region_grow (by kernel_rfl) (by kernel_rfl) ?_
        repeat (go_big_quiet_step ((fail)))
        refine wpQuiet_end ?_
        intro w8 hb8
        have Hb8 := Lib.hid (below_trans' (below_trans' Hb.out Hb7.out) hb8)
        clear x1 y1 hb8
        go_wp2_with fail
        go_roundw
        case rel => exact ⟨k + 1, by omega, by go_num, by rw [Hfs.out]; rfl, by rw [Hos.out]; rfl, by rw [← Hfn.out], Hb8.out⟩
        case measure => simp [intOf]; omega
    · have e1 : k = l := by omega
      subst e1
      have hge : ¬ ((k : Int) < (k : Int)) := by omega
      have hfr := HFR.out
      have hon := HON.out
      have Hb := Lib.hid hb
      clear hb
      generalize freeTo cs k = fr at *
      generalize oneTo cs k = on at *
      generalize fact k = F at *
      have hyb : decide ((1 : Int) ≤ (y : Int)) = true := by simpa using hyi
      cases fr <;> cases on
      · clear hfr hon
        go_wp2
        go_ret
        exact ⟨rfl, below_trans' HB6.out Hb.out⟩
      · have q1 : ((y : Int) == 1) = true := by have := hon rfl; simp; omega
        clear hfr hon
        go_wp2
        go_ret
        exact ⟨rfl, below_trans' HB6.out Hb.out⟩
      · have q1 : ((y : Int) == (F : Int)) = true := by have := hfr rfl; simp; omega
        clear hfr hon
        go_wp2
        go_ret
        exact ⟨rfl, below_trans' HB6.out Hb.out⟩
      · have q1 : ((y : Int) == (F : Int)) = true := by have := hfr rfl; simp; omega
        have q2 : ((y : Int) == 1) = true := by have := hon rfl; simp; omega
        clear hfr hon
        go_wp2
        go_ret
        exact ⟨rfl, below_trans' HB6.out Hb.out⟩
end Go.Proofs.Ytmeehfiekhdbkaa
