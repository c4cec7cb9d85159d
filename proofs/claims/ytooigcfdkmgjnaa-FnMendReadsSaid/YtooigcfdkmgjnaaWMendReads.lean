/-
  The walk of the law that mended reads are causal: it returns true. No condition.
-/
import Derived.Test.YtooigcfdkmgjnaaDrawMendReads
import Derived.Test.YtooigcfdkmgjnaaIsCausal
import Derived.Test.YtooigcfdkmgjnaaMend
import Derived.Test.YtooigcfdkmgjnaaMend2
import Derived.Test.YtooigcfdkmgjnaaEqAc
import Derived.Test.YtooigcfdkmgjnaaBrkQ
namespace Go.Proofs.Ytooigcfdkmgjnaa
open Go.RowKit
set_option maxRecDepth 100000

theorem mendB_self {cs : List AccessD} (hc : causalB cs = true) : mendB cs = cs := by
  have hv : accB cs = true := by simp only [causalB, Bool.and_eq_true] at hc; exact hc.1
  rw [mendB, if_pos hv, mend_self hc]
/-- What is told of an access and of what mending makes of it. -/
theorem mend_at {cs : List AccessD} (hv : accB cs = true) {i : Nat} {c : AccessD} (hc : cs[i]? = some c) : ∃ sn dn : Nat, sn < 2 ^ 10 ∧ dn < 2 ^ 10 ∧ c.seen = sn ∧ (mendK cs cs.length)[i]? = some ⟨c.session, c.write, (dn : Int)⟩ ∧ dn &&& sn = sn := by
  have hi := (List.getElem?_eq_some_iff.1 hc).1
  have hM := mendK_valid hv cs.length (Nat.le_refl _)
  have hm := mendK_here hc hi
  obtain ⟨sn, h1, h2⟩ := acc_seen hv hc
  obtain ⟨dn, h3, h4⟩ := acc_seen hM hm
  have t1 := wrN_ten hv i
  have t2 := wrN_ten hM i
  have e1 : 2 ^ wrN cs i ≤ 2 ^ 10 := Nat.pow_le_pow_right (by omega) t1
  have e2 : 2 ^ wrN (mendK cs cs.length) i ≤ 2 ^ 10 := Nat.pow_le_pow_right (by omega) t2
  refine ⟨sn, dn, by omega, by omega, h1, ?_, ?_⟩
  · rw [hm]
    congr 1
    have a1 := mendOne_session (mendK cs i) c
    have a2 := mendOne_write (mendK cs i) c
    rw [← a1, ← a2, ← h3]
  · cases hw : c.write
    · have := mend_more (cs := cs) hi (by rw [aAt_eq hc]; exact hw)
      rw [seenN, aAt_eq hm, h3, seenN, aAt_eq hc, h1] at this
      simpa using this
    · rw [mendOne_wr hw, h1] at h3
      have : sn = dn := by omega
      rw [this, Nat.and_self]

set_option maxHeartbeats 4000000 in
theorem walk_FnMendReads (bs : List Int) (A : Option Addr) (cap : Nat) (w : World) (hlc : bs.length ≤ cap) (hcm : cap ≤ maxLen) (hr : RowOf byteVals 1 w A bs) (hg : ∀ d ∈ bs, isByte d) (_hn : A = none → bs.length = 0 ∧ cap = 0) :
    Calls Try.prog 11 #[.slice A bs.length cap] w fun e w' => e = .returned (.bool true) ∧ Below w.heap.size w w' := by
  have hM := hcm
  unfold maxLen at hM
  have HD := Lib.hid (fun (W : World) (hW : RowOf byteVals 1 W A bs) => drawMendReads_calls bs A bs.length cap W hW hg rfl hlc hcm)
  have HR := Lib.hid hr
  clear hr hg _hn
  generalize bs.length = n at *
  by_cases hbig : 1048576 < n
  · have hI : (1048576 : Int) < (n : Int) := by omega
    go_enter Try.func11, Try.ntmps11
    go_wp2_with fail
    go_ret
    exact ⟨rfl, Below.refl _ _⟩
  have hI : ¬ ((1048576 : Int) < (n : Int)) := by omega
  go_enter Try.func11, Try.ntmps11
  go_wp2_with fail
  refine (HD.out _ HR.out).mono ?_
  intro e w1 hd
  obtain ⟨v, cs, rfl, ho, hl, hb1⟩ := hd
  obtain ⟨Ao, co, rfl, hoc, hom, _⟩ := own_form ho
  have hrow : RowAccesss w1 Ao cs := RowOf.of_own rfl (fun c _ => c.vals_len) ho
  have HRow := Lib.hid hrow
  have HB1 := Lib.hid hb1
  obtain ⟨b, hb⟩ : ∃ b, accB cs = b := ⟨_, rfl⟩
  have HV := Lib.hid hb
  clear ho hrow hb1 hb
  unfold maxLen at hom
  have HI := Lib.hid (fun (W : World) (hW : RowAccesss W Ao cs) => implMendReads_calls cs Ao co W hW (by omega) hoc)
  have HS := Lib.hid (fun (W : World) (hW : RowAccesss W Ao cs) => specMendReads_calls cs Ao co W hW (by omega))
  have HVE := Lib.hid (fun (W : World) (hW : RowAccesss W Ao cs) => implValidAccesses_calls cs Ao co W hW (by omega) hoc b HV.out)
  have HPL := Lib.hid (mendB_len cs)
  obtain ⟨l, hll⟩ : ∃ l, cs.length = l := ⟨_, rfl⟩
  rw [hll] at HI HS HVE hl hoc ⊢
  have Hll := Lib.hid hll
  clear hll
  go_wp2_with fail
  refine (HI.out _ HRow.out).mono ?_
  rintro e w2 ⟨v2, rfl, ho2, hb2⟩
  obtain ⟨A2, c2, rfl, hc2, _, _⟩ := own_form ho2
  have hr2 : RowAccesss w2 A2 (mendB cs) := RowOf.of_own rfl (fun c _ => c.vals_len) ho2
  have HR2 := Lib.hid hr2
  have HB2 := Lib.hid hb2
  clear ho2 hr2 hb2
  go_wp2_with fail
  refine (HS.out _ (HRow.out.below HB2.out)).mono ?_
  rintro e w3 ⟨v3, rfl, ho3, hb3⟩
  obtain ⟨A3, c3, rfl, _, _, _⟩ := own_form ho3
  have hr3 : RowAccesss w3 A3 (mendB cs) := RowOf.of_own rfl (fun c _ => c.vals_len) ho3
  have HR3 := Lib.hid hr3
  have HB3 := Lib.hid hb3
  clear ho3 hr3 hb3
  go_wp2_with fail
  refine (equalAccesses_calls (mendB cs) (mendB cs) _ A2 A3 _ _ _ (HR2.out.below HB3.out) HR3.out rfl rfl HPL.out true (by simp)).mono ?_
  rintro e w4 ⟨rfl, hb4⟩
  have HB4 := Lib.hid (below_trans' HB2.out (below_trans' HB3.out hb4))
  have HB24 := Lib.hid (below_trans' HB3.out hb4)
  clear hb4
  go_wp2_with fail
  refine (HVE.out _ (HRow.out.below HB4.out)).mono ?_
  rintro e w5 ⟨rfl, hb5⟩
  have HB5 := Lib.hid (below_trans' HB4.out hb5)
  have HB25 := Lib.hid (below_trans' HB24.out hb5)
  clear hb5
  cases b
  · go_wp2_with fail
    refine (HS.out _ (HRow.out.below HB5.out)).mono ?_
    rintro e w6 ⟨v6, rfl, ho6, hb6⟩
    obtain ⟨A6, c6, rfl, _, _, _⟩ := own_form ho6
    have hr6 : RowAccesss w6 A6 (mendB cs) := RowOf.of_own rfl (fun c _ => c.vals_len) ho6
    have HB6 := Lib.hid hb6
    have HR6 := Lib.hid hr6
    clear ho6 hr6 hb6
    go_wp2_with fail
    refine (equalAccesses_calls (mendB cs) (mendB cs) _ A2 A6 _ _ _ ((HR2.out.below HB25.out).below HB6.out) HR6.out rfl rfl HPL.out true (by simp)).mono ?_
    rintro e w7 ⟨rfl, hb7⟩
    go_wp2_with fail
    go_ret
    exact ⟨rfl, below_trans' HB1.out (below_trans' (below_trans' HB5.out HB6.out) hb7)⟩
  · have hv : accB cs = true := HV.out
    have hpl : mendB cs = mendK cs cs.length := by rw [mendB, if_pos hv]
    have hlen : (mendB cs).length = l := by rw [hpl, mendK_len, Hll.out]
    have HAT := Lib.hid (fun (i : Nat) (c : AccessD) (hc : cs[i]? = some c) => hpl ▸ mend_at hv hc)
    have HC := Lib.hid (show causalB (mendB cs) = true by rw [hpl]; exact mend_is_causal hv)
    have HIff := Lib.hid (show causalB cs = true ↔ mendB cs = cs by rw [hpl]; exact causal_iff_mend hv)
    have HR5 := Lib.hid (HR2.out.below HB25.out)
    rw [hlen] at hc2 ⊢
    have HLen := Lib.hid hlen
    clear hpl hv HR2 HR3 HI HS HVE HD hlen HPL
    generalize mendB cs = P at *
    have HSelf := Lib.hid (mendB_self HC.out)
    obtain ⟨q, hq⟩ : ∃ q, causalB cs = q := ⟨_, rfl⟩
    have HQ := Lib.hid hq
    rw [hq] at HIff
    clear hq
    have hqe : (q == q) = true := by cases q <;> rfl
    have hl10 : (l : Int) ≤ 10 := by omega
    have HIC := Lib.hid (fun (W : World) (hW : RowAccesss W A2 P) => implIsCausal_calls P A2 c2 W hW (by have := HLen.out; omega) (by rw [HLen.out]; exact hc2) true HC.out)
    have HIM := Lib.hid (fun (W : World) (hW : RowAccesss W A2 P) => implMendReads_calls P A2 c2 W hW (by have := HLen.out; omega) (by rw [HLen.out]; exact hc2))
    have HID := Lib.hid (fun (W : World) (hW : RowAccesss W Ao cs) => implIsCausal_calls cs Ao co W hW (by have := Hll.out; omega) (by rw [Hll.out]; exact hoc) q HQ.out)
    rw [HLen.out] at HIC HIM
    rw [HSelf.out] at HIM
    rw [Hll.out] at HID
    go_wp2_with fail
    go_loopw [5] (fun i wr => ∃ k : Nat, k ≤ l ∧ i = .int .i64 k ∧ Below w5.heap.size w5 wr) (fun i _ => l - (intOf i).toNat)
    case atStart => exact ⟨0, by omega, rfl, Below.refl _ _⟩
    case round =>
      obtain ⟨i, hi, rfl, hb⟩ := hrel
      by_cases hlt : i < l
      · obtain ⟨c, hc⟩ : ∃ c, cs[i]? = some c := ⟨cs[i]'(by have := Hll.out; omega), List.getElem?_eq_getElem _⟩
        obtain ⟨sn, dn, hs10, hd10, hsn, hd, hand⟩ := HAT.out i c hc
        obtain ⟨b1, o1, rfl, hat1⟩ := HRow.out (by have := Hll.out; omega)
        obtain ⟨b2, o2, rfl, hat2⟩ := HR5.out (by have := HLen.out; omega)
        obtain ⟨x0, x1, x2⟩ := (RowAccesss.at_ hat1 hc).below (HB5.out.trans (hb.mono HB5.out.size))
        obtain ⟨y0, y1, y2⟩ := (RowAccesss.at_ hat2 hd).below hb
        rw [hsn] at x2
        have hz1 : b1 < wr.heap.size := World.block_lt_of_cell? _ _ x0
        have hz2 : b2 < wr.heap.size := World.block_lt_of_cell? _ _ y0
        have hbits := i64_and_nat dn sn (by omega) (by omega)
        rw [hand] at hbits
        have Hb := Lib.hid hb
        clear hat1 hat2 hc hd hb hand hsn
        have hi0 : (0 : Int) ≤ (i : Int) := by omega
        have hin : (i : Int) < (l : Int) := by omega
        go_wp2_with fail
        refine wp_region_grow (by kernel_rfl) (by kernel_rfl) ?_
        repeat (go_big_quiet_step (fail))
        refine wpQuiet_end ?_
        intro w10 hb10
        go_wp2_with fail
        go_roundw
        case rel => exact ⟨i + 1, by omega, by go_num, below_trans' Hb.out hb10⟩
        case measure => simp [intOf]; omega
      · have e1 : i = l := by omega
        subst e1
        have hge : ¬ ((i : Int) < (i : Int)) := by omega
        have Hb := Lib.hid hb
        clear hb
        go_wp2_with fail
        refine (HIC.out _ (HR5.out.below Hb.out)).mono ?_
        rintro e w6 ⟨rfl, hb6⟩
        have HB6 := Lib.hid (below_trans' Hb.out hb6)
        clear hb6
        go_wp2_with fail
        refine (HIM.out _ (HR5.out.below HB6.out)).mono ?_
        rintro e w7 ⟨v7, rfl, ho7, hb7⟩
        unfold OwnAccesss at ho7
        rw [HLen.out] at ho7
        obtain ⟨A7, c7, rfl, _, _, _⟩ := own_form ho7
        have hr7 : RowAccesss w7 A7 P := RowOf.of_own HLen.out.symm (fun c _ => c.vals_len) ho7
        have HR7 := Lib.hid hr7
        have HB7 := Lib.hid (below_trans' HB6.out hb7)
        clear ho7 hr7 hb7
        go_wp2_with fail
        refine (equalAccesses_calls P P i A7 A2 _ _ _ HR7.out (HR5.out.below HB7.out) HLen.out HLen.out (by omega) true (by simp)).mono ?_
        rintro e w8 ⟨rfl, hb8⟩
        have HB8 := Lib.hid (below_trans' HB7.out hb8)
        clear hb8
        go_wp2_with fail
        refine (HID.out _ (HRow.out.below (below_trans' HB5.out HB8.out))).mono ?_
        rintro e w9 ⟨rfl, hb9⟩
        have HB9 := Lib.hid (below_trans' HB8.out hb9)
        clear hb9
        go_wp2_with fail
        refine (equalAccesses_calls P cs i A2 Ao _ _ _ (HR5.out.below HB9.out) (HRow.out.below (below_trans' HB5.out HB9.out)) HLen.out Hll.out (by omega) q HIff.out).mono ?_
        rintro e w10 ⟨rfl, hb10⟩
        go_wp2_with fail
        go_ret
        exact ⟨rfl, below_trans' HB1.out (below_trans' HB5.out (below_trans' HB9.out hb10))⟩
end Go.Proofs.Ytooigcfdkmgjnaa
