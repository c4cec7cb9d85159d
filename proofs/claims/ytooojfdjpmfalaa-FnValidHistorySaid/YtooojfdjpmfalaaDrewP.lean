/-
  The law on parts of histories, given what its draw leaves. Asked: the draw leaves a history of the call's own, of at most twenty calls.
-/
import Derived.Test.YtooojfdjpmfalaaDrewC
import Derived.Test.YtooojfdjpmfalaaEqC
namespace Go.Proofs.Ytooojfdjpmfalaa
open Go.RowKit
set_option maxRecDepth 100000

set_option maxHeartbeats 4000000 in
theorem law_PartOf (n : Nat) (A : Option Addr) (cap : Nat) (w : World) (hM : n ≤ 9223372036854775807)
    (hd : Calls Try.prog 36 #[.slice A n cap] w fun e w' => ∃ (v : Value) (x : Int) (cs : List CallD), e = .returned (.tuple #[v, .int .i64 x]) ∧ DrewCalls w w' v cs) :
    Calls Try.prog 13 #[.slice A n cap] w fun e w' => e = .returned (.bool true) ∧ Below w.heap.size w w' := by
  have HD := Lib.hid hd
  clear hd
  by_cases hbig : 1048576 < n
  · have hI : (1048576 : Int) < (n : Int) := by omega
    go_enter Try.func13, Try.ntmps13
    go_wp2_with fail
    go_ret
    exact ⟨rfl, Below.refl _ _⟩
  have hI : ¬ ((1048576 : Int) < (n : Int)) := by omega
  go_enter Try.func13, Try.ntmps13
  go_wp2_with fail
  refine HD.out.mono ?_
  rintro e w1 ⟨v, x, cs, rfl, ho, hl, hb1⟩
  obtain ⟨Ao, co, rfl, hoc, hom, _⟩ := own_form ho
  have hrow : RowCalls w1 Ao cs := RowOf.of_own rfl (fun c _ => c.vals_len) ho
  have HRow := Lib.hid hrow
  have HB1 := Lib.hid hb1
  obtain ⟨q, hq⟩ : ∃ q, histB cs = q := ⟨_, rfl⟩
  have HPL := Lib.hid (partB_len cs x)
  obtain ⟨P, hP⟩ : ∃ P, partB cs x = P := ⟨_, rfl⟩
  rw [hP] at HPL
  have HI := Lib.hid (fun (W : World) (hW : RowCalls W Ao cs) => hP ▸ implPartOf_calls cs x Ao co W hW (by omega) hoc)
  have HS := Lib.hid (fun (W : World) (hW : RowCalls W Ao cs) => hP ▸ specPartOf_calls cs x Ao co W hW (by omega))
  have HV := Lib.hid (fun (W : World) (hW : RowCalls W Ao cs) => implValid_calls cs Ao co W hW (by omega) hoc q hq)
  have HPP := Lib.hid (show q = true → (partB P x = P ∧ P.length ≤ cs.length ∧ ∀ (i : Nat) (c : CallD), P[i]? = some c → (c.obj != x) = false) from fun e => by
    have e1 : P = cs.filter (objB x) := by rw [← hP, partB, hq, if_pos e]
    have e2 : histB P = true := by rw [e1]; exact histB_sub List.filter_sublist (by rw [hq, e])
    refine ⟨?_, ?_, ?_⟩
    · rw [partB, if_pos e2, e1, filter_twice]
    · rw [e1]; exact List.length_filter_le _ _
    · intro i c hc
      rw [e1] at hc
      have h1 := (List.mem_filter.1 (List.mem_of_getElem? hc)).2
      simp [objB] at h1
      simp [h1])
  clear ho hrow hb1 hq hP HD
  generalize cs.length = l at *
  go_wp2_with fail
  refine (HI.out _ HRow.out).mono ?_
  rintro e w2 ⟨v2, rfl, ho2, hb2⟩
  unfold OwnCalls at ho2
  have HB2 := Lib.hid (below_trans' HB1.out hb2)
  have HR2 := Lib.hid (HRow.out.below hb2)
  obtain ⟨A2, c2, rfl, hc2, hcm2, _⟩ := own_form ho2
  have HP2 := Lib.hid (show RowCalls w2 A2 P from RowOf.of_own rfl (fun c _ => c.vals_len) ho2)
  clear hb2 ho2
  go_wp2_with fail
  refine (HS.out _ HR2.out).mono ?_
  rintro e w3 ⟨v3, rfl, ho3, hb3⟩
  unfold OwnCalls at ho3
  have HB3 := Lib.hid (below_trans' HB2.out hb3)
  have HR3 := Lib.hid (HR2.out.below hb3)
  have HP3 := Lib.hid (HP2.out.below hb3)
  obtain ⟨A3, c3, rfl, _, _, _⟩ := own_form ho3
  have HQ3 := Lib.hid (show RowCalls w3 A3 P from RowOf.of_own rfl (fun c _ => c.vals_len) ho3)
  clear hb3 ho3
  go_wp2_with fail
  refine (equalCalls_same P P.length A2 A3 _ _ _ HP3.out HQ3.out rfl HPL.out).mono ?_
  rintro e w4 ⟨rfl, hb4⟩
  have HB4 := Lib.hid (below_trans' HB3.out hb4)
  have HR4 := Lib.hid (HR3.out.below hb4)
  have HP4 := Lib.hid (HP3.out.below hb4)
  clear hb4 HQ3
  go_wp2_with fail
  refine (HV.out _ HR4.out).mono ?_
  rintro e w5 ⟨rfl, hb5⟩
  have HB5 := Lib.hid (below_trans' HB4.out hb5)
  have HR5 := Lib.hid (HR4.out.below hb5)
  have HP5 := Lib.hid (HP4.out.below hb5)
  clear hb5
  cases q
  · go_wp2_with fail
    refine (HS.out _ HR5.out).mono ?_
    rintro e w6 ⟨v6, rfl, ho6, hb6⟩
    unfold OwnCalls at ho6
    obtain ⟨A6, c6, rfl, _, _, _⟩ := own_form ho6
    have hq6 : RowCalls w6 A6 P := RowOf.of_own rfl (fun c _ => c.vals_len) ho6
    go_wp2_with fail
    refine (equalCalls_same P P.length A2 A6 _ _ _ (HP5.out.below hb6) hq6 rfl HPL.out).mono ?_
    rintro e w7 ⟨rfl, hb7⟩
    go_wp2_with fail
    go_ret
    exact ⟨rfl, below_trans' (below_trans' HB5.out hb6) hb7⟩
  · obtain ⟨g1, g2, g3⟩ := HPP.out rfl
    have G1 := Lib.hid g1
    have G3 := Lib.hid g3
    have hPl := HPL.out
    have HI2 := Lib.hid (fun (W : World) (hW : RowCalls W A2 P) => g1 ▸ implPartOf_calls P x A2 c2 W hW hPl hc2)
    have HE2 := Lib.hid (fun (B : Option Addr) (cb : Nat) (W : World) (ha : RowCalls W B P) (hb : RowCalls W A2 P) => equalCalls_same P P.length B A2 cb c2 W ha hb rfl hPl)
    generalize hk : P.length = k at *
    have HK := Lib.hid hk
    clear hk
    have g2' : (k : Int) ≤ (l : Int) := by omega
    clear g1 g3 HPP HS HV HI
    have hki : (k : Int) ≤ 1048576 := by omega
    go_wp2_with fail
    go_loopw [6] (fun i wr => ∃ j : Nat, j ≤ k ∧ i = .int .i64 j ∧ wr = w5) (fun i _ => k - (intOf i).toNat)
    case atStart => exact ⟨0, by omega, rfl, rfl⟩
    case round =>
      obtain ⟨j, hj, rfl, rfl⟩ := hrel
      by_cases hjl : j < k
      · obtain ⟨b0, off, rfl, hat⟩ := HP5.out (by have := HK.out; omega)
        obtain ⟨c, hc⟩ : ∃ c, P[j]? = some c := ⟨P[j]'(by have := HK.out; omega), List.getElem?_eq_getElem _⟩
        obtain ⟨x0, x1, _⟩ := RowCalls.at7 hat hc
        have hbz : b0 < wr.heap.size := World.block_lt_of_cell? _ _ x0
        have hno := G3.out j c hc
        have hj0 : (0 : Int) ≤ (j : Int) := by omega
        have hjk : (j : Int) < (k : Int) := by omega
        clear hat hc
        go_wp2_with fail
        go_roundw
        case rel => exact ⟨j + 1, by omega, by go_num, by trivial⟩
        case measure => simp [intOf]; omega
      · have e1 : j = k := by omega
        subst e1
        have hge : ¬ ((j : Int) < (j : Int)) := by omega
        go_wp2_with fail
        refine (HI2.out _ HP5.out).mono ?_
        rintro e w6 ⟨v6, rfl, ho6, hb6⟩
        unfold OwnCalls at ho6
        rw [HK.out] at ho6
        obtain ⟨A6, c6, rfl, _, _, _⟩ := own_form ho6
        have hq6 : RowCalls w6 A6 P := RowOf.of_own HK.out.symm (fun c _ => c.vals_len) ho6
        have HQ6 := Lib.hid hq6
        have HB6 := Lib.hid hb6
        clear ho6 hq6 hb6
        go_wp2_with fail
        refine (HE2.out _ _ _ HQ6.out (HP5.out.below HB6.out)).mono ?_
        rintro e w7 ⟨rfl, hb7⟩
        go_wp2_with fail
        go_ret
        exact ⟨rfl, below_trans' (below_trans' HB5.out HB6.out) hb7⟩
end Go.Proofs.Ytooojfdjpmfalaa
