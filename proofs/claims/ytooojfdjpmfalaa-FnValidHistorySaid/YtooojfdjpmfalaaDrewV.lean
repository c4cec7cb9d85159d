/-
  The law on what histories are, given what its draw leaves. Asked: the draw leaves a history of the call's own, of at most twenty calls.
-/
import Derived.Test.YtooojfdjpmfalaaDrewP
import Derived.Test.YtooojfdjpmfalaaWValidHistory
namespace Go.Proofs.Ytooojfdjpmfalaa
open Go.RowKit
set_option maxRecDepth 100000

theorem row_take {w : World} {A : Option Addr} {cs : List CallD} (h : RowCalls w A cs) (k : Nat) : RowCalls w A (cs.take k) := by
  intro hl
  obtain ⟨b, off, hA, hat⟩ := h (by rw [List.length_take] at hl; omega)
  exact ⟨b, off, hA, fun i c hi => hat i c (by rw [List.getElem?_take] at hi; split at hi; exact hi; cases hi)⟩

set_option maxHeartbeats 4000000 in
theorem law_ValidHistory (n : Nat) (A : Option Addr) (cap : Nat) (w : World) (hM : n ≤ 9223372036854775807)
    (hd : Calls Try.prog 38 #[.slice A n cap] w fun e w' => ∃ (v : Value) (cs : List CallD), e = .returned v ∧ DrewCalls w w' v cs) :
    Calls Try.prog 14 #[.slice A n cap] w fun e w' => e = .returned (.bool true) ∧ Below w.heap.size w w' := by
  have HD := Lib.hid hd
  clear hd
  by_cases hbig : 1048576 < n
  · have hI : (1048576 : Int) < (n : Int) := by omega
    go_enter Try.func14, Try.ntmps14
    go_wp2_with fail
    go_ret
    exact ⟨rfl, Below.refl _ _⟩
  have hI : ¬ ((1048576 : Int) < (n : Int)) := by omega
  go_enter Try.func14, Try.ntmps14
  go_wp2_with fail
  refine HD.out.mono ?_
  rintro e w1 ⟨v, cs, rfl, ho, hl, hb1⟩
  obtain ⟨Ao, co, rfl, hoc, hom, _⟩ := own_form ho
  have hrow : RowCalls w1 Ao cs := RowOf.of_own rfl (fun c _ => c.vals_len) ho
  have HRow := Lib.hid hrow
  have HB1 := Lib.hid hb1
  obtain ⟨q, hq⟩ : ∃ q, histB cs = q := ⟨_, rfl⟩
  have HV := Lib.hid (fun (W : World) (hW : RowCalls W Ao cs) => implValid_calls cs Ao co W hW (by omega) hoc q hq)
  have HS := Lib.hid (fun (W : World) (hW : RowCalls W Ao cs) => specValidHistory_calls cs Ao co W hW (by omega) q hq)
  clear ho hrow hb1 HD
  cases q
  · clear hq
    generalize cs.length = l at *
    go_wp2_with fail
    refine (HV.out _ HRow.out).mono ?_
    rintro e w2 ⟨rfl, hb2⟩
    have HB2 := Lib.hid (below_trans' HB1.out hb2)
    have HR2 := Lib.hid (HRow.out.below hb2)
    clear hb2
    go_wp2_with fail
    refine (HS.out _ HR2.out).mono ?_
    rintro e w3 ⟨rfl, hb3⟩
    have HR3 := Lib.hid (HR2.out.below hb3)
    go_wp2_with fail
    refine (HS.out _ HR3.out).mono ?_
    rintro e w4 ⟨rfl, hb4⟩
    go_wp2_with fail
    go_ret
    exact ⟨rfl, below_trans' (below_trans' HB2.out hb3) hb4⟩
  · have hV0 : histB (cs.filter (objB 0)) = true := histB_sub List.filter_sublist hq
    have e0 : partB cs 0 = cs.filter (objB 0) := by rw [partB, if_pos hq]
    have e1 : partB cs 1 = cs.filter (objB 1) := by rw [partB, if_pos hq]
    have hsum := part_len (hist_obj hq)
    have hVT : histB (cs.take (cs.length - 1)) = true := histB_sub (List.take_sublist _ _) hq
    have HT := Lib.hid (fun (W : World) (hW : RowCalls W Ao cs) (k : Nat) (hk : cs.length = k + 1) => (by
      have h1 : (cs.take (cs.length - 1)).length = k := by rw [List.length_take]; omega
      have h2 := implValid_calls (cs.take (cs.length - 1)) Ao co W (row_take hW _) (by omega) (by omega) true hVT
      rw [h1] at h2
      exact h2 : Calls Try.prog 25 #[.slice Ao k co] W fun e w' => e = .returned (.bool true) ∧ Below W.heap.size W w'))
    have HI0 := Lib.hid (fun (W : World) (hW : RowCalls W Ao cs) => e0 ▸ implPartOf_calls cs 0 Ao co W hW (by omega) hoc)
    have HI1 := Lib.hid (fun (W : World) (hW : RowCalls W Ao cs) => e1 ▸ implPartOf_calls cs 1 Ao co W hW (by omega) hoc)
    have hf0 := List.length_filter_le (objB 0) cs
    have HV0 := Lib.hid (fun (W : World) (B : Option Addr) (c : Nat) (hc : (cs.filter (objB 0)).length ≤ c) (hW : RowCalls W B (cs.filter (objB 0))) => implValid_calls (cs.filter (objB 0)) B c W hW (by omega) hc true hV0)
    clear hq hV0 e0 e1 hVT
    generalize cs.filter (objB 0) = P0 at *
    generalize cs.filter (objB 1) = P1 at *
    have HS2 := Lib.hid (show ((P0.length : Int) + (P1.length : Int) == (cs.length : Int)) = true by simp; omega)
    generalize cs.length = l at *
    go_wp2_with fail
    refine (HV.out _ HRow.out).mono ?_
    rintro e w2 ⟨rfl, hb2⟩
    have HB2 := Lib.hid (below_trans' HB1.out hb2)
    have HR2 := Lib.hid (HRow.out.below hb2)
    clear hb2
    go_wp2_with fail
    refine (HS.out _ HR2.out).mono ?_
    rintro e w3 ⟨rfl, hb3⟩
    have HB3 := Lib.hid (below_trans' HB2.out hb3)
    have HR3 := Lib.hid (HR2.out.below hb3)
    clear hb3 HV HS HR2 HB2
    rcases Nat.eq_zero_or_pos l with hl0 | hlp
    · have hz : ((l : Int) == 0) = true := by simp; omega
      have HZ := Lib.hid hl0
      clear hl0
      go_wp2_with fail
      refine (HI0.out _ HR3.out).mono ?_
      rintro e w6 ⟨v6, rfl, ho6, hb6⟩
      unfold OwnCalls at ho6
      obtain ⟨A6, c6, rfl, hc6, _, _⟩ := own_form ho6
      have HQ6 := Lib.hid (show RowCalls w6 A6 P0 from RowOf.of_own rfl (fun c _ => c.vals_len) ho6)
      have HB6 := Lib.hid (below_trans' HB3.out hb6)
      have HR6 := Lib.hid (HR3.out.below hb6)
      clear ho6 hb6
      go_wp2_with fail
      refine (HV0.out _ _ _ hc6 HQ6.out).mono ?_
      rintro e w7 ⟨rfl, hb7⟩
      have HB7 := Lib.hid (below_trans' HB6.out hb7)
      have HR7 := Lib.hid (HR6.out.below hb7)
      clear hb7
      go_wp2_with fail
      refine (HI0.out _ HR7.out).mono ?_
      rintro e w8 ⟨v8, rfl, ho8, hb8⟩
      unfold OwnCalls at ho8
      obtain ⟨A8, c8, rfl, hc8, _, _⟩ := own_form ho8
      have HB8 := Lib.hid (below_trans' HB7.out hb8)
      have HR8 := Lib.hid (HR7.out.below hb8)
      clear ho8 hb8
      go_wp2_with fail
      refine (HI1.out _ HR8.out).mono ?_
      rintro e w9 ⟨v9, rfl, ho9, hb9⟩
      unfold OwnCalls at ho9
      obtain ⟨A9, c9, rfl, hc9, _, _⟩ := own_form ho9
      have HB9 := Lib.hid (below_trans' HB8.out hb9)
      clear ho9 hb9
      have hl0i : (P0.length : Int) ≤ 20 := by omega
      have hl1i : (P1.length : Int) ≤ 20 := by omega
      have hs2 := HS2.out
      go_wp2_with fail
      go_ret
      exact ⟨rfl, HB9.out⟩
    · obtain ⟨k, hk⟩ : ∃ k, l = k + 1 := ⟨l - 1, by omega⟩
      have hz : ((l : Int) == 0) = false := by simp; omega
      have HT2 := Lib.hid (fun (W : World) (hW : RowCalls W Ao cs) => HT.out W hW k hk)
      have hk1 : (l : Int) - 1 = (k : Int) := by omega
      have hk0 : (0 : Int) ≤ (k : Int) := by omega
      have hkc : (k : Int) ≤ (co : Int) := by omega
      have hlk : k ≤ l := by omega
      have HK := Lib.hid hk
      clear hk hlp
      go_wp2_with fail
      refine (HT2.out _ HR3.out).mono ?_
      rintro e w5 ⟨rfl, hb5⟩
      have HB3 := Lib.hid (below_trans' HB3.out hb5)
      have HR3 := Lib.hid (HR3.out.below hb5)
      clear hb5
      go_wp2_with fail
      refine (HI0.out _ HR3.out).mono ?_
      rintro e w6 ⟨v6, rfl, ho6, hb6⟩
      unfold OwnCalls at ho6
      obtain ⟨A6, c6, rfl, hc6, _, _⟩ := own_form ho6
      have HQ6 := Lib.hid (show RowCalls w6 A6 P0 from RowOf.of_own rfl (fun c _ => c.vals_len) ho6)
      have HB6 := Lib.hid (below_trans' HB3.out hb6)
      have HR6 := Lib.hid (HR3.out.below hb6)
      clear ho6 hb6
      go_wp2_with fail
      refine (HV0.out _ _ _ hc6 HQ6.out).mono ?_
      rintro e w7 ⟨rfl, hb7⟩
      have HB7 := Lib.hid (below_trans' HB6.out hb7)
      have HR7 := Lib.hid (HR6.out.below hb7)
      clear hb7
      go_wp2_with fail
      refine (HI0.out _ HR7.out).mono ?_
      rintro e w8 ⟨v8, rfl, ho8, hb8⟩
      unfold OwnCalls at ho8
      obtain ⟨A8, c8, rfl, hc8, _, _⟩ := own_form ho8
      have HB8 := Lib.hid (below_trans' HB7.out hb8)
      have HR8 := Lib.hid (HR7.out.below hb8)
      clear ho8 hb8
      go_wp2_with fail
      refine (HI1.out _ HR8.out).mono ?_
      rintro e w9 ⟨v9, rfl, ho9, hb9⟩
      unfold OwnCalls at ho9
      obtain ⟨A9, c9, rfl, hc9, _, _⟩ := own_form ho9
      have HB9 := Lib.hid (below_trans' HB8.out hb9)
      clear ho9 hb9
      have hl0i : (P0.length : Int) ≤ 20 := by omega
      have hl1i : (P1.length : Int) ≤ 20 := by omega
      have hs2 := HS2.out
      go_wp2_with fail
      go_ret
      exact ⟨rfl, HB9.out⟩
end Go.Proofs.Ytooojfdjpmfalaa
