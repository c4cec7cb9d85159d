/-
  Which numbers are a state of an object, as the program and the reference ask it: the same Lean function. No condition but lengths of at most 2 to the 20.
-/
import Derived.Test.YtoeecaeaobfhmaaImV
import Derived.Test.YtoeecaeaobfhmaaOrd
namespace Go.Proofs.Ytoeecaeaobfhmaa
open Go.RowKit Go.Deep
set_option maxRecDepth 100000

/-- Number i may stand in a state. -/
def stRow (isset : Bool) (st : List Int) (i : Nat) : Bool := inB (st.getD i 0) 0 20 && !(isset && (st.take i).any (· == st.getD i 0))
def obB (o : Option Ob) (n : Nat) : Bool := o.isSome && decide (n ≤ 20) && (!(o.any Ob.one) || decide (n ≤ 1))
def stB (isset : Bool) (o : Option Ob) (st : List Int) : Bool := (List.range st.length).all (stRow isset st) && obB o st.length
theorem isObjI_calls (s : ByteArray) (w : World) : Calls Try.prog 81 #[.string s] w fun e w' => e = .returned (.bool (obOf s).isSome) ∧ w = w' := by
  have HS := Lib.hid (fun (W : World) => isSingle_calls s W)
  cases h : obOf s with
  | none =>
    have q2 : (s.toList == [113, 117, 101, 117, 101]) = false := beq_eq_false_iff_ne.2 (obOf_none h .queue)
    have q3 : (s.toList == [115, 116, 97, 99, 107]) = false := beq_eq_false_iff_ne.2 (obOf_none h .stack)
    have q5 : (s.toList == [115, 101, 116]) = false := beq_eq_false_iff_ne.2 (obOf_none h .set)
    have HQ := Lib.hid (fun (W : World) => h ▸ HS.out W)
    clear h HS
    go_enter Try.func81, Try.ntmps81
    go_wp2_with fail
    refine (HQ.out _).mono ?_
    rintro e w1 ⟨rfl, rfl⟩
    go_wp2_with fail
    go_ret
    exact ⟨rfl, rfl⟩
  | some o =>
    have ht := obOf_text h
    have HQ := Lib.hid (fun (W : World) => h ▸ HS.out W)
    clear h HS
    cases o
    all_goals
      unfold Ob.text at ht
      go_enter Try.func81, Try.ntmps81
      go_wp2_with fail
      refine (HQ.out _).mono ?_
      rintro e w1 ⟨rfl, rfl⟩
      go_wp2_with fail
      go_ret
      exact ⟨rfl, rfl⟩

theorem three_ways (r i d : Bool) : r = false ∨ (r = true ∧ i = false) ∨ (r = true ∧ i = true ∧ d = false) ∨ (r = true ∧ i = true ∧ d = true) := by
  cases r <;> cases i <;> cases d <;> simp
set_option maxHeartbeats 4000000 in
theorem isState_calls (s : ByteArray) (isset : Bool) (hs : (s.toList == [115, 101, 116]) = isset) (st : List Int) (n : Nat) (A : Option Addr) (cap : Nat) (w : World) (hr : RowInts w A st) (hn : st.length = n) (hl : n ≤ 1048576) (hnc : n ≤ cap) (hcm : cap ≤ maxLen) (b : Bool) (hb : stB isset (obOf s) st = b) :
    Calls Try.prog 72 #[.string s, .slice A n cap] w fun e w' => e = .returned (.bool b) ∧ Below w.heap.size w w' := by
  unfold maxLen at hcm
  have HR := Lib.hid hr
  have HN := Lib.hid hn
  have HV := Lib.hid hb
  have HI := Lib.hid (fun (W : World) => isObjI_calls s W)
  have HS := Lib.hid (fun (W : World) => isSingle_calls s W)
  have HBad := Lib.hid (show ∀ k, k < n → stRow isset st k = false → b = false from fun k hk h => by
    rw [← hb, stB, Bool.and_eq_false_iff]
    exact .inl (all_range_false (by omega) h))
  have HGood := Lib.hid (show (List.range n).all (stRow isset st) = true → b = obB (obOf s) n from fun h => by
    rw [← hb, stB, hn, h]; rfl)
  clear hr hn hb
  have hlen : (n : Int) ≤ 1048576 := by omega
  have hnc' : (n : Int) ≤ (cap : Int) := by omega
  have hcm' : (cap : Int) ≤ 9223372036854775807 := by omega
  go_enter Try.func72, Try.ntmps72
  go_wp2_with fail
  go_loopw [9] (fun i wr => ∃ k : Nat, k ≤ n ∧ i = .int .i64 k ∧ Hid ((List.range k).all (stRow isset st) = true) ∧ Below w.heap.size w wr) (fun i _ => n - (intOf i).toNat)
  case atStart => exact ⟨0, by omega, rfl, by show _ = _; simp, Below.refl _ _⟩
  case round =>
    obtain ⟨k, hk, rfl, HG, hbw⟩ := hrel
    obtain ⟨wo, rfl⟩ : ∃ wo : World, wo = wr := ⟨_, rfl⟩
    have HB := Lib.hid hbw
    by_cases hlt : k < n
    · obtain ⟨bk, off, rfl, hat⟩ := HR.out (by have := HN.out; omega)
      obtain ⟨x, hx⟩ : ∃ y, st[k]? = some y := ⟨st[k]'(by have := HN.out; omega), List.getElem?_eq_getElem _⟩
      have c0 := cell_below hbw (RowInts.at_ hat hx)
      have hgd : st.getD k 0 = x := by rw [List.getD, hx]; rfl
      have hrow : stRow isset st k = (inB x 0 20 && !(isset && (st.take k).any (· == x))) := by rw [stRow, hgd]
      obtain ⟨d, hd⟩ : ∃ d, (st.take k).any (· == x) = d := ⟨_, rfl⟩
      obtain ⟨r, hrr⟩ : ∃ r, inB x 0 20 = r := ⟨_, rfl⟩
      rw [hd, hrr] at hrow
      have HRow := Lib.hid hrow
      have HC := Lib.hid (fun (W : World) (hW : RowInts W (some ⟨bk, off, none⟩) (st.take k)) => contains_int (st.take k) k (some ⟨bk, off, none⟩) cap x W hW (by rw [List.length_take]; have := HN.out; omega) (by omega) d hd)
      have HRT := Lib.hid ((HR.out.below hbw).take k)
      have HW := Lib.hid (fun (W : World) => hrr ▸ within_calls x 0 20 W)
      have HOk := Lib.hid (show stRow isset st k = true → Hid ((List.range (k + 1)).all (stRow isset st) = true) from fun h => by show _ = true; rw [all_range_succ, HG.out, h]; rfl)
      clear hat hx hgd hrow hd hrr hbw
      have hk0 : (0 : Int) ≤ (k : Int) := by omega
      have hkn : (k : Int) < (n : Int) := by omega
      have hkc : (k : Int) ≤ (cap : Int) := by omega
      rcases three_ways r isset d with q1 | ⟨q1, q2⟩ | ⟨q1, q2, q3⟩ | ⟨q1, q2, q3⟩
      · subst q1
        have hbf := HBad.out k hlt (by rw [HRow.out]; rfl)
        subst hbf
        go_wp2_with (go_at_call 78; refine (HW.out _).mono ?_; rintro e w1 ⟨rfl, rfl⟩)
        go_ret
        exact ⟨rfl, HB.out⟩
      · subst q1 q2
        have hq := HOk.out (by rw [HRow.out]; rfl)
        go_wp2_with (go_at_call 78; refine (HW.out _).mono ?_; rintro e w1 ⟨rfl, rfl⟩)
        go_roundw
        case rel => exact ⟨k + 1, by omega, by go_num, hq, HB.out⟩
        case measure => simp [intOf]; omega
      · subst q1 q2 q3
        have hq := HOk.out (by rw [HRow.out]; rfl)
        go_wp2_with (first
          | (go_at_call 78; with_reducible refine (HW.out _).mono ?_; rintro e w1 ⟨rfl, rfl⟩)
          | (go_at_call 79; with_reducible refine (HC.out _ HRT.out).mono ?_; rintro e w1 ⟨rfl, rfl⟩))
        go_roundw
        case rel => exact ⟨k + 1, by omega, by go_num, hq, HB.out⟩
        case measure => simp [intOf]; omega
      · subst q1 q2 q3
        have hbf := HBad.out k hlt (by rw [HRow.out]; rfl)
        subst hbf
        go_wp2_with (first
          | (go_at_call 78; with_reducible refine (HW.out _).mono ?_; rintro e w1 ⟨rfl, rfl⟩)
          | (go_at_call 79; with_reducible refine (HC.out _ HRT.out).mono ?_; rintro e w1 ⟨rfl, rfl⟩))
        go_ret
        exact ⟨rfl, HB.out⟩
    · have e1 : k = n := by omega
      subst e1
      have hge : ¬ ((k : Int) < (k : Int)) := by omega
      have hbv := HGood.out HG.out
      have HBV := Lib.hid hbv
      clear hbv hbw
      obtain ⟨a, ha⟩ : ∃ a, (obOf s).isSome = a := ⟨_, rfl⟩
      obtain ⟨d, hd⟩ : ∃ d, (obOf s).any Ob.one = d := ⟨_, rfl⟩
      have HIa := Lib.hid (fun (W : World) => ha ▸ HI.out W)
      have HSd := Lib.hid (fun (W : World) => hd ▸ HS.out W)
      have HBe := Lib.hid (show b = (a && decide (k ≤ 20) && (!d || decide (k ≤ 1))) by rw [HBV.out, obB, ha, hd])
      clear ha hd HI HS HBV
      cases a
      · have hbf := HBe.out
        simp only [Bool.false_and] at hbf
        subst hbf
        go_wp2_with (go_at_call 81; refine (HIa.out _).mono ?_; rintro e w1 ⟨rfl, rfl⟩)
        go_ret
        exact ⟨rfl, HB.out⟩
      · by_cases h20 : k ≤ 20
        · have i20 : (k : Int) ≤ 20 := by omega
          have d20 : decide ((k : Int) ≤ 20) = true := by simpa using i20
          cases d
          · have hbf := HBe.out
            simp only [decide_eq_true h20, Bool.not_false, Bool.true_or, Bool.and_true] at hbf
            subst hbf
            go_wp2_with (first
              | (go_at_call 81; with_reducible refine (HIa.out _).mono ?_; rintro e w1 ⟨rfl, rfl⟩)
              | (go_at_call 82; with_reducible refine (HSd.out _).mono ?_; rintro e w1 ⟨rfl, rfl⟩))
            go_ret
            exact ⟨rfl, HB.out⟩
          · by_cases h1 : k ≤ 1
            · have i1 : (k : Int) ≤ 1 := by omega
              have hbf := HBe.out
              simp only [decide_eq_true h20, decide_eq_true h1, Bool.or_true, Bool.and_true] at hbf
              subst hbf
              go_wp2_with (first
                | (go_at_call 81; with_reducible refine (HIa.out _).mono ?_; rintro e w1 ⟨rfl, rfl⟩)
                | (go_at_call 82; with_reducible refine (HSd.out _).mono ?_; rintro e w1 ⟨rfl, rfl⟩))
              go_ret
              exact ⟨rfl, HB.out⟩
            · have i1 : ¬ ((k : Int) ≤ 1) := by omega
              have d1 : decide ((k : Int) ≤ 1) = false := by simpa using i1
              have hbf := HBe.out
              simp only [decide_eq_true h20, decide_eq_false h1, Bool.not_true, Bool.or_false, Bool.and_false] at hbf
              subst hbf
              go_wp2_with (first
                | (go_at_call 81; with_reducible refine (HIa.out _).mono ?_; rintro e w1 ⟨rfl, rfl⟩)
                | (go_at_call 82; with_reducible refine (HSd.out _).mono ?_; rintro e w1 ⟨rfl, rfl⟩))
              go_ret
              exact ⟨rfl, HB.out⟩
        · have i20 : ¬ ((k : Int) ≤ 20) := by omega
          have d20 : decide ((k : Int) ≤ 20) = false := by simpa using i20
          have hbf := HBe.out
          simp only [decide_eq_false h20, Bool.and_false, Bool.false_and] at hbf
          subst hbf
          go_wp2_with (go_at_call 81; refine (HIa.out _).mono ?_; rintro e w1 ⟨rfl, rfl⟩)
          go_ret
          exact ⟨rfl, HB.out⟩
end Go.Proofs.Ytoeecaeaobfhmaa
