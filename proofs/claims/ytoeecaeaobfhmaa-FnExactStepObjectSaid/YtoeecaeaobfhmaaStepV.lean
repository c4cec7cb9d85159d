/-
  Which numbers are a state of an object, as the reference asks it: the same Lean function as the program's, for the names of objects. No condition but lengths of at most 2 to the 20.
-/
import Derived.Test.YtoeecaeaobfhmaaImW
namespace Go.Proofs.Ytoeecaeaobfhmaa
open Go.RowKit Go.Deep
set_option maxRecDepth 100000

set_option maxHeartbeats 4000000 in
theorem validState_calls (s : ByteArray) (isset : Bool) (hs : (s.toList == [115, 101, 116]) = isset) (one : Bool) (q1 : (s.toList == [114, 101, 103, 105, 115, 116, 101, 114]) = true ∨ (s.toList == [114, 101, 103, 105, 115, 116, 101, 114]) = false ∧ ((s.toList == [99, 111, 117, 110, 116, 101, 114]) = true ∨ (s.toList == [99, 111, 117, 110, 116, 101, 114]) = false ∧ (s.toList == [109, 111, 115, 116]) = one))
    (q2 : (s.toList == [114, 101, 103, 105, 115, 116, 101, 114]) = true ∨ (s.toList == [99, 111, 117, 110, 116, 101, 114]) = true → one = true) (st : List Int) (n : Nat) (A : Option Addr) (cap : Nat) (w : World) (hr : RowInts w A st) (hn : st.length = n) (hl : n ≤ 1048576) (hnc : n ≤ cap) (hcm : cap ≤ maxLen)
    (b : Bool) (hb : ((List.range st.length).all (stRow isset st) && decide (st.length ≤ if one then 1 else 20)) = b) :
    Calls Try.prog 69 #[.string s, .slice A n cap] w fun e w' => e = .returned (.bool b) ∧ Below w.heap.size w w' := by
  unfold maxLen at hcm
  have HR := Lib.hid hr
  have HN := Lib.hid hn
  have HBad := Lib.hid (show ∀ k, k < n → stRow isset st k = false → b = false from fun k hk h => by
    rw [← hb, Bool.and_eq_false_iff]
    exact .inl (all_range_false (by omega) h))
  have HGood := Lib.hid (show (List.range n).all (stRow isset st) = true → b = decide (n ≤ if one then 1 else 20) from fun h => by
    rw [← hb, hn, h]; rfl)
  have HQ1 := Lib.hid q1
  have HQ2 := Lib.hid q2
  clear hr hn hb q1 q2
  have hlen : (n : Int) ≤ 1048576 := by omega
  have hnc' : (n : Int) ≤ (cap : Int) := by omega
  have hcm' : (cap : Int) ≤ 9223372036854775807 := by omega
  go_enter Try.func69, Try.ntmps69
  go_wp2_with fail
  go_loopw [5] (fun i wr => ∃ k : Nat, k ≤ n ∧ i = .int .i64 k ∧ Hid ((List.range k).all (stRow isset st) = true) ∧ Below w.heap.size w wr) (fun i _ => n - (intOf i).toNat)
  case atStart => exact ⟨0, by omega, rfl, by show _ = _; simp, Below.refl _ _⟩
  case round =>
    obtain ⟨k, hk, rfl, HG, hbw⟩ := hrel
    obtain ⟨wo, rfl⟩ : ∃ wo : World, wo = wr := ⟨_, rfl⟩
    have HB := Lib.hid hbw
    by_cases hlt : k < n
    · obtain ⟨bk, off, rfl, hat⟩ := HR.out (by have := HN.out; omega)
      obtain ⟨x, hx⟩ : ∃ y, st[k]? = some y := ⟨st[k]'(by have := HN.out; omega), List.getElem?_eq_getElem _⟩
      have c0 := cell_below hbw (RowInts.at_ hat hx)
      have hbk := World.block_lt_of_cell? _ _ c0
      dsimp only at hbk
      have hgd : st.getD k 0 = x := by rw [List.getD, hx]; rfl
      have hrow : stRow isset st k = (inB x 0 20 && !(isset && (st.take k).any (· == x))) := by rw [stRow, hgd]
      obtain ⟨d, hd⟩ : ∃ d, (st.take k).any (· == x) = d := ⟨_, rfl⟩
      obtain ⟨r, hrr⟩ : ∃ r, inB x 0 20 = r := ⟨_, rfl⟩
      rw [hd, hrr] at hrow
      have HRow := Lib.hid hrow
      have HC := Lib.hid (fun (W : World) (hW : RowInts W (some ⟨bk, off, none⟩) (st.take k)) => hasInt_calls (st.take k) k (some ⟨bk, off, none⟩) cap x W hW (by rw [List.length_take]; have := HN.out; omega) (by omega) d hd)
      have HRT := Lib.hid ((HR.out.below hbw).take k)
      have HW := Lib.hid (fun (W : World) => hrr ▸ inRange_calls x 0 20 W)
      have HOk := Lib.hid (show stRow isset st k = true → Hid ((List.range (k + 1)).all (stRow isset st) = true) from fun h => by show _ = true; rw [all_range_succ, HG.out, h]; rfl)
      clear hat hx hgd hrow hd hrr hbw
      have hk0 : (0 : Int) ≤ (k : Int) := by omega
      have hkn : (k : Int) < (n : Int) := by omega
      have hkc : (k : Int) ≤ (cap : Int) := by omega
      rcases three_ways r isset d with q1 | ⟨q1, q2⟩ | ⟨q1, q2, q3⟩ | ⟨q1, q2, q3⟩
      · subst q1
        have hbf := HBad.out k hlt (by rw [HRow.out]; rfl)
        subst hbf
        go_wp2_with fail
        refine wp_region_grow (by kernel_rfl) (by kernel_rfl) ?_
        repeat (go_big_quiet_step ((go_at_call 76; exact Calls.ext_same (HW.out _))))
        refine wpQuiet_end ?_
        intro w1 hb1
        go_wp2_with fail
        go_ret
        exact ⟨rfl, below_trans' HB.out hb1⟩
      · subst q1 q2
        have hq := HOk.out (by rw [HRow.out]; rfl)
        go_wp2_with fail
        refine wp_region_grow (by kernel_rfl) (by kernel_rfl) ?_
        repeat (go_big_quiet_step ((go_at_call 76; exact Calls.ext_same (HW.out _))))
        refine wpQuiet_end ?_
        intro w1 hb1
        go_wp2_with fail
        go_roundw
        case rel => exact ⟨k + 1, by omega, by go_num, hq, below_trans' HB.out hb1⟩
        case measure => simp [intOf]; omega
      · subst q1 q2 q3
        have hq := HOk.out (by rw [HRow.out]; rfl)
        go_wp2_with fail
        refine wp_region_grow (by kernel_rfl) (by kernel_rfl) ?_
        repeat (go_big_quiet_step ((first
          | (go_at_call 76; with_reducible exact Calls.ext_same (HW.out _))
          | (go_at_call 77; with_reducible exact Calls.ext_same (HC.out _ (HRT.out.below (Wx.h _)))))))
        refine wpQuiet_end ?_
        intro w1 hb1
        go_wp2_with fail
        go_roundw
        case rel => exact ⟨k + 1, by omega, by go_num, hq, below_trans' HB.out hb1⟩
        case measure => simp [intOf]; omega
      · subst q1 q2 q3
        have hbf := HBad.out k hlt (by rw [HRow.out]; rfl)
        subst hbf
        go_wp2_with fail
        refine wp_region_grow (by kernel_rfl) (by kernel_rfl) ?_
        repeat (go_big_quiet_step ((first
          | (go_at_call 76; with_reducible exact Calls.ext_same (HW.out _))
          | (go_at_call 77; with_reducible exact Calls.ext_same (HC.out _ (HRT.out.below (Wx.h _)))))))
        refine wpQuiet_end ?_
        intro w1 hb1
        go_wp2_with fail
        go_ret
        exact ⟨rfl, below_trans' HB.out hb1⟩
    · have e1 : k = n := by omega
      subst e1
      have hge : ¬ ((k : Int) < (k : Int)) := by omega
      have hbv := HGood.out HG.out
      have HBV := Lib.hid hbv
      clear hbv hbw
      have close : ∀ z : Nat, (if one then 1 else 20) = z → b = decide ((k : Int) ≤ (z : Int)) := fun z hz => by
        rw [HBV.out, hz]
        rw [Bool.eq_iff_iff]
        simp only [decide_eq_true_eq]
        omega
      have HC := Lib.hid close
      clear close
      rcases HQ1.out with q | ⟨q0, q | ⟨q', q⟩⟩
      · have e1 := HQ2.out (.inl q)
        have HE := Lib.hid (HC.out 1 (by rw [e1]; rfl))
        clear e1
        go_wp2_with fail
        go_ret
        exact ⟨by rw [HE.out]; rfl, HB.out⟩
      · have e1 := HQ2.out (.inr q)
        have HE := Lib.hid (HC.out 1 (by rw [e1]; rfl))
        clear e1
        go_wp2_with fail
        go_ret
        exact ⟨by rw [HE.out]; rfl, HB.out⟩
      · cases one
        · have HE := Lib.hid (HC.out 20 rfl)
          go_wp2_with fail
          go_ret
          exact ⟨by rw [HE.out]; rfl, HB.out⟩
        · have HE := Lib.hid (HC.out 1 rfl)
          go_wp2_with fail
          go_ret
          exact ⟨by rw [HE.out]; rfl, HB.out⟩

theorem obB_some (o : Ob) (n : Nat) : obB (some o) n = decide (n ≤ if o.one then 1 else 20) := by
  unfold obB
  cases o <;> simp [Ob.one] <;> omega
theorem isset_of {s : ByteArray} {o : Ob} (h : obOf s = some o) : (s.toList == [115, 101, 116]) = (match o with | .set => true | _ => false) := by
  rw [obOf_text h]
  cases o <;> rfl
/-- The reference's question, for the name of an object. -/
theorem validState_of (o : Ob) (s : ByteArray) (hs : obOf s = some o) (st : List Int) (n : Nat) (A : Option Addr) (cap : Nat) (w : World) (hr : RowInts w A st) (hn : st.length = n) (hl : n ≤ 1048576) (hnc : n ≤ cap) (hcm : cap ≤ maxLen) (b : Bool) (hb : stB (s.toList == [115, 101, 116]) (some o) st = b) :
    Calls Try.prog 69 #[.string s, .slice A n cap] w fun e w' => e = .returned (.bool b) ∧ Below w.heap.size w w' := by
  have ht := obOf_text hs
  refine validState_calls s _ rfl o.one ?_ ?_ st n A cap w hr hn hl hnc hcm b ?_
  · rw [ht]
    cases o
    · exact .inl (by decide)
    · exact .inr ⟨by decide, .inr ⟨by decide, by decide⟩⟩
    · exact .inr ⟨by decide, .inr ⟨by decide, by decide⟩⟩
    · exact .inr ⟨by decide, .inl (by decide)⟩
    · exact .inr ⟨by decide, .inr ⟨by decide, by decide⟩⟩
    · exact .inr ⟨by decide, .inr ⟨by decide, by decide⟩⟩
  · rw [ht]
    cases o
    · exact fun _ => rfl
    · intro h; exact absurd h (by decide)
    · intro h; exact absurd h (by decide)
    · exact fun _ => rfl
    · intro h; exact absurd h (by decide)
    · exact fun _ => rfl
  · rw [← hb, stB, obB_some]
end Go.Proofs.Ytoeecaeaobfhmaa
