/-
  Whether two slices of accesses of one length are equal, as the law package asks it. No condition but lengths of at most 2 to the 20.
-/
import Derived.Test.YtooigcfdkmgjnaaAccessS
namespace Go.Proofs.Ytooigcfdkmgjnaa
open Go.RowKit
set_option maxRecDepth 100000

set_option maxHeartbeats 1000000 in
theorem equalAccesses_calls (cs ds : List AccessD) (n : Nat) (A B : Option Addr) (ca cb : Nat) (w : World) (ha : RowAccesss w A cs) (hbb : RowAccesss w B ds) (hn : cs.length = n) (hd : ds.length = n) (hl : n ≤ 1048576) (b : Bool) (hb : b = true ↔ cs = ds) :
    Calls Try.prog 37 #[.slice A n ca, .slice B n cb] w fun e w' => e = .returned (.bool b) ∧ Below w.heap.size w w' := by
  have HA := Lib.hid ha
  have HB := Lib.hid hbb
  have HN := Lib.hid hn
  have HD := Lib.hid hd
  have HV := Lib.hid hb
  clear ha hbb hn hd hb
  have hlen : (n : Int) ≤ 1048576 := by omega
  go_enter Try.func37, Try.ntmps37
  go_wp2
  go_loopw [5] (fun i wr => ∃ k : Nat, k ≤ n ∧ i = .int .i64 k ∧ Below w.heap.size w wr ∧ Hid (cs.take k = ds.take k)) (fun i _ => n - (intOf i).toNat)
  case atStart => exact ⟨0, by omega, rfl, Below.refl _ _, by show _ = _; simp⟩
  case round =>
    obtain ⟨k, hk, rfl, hb, HE⟩ := hrel
    by_cases hlt : k < n
    · obtain ⟨b1, o1, rfl, hat1⟩ := HA.out (by have := HN.out; omega)
      obtain ⟨b2, o2, rfl, hat2⟩ := HB.out (by have := HD.out; omega)
      obtain ⟨c, hc⟩ : ∃ c, cs[k]? = some c := ⟨cs[k]'(by have := HN.out; omega), List.getElem?_eq_getElem _⟩
      obtain ⟨d, hd⟩ : ∃ d, ds[k]? = some d := ⟨ds[k]'(by have := HD.out; omega), List.getElem?_eq_getElem _⟩
      obtain ⟨x0, x1, x2⟩ := (RowAccesss.at_ hat1 hc).below hb
      obtain ⟨y0, y1, y2⟩ := (RowAccesss.at_ hat2 hd).below hb
      have hz1 : b1 < wr.heap.size := World.block_lt_of_cell? _ _ x0
      have hz2 : b2 < wr.heap.size := World.block_lt_of_cell? _ _ y0
      have Hc := Lib.hid hc
      have Hd := Lib.hid hd
      have Hb := Lib.hid hb
      clear hat1 hat2 hc hd hb
      have hk0 : (0 : Int) ≤ (k : Int) := by omega
      have hkn : (k : Int) < (n : Int) := by omega
      have h3 : (c.session == d.session) = false ∨ ((c.session == d.session) = true ∧ (c.write == d.write) = false) ∨ ((c.session == d.session) = true ∧ (c.write == d.write) = true ∧ (c.seen == d.seen) = false) ∨ c = d := by
        by_cases q1 : c.session = d.session
        · by_cases q2 : c.write = d.write
          · by_cases q3 : c.seen = d.seen
            · right; right; right
              cases c; cases d
              simp only at q1 q2 q3
              rw [q1, q2, q3]
            · exact .inr (.inr (.inl ⟨by rw [q1]; exact BEq.rfl, by rw [q2]; exact BEq.rfl, by simpa using q3⟩))
          · exact .inr (.inl ⟨by rw [q1]; exact BEq.rfl, by simpa using q2⟩)
        · exact .inl (by simpa using q1)
      have HBad := Lib.hid (fun (h : c ≠ d) => show b = false by
        cases hbb : b
        · rfl
        · exfalso
          have e := HV.out.1 hbb
          have e1 := Hc.out
          rw [e, Hd.out] at e1
          injection e1 with e1
          exact h e1.symm)
      rcases h3 with h3 | ⟨h4, h3⟩ | ⟨h5, h4, h3⟩ | rfl
      · have e1 := HBad.out (by rintro rfl; simp at h3)
        subst e1
        go_wp2_with fail
        refine wp_region_grow (by kernel_rfl) (by kernel_rfl) ?_
        repeat (go_big_quiet_step (fail))
        refine wpQuiet_end ?_
        intro w3 hb3
        go_wp2_with fail
        go_ret
        exact ⟨rfl, below_trans' Hb.out hb3⟩
      · have e1 := HBad.out (by rintro rfl; simp at h3)
        subst e1
        go_wp2_with fail
        refine wp_region_grow (by kernel_rfl) (by kernel_rfl) ?_
        repeat (go_big_quiet_step (fail))
        refine wpQuiet_end ?_
        intro w3 hb3
        go_wp2_with fail
        go_ret
        exact ⟨rfl, below_trans' Hb.out hb3⟩
      · have e1 := HBad.out (by rintro rfl; simp at h3)
        subst e1
        go_wp2_with fail
        refine wp_region_grow (by kernel_rfl) (by kernel_rfl) ?_
        repeat (go_big_quiet_step (fail))
        refine wpQuiet_end ?_
        intro w3 hb3
        go_wp2_with fail
        go_ret
        exact ⟨rfl, below_trans' Hb.out hb3⟩
      · go_wp2_with fail
        refine wp_region_grow (by kernel_rfl) (by kernel_rfl) ?_
        repeat (go_big_quiet_step (fail))
        refine wpQuiet_end ?_
        intro w3 hb3
        go_wp2_with fail
        exact ⟨⟨k + 1, by omega, by go_num, below_trans' Hb.out hb3, by show _ = _; rw [List.take_add_one, List.take_add_one, Hc.out, Hd.out, HE.out]⟩, by simp [intOf]; omega⟩
    · have e1 : k = n := by omega
      subst e1
      have hge : ¬ ((k : Int) < (k : Int)) := by omega
      have e2 : b = true := by
        refine HV.out.2 ?_
        have := HE.out
        rwa [List.take_of_length_le (by have := HN.out; omega), List.take_of_length_le (by have := HD.out; omega)] at this
      subst e2
      go_wp2
      go_ret
      exact ⟨rfl, hb⟩
end Go.Proofs.Ytooigcfdkmgjnaa
