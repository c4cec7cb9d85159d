/-
  Whether a read breaks a promise, as the program asks its struct of sessions. Asked: valid accesses.
-/
import Derived.Test.YtooigcfdkmgjnaaAddS
import Derived.Test.YtooigcfdkmgjnaaBrkQ
import Derived.OwnWalk
namespace Go.Proofs.Ytooigcfdkmgjnaa
open Go.RowKit
set_option maxRecDepth 100000

theorem andNot_test (a b : Nat) (ha : a < 2 ^ 20) (hb : b < 2 ^ 20) : ∃ q : Nat, bits .andNot .i64 (a : Int) (b : Int) = (q : Int) ∧ ((q : Int) != 0) = !subN a b := by
  refine ⟨a ^^^ (a &&& b), i64_andNot_nat a b (by omega) (by omega), ?_⟩
  rw [Bool.eq_iff_iff, bne_iff_ne, ne_eq, Bool.not_eq_true', subN, beq_eq_false_iff_ne, ne_eq, ← xor_and_zero]
  omega
theorem lacks_at {L : List Nat} {seen n : Nat} (hn : n < L.length) (h : (bitN seen n == 1 && !subN (L.getD n 0) seen) = true) : lacks L seen = true :=
  List.any_eq_true.2 ⟨n, List.mem_range.2 hn, h⟩
theorem any_range_succ (p : Nat → Bool) (k : Nat) : (List.range (k + 1)).any p = ((List.range k).any p || p k) := by
  rw [List.range_succ, List.any_append]; simp

set_option maxHeartbeats 2000000 in
theorem breaks_own (p : ByteArray) (hp : p.toList = [111, 119, 110]) (cs : List AccessD) (hv : accB cs = true) (B g i : Nat) (c : AccessD) (hc : cs[i]? = some c) (w : World) (k : SessAt w B g cs i) (b : Bool) (hb : brk .own cs i = b) :
    Calls Try.prog 54 #[.pointer (some ⟨g, 0, none⟩), .string p, c.val] w fun e w' => e = .returned (.bool b) ∧ Below w.heap.size w w' := by
  have hi : i < cs.length := (List.getElem?_eq_some_iff.1 hc).1
  obtain ⟨s, hs, hs3⟩ := acc_session hv hc
  obtain ⟨sn, hn, hnl⟩ := acc_seen hv hc
  have hten := wrN_ten hv i
  have hp10 : 2 ^ wrN cs i ≤ 2 ^ 10 := Nat.pow_le_pow_right (by omega) hten
  have hm := mineK_lt cs (s : Int) i (by omega)
  obtain ⟨Ar, cr, Af, cf, Ac, cc, cm, ch, c6, c7, c8, _, _, _, _, hgz, _, _⟩ := k.cells
  have cx := cm s hs3
  obtain ⟨q, hq, hq2⟩ := andNot_test (mineK cs (s : Int) i) sn (by omega) (by omega)
  have hb' : ((q : Int) != 0) = b := by
    rw [hq2, ← hb, brk, seenN, aAt_eq hc, hs, hn, Int.toNat_natCast]
  have hval : c.val = .agg #[.int .i64 s, .bool c.write, .int .i64 sn] := by simp only [AccessD.val, hs, hn]
  rw [hval]
  clear hb hq2 hm hp10 hten cm ch c6 c7 c8 k hc hs hn hnl hval
  generalize mineK cs (s : Int) i = M at *
  have hs0 : (0 : Int) ≤ (s : Int) := by omega
  have hs3' : (s : Int) < 3 := by omega
  generalize c.write = wf at *
  go_enter Try.func54, Try.ntmps54
  go_wp2_with fail
  refine wp_region_grow (by kernel_rfl) (by kernel_rfl) ?_
  repeat (go_big_quiet_step (fail))
  refine wpQuiet_end ?_
  intro w3 hb3
  go_wp2_with fail
  go_ret
  exact ⟨rfl, below_trans' (below_alloc (Below.refl _ _) _) hb3⟩

set_option maxHeartbeats 2000000 in
theorem breaks_steady (p : ByteArray) (hp : p.toList = [115, 116, 101, 97, 100, 121]) (cs : List AccessD) (hv : accB cs = true) (B g i : Nat) (c : AccessD) (hc : cs[i]? = some c) (w : World) (k : SessAt w B g cs i) (b : Bool) (hb : brk .steady cs i = b) :
    Calls Try.prog 54 #[.pointer (some ⟨g, 0, none⟩), .string p, c.val] w fun e w' => e = .returned (.bool b) ∧ Below w.heap.size w w' := by
  have hi : i < cs.length := (List.getElem?_eq_some_iff.1 hc).1
  obtain ⟨s, hs, hs3⟩ := acc_session hv hc
  obtain ⟨sn, hn, hnl⟩ := acc_seen hv hc
  have hten := wrN_ten hv i
  have hp10 : 2 ^ wrN cs i ≤ 2 ^ 10 := Nat.pow_le_pow_right (by omega) hten
  have hm := seenK_lt hv (s : Int) i (by omega)
  obtain ⟨Ar, cr, Af, cf, Ac, cc, cm, ch, c6, c7, c8, _, _, _, _, hgz, _, _⟩ := k.cells
  have cx := ch s hs3
  obtain ⟨q, hq, hq2⟩ := andNot_test (seenK cs (s : Int) i) sn (by omega) (by omega)
  have hb' : ((q : Int) != 0) = b := by
    rw [hq2, ← hb, brk, seenN, aAt_eq hc, hs, hn, Int.toNat_natCast]
  have hval : c.val = .agg #[.int .i64 s, .bool c.write, .int .i64 sn] := by simp only [AccessD.val, hs, hn]
  rw [hval]
  clear hb hq2 hm hp10 hten cm ch c6 c7 c8 k hc hs hn hnl hval
  generalize seenK cs (s : Int) i = M at *
  have hs0 : (0 : Int) ≤ (s : Int) := by omega
  have hs3' : (s : Int) < 3 := by omega
  generalize c.write = wf at *
  go_enter Try.func54, Try.ntmps54
  go_wp2_with fail
  refine wp_region_grow (by kernel_rfl) (by kernel_rfl) ?_
  repeat (go_big_quiet_step (fail))
  refine wpQuiet_end ?_
  intro w3 hb3
  go_wp2_with fail
  go_ret
  exact ⟨rfl, below_trans' (below_alloc (Below.refl _ _) _) hb3⟩

set_option maxHeartbeats 4000000 in
theorem breaks_row (p : ByteArray) (hp : p.toList = [114, 111, 119]) (cs : List AccessD) (hv : accB cs = true) (B g i : Nat) (c : AccessD) (hc : cs[i]? = some c) (w : World) (k : SessAt w B g cs i) (b : Bool) (hb : brk .row cs i = b) :
    Calls Try.prog 54 #[.pointer (some ⟨g, 0, none⟩), .string p, c.val] w fun e w' => e = .returned (.bool b) ∧ Below w.heap.size w w' := by
  have hi : i < cs.length := (List.getElem?_eq_some_iff.1 hc).1
  obtain ⟨s, hs, hs3⟩ := acc_session hv hc
  obtain ⟨sn, hn, hnl⟩ := acc_seen hv hc
  have hten := wrN_ten hv i
  have hp10 : 2 ^ wrN cs i ≤ 2 ^ 10 := Nat.pow_le_pow_right (by omega) hten
  have hll : (rowN cs i).length ≤ 10 := by rw [rowN_len cs i (by omega)]; exact hten
  have hlow : ∀ n, (rowN cs i).getD n 0 < 2 ^ 10 := by
    intro n
    by_cases hnw : n < wrN cs i
    · exact Nat.lt_of_lt_of_le (rowN_low cs i (by omega) n hnw) (Nat.pow_le_pow_right (by omega) (by omega))
    · rw [List.getD, List.getElem?_eq_none (by rw [rowN_len cs i (by omega)]; omega)]; exact Nat.two_pow_pos _
  obtain ⟨Ar, cr, Af, cf, Ac, cc, cm, ch, c6, c7, c8, rR, rF, _, _, hgz, lR, lF⟩ := k.cells
  have hb' : lacks (rowN cs i) sn = b := by
    rw [← hb, brk, seenN, aAt_eq hc, hn, Int.toNat_natCast]
  have hval : c.val = .agg #[.int .i64 s, .bool c.write, .int .i64 sn] := by simp only [AccessD.val, hs, hn]
  rw [hval]
  have hsn20 : sn < 2 ^ 20 := by omega
  have hsn60 : sn < 2 ^ 60 := by omega
  have HR := Lib.hid rR
  have HV := Lib.hid hb'
  have HLow := Lib.hid hlow
  clear hb hp10 hten cm ch c8 k hc hs hn hval hb' hlow rR rF
  obtain ⟨l, hl⟩ : ∃ l, (rowN cs i).length = l := ⟨_, rfl⟩
  have Hl := Lib.hid hl
  obtain ⟨l6, hl6⟩ : ∃ l, (folN cs i).length = l := ⟨_, rfl⟩
  rw [hl] at hll
  rw [hl] at lR
  simp only [hl, hl6] at c6 c7
  clear hl hl6
  generalize rowN cs i = L at *
  have hs0 : (0 : Int) ≤ (s : Int) := by omega
  have hs3' : (s : Int) < 3 := by omega
  have hl10 : (l : Int) ≤ 10 := by omega
  generalize c.write = wf at *
  go_enter Try.func54, Try.ntmps54
  go_wp2_with fail
  have Hgz := Lib.hid hgz
  clear c6 c7
  go_loopw [49] (fun j wq => ∃ n : Nat, n ≤ l ∧ j = .int .i64 n ∧ wq = (w.alloc (.cells #[.int .i64 s, .bool wf, .int .i64 sn] 44)) ∧ Hid ((List.range n).any (fun n => bitN sn n == 1 && !subN (L.getD n 0) sn) = false)) (fun j _ => l - (intOf j).toNat)
  case atStart => exact ⟨0, by omega, rfl, rfl, rfl⟩
  case round =>
    obtain ⟨n, hnl2, rfl, rfl, HG⟩ := hrel
    by_cases hlt : n < l
    · obtain ⟨gb, goff, hA, hgat⟩ := HR.out (by rw [List.length_map, Hl.out]; omega)
      have hget : (L.map Int.ofNat)[n]? = some ((L.getD n 0 : Nat) : Int) := by
        rw [List.getElem?_map, List.getD, List.getElem?_eq_getElem (by rw [Hl.out]; exact hlt)]; rfl
      have r0 := RowInts.at_ hgat hget
      have hgb : gb < w.heap.size := World.block_lt_of_cell? _ _ r0
      subst hA
      have hx : (w.alloc (.cells #[.int .i64 s, .bool wf, .int .i64 sn] 44)).cell? ⟨gb, goff + n, none⟩ = some (.int .i64 ((L.getD n 0 : Nat) : Int)) := cell_below (below_alloc (Below.refl _ _) _) r0
      have hlo := HLow.out n
      obtain ⟨q, hq, hq2⟩ := andNot_test (L.getD n 0) sn (by omega) (by omega)
      have hst : (List.range (n + 1)).any (fun n => bitN sn n == 1 && !subN (L.getD n 0) sn) = (bitN sn n == 1 && ((q : Int) != 0)) := by rw [any_range_succ, HG.out, hq2]; rfl
      have hit : (bitN sn n == 1 && ((q : Int) != 0)) = true → b = true := fun e => by
        rw [← HV.out]
        exact lacks_at (by rw [Hl.out]; exact hlt) (by rw [← hq2]; exact e)
      have hbit := bit_and hsn60 n
      have hbl := bitN_le sn n
      generalize bitN sn n = bb at *
      generalize L.getD n 0 = t at *
      have Hst := Lib.hid hst
      have Hit := Lib.hid hit
      clear hgat hget r0 hst hit hlo hq2
      have hn0 : (0 : Int) ≤ (n : Int) := by omega
      have hn64 : (n : Int) ≤ 64 := by omega
      have hnl3 : (n : Int) < (l : Int) := by omega
      have hbb : bb = 0 ∨ bb = 1 := by omega
      rcases hbb with rfl | rfl
      · have Hq : Hid ((List.range (n + 1)).any (fun n => bitN sn n == 1 && !subN (L.getD n 0) sn) = false) := by show _ = _; rw [Hst.out]; rfl
        clear hq
        go_wp2
        go_roundw
        case rel => exact ⟨n + 1, by omega, by go_num, trivial, Hq⟩
        case measure => simp [intOf]; omega
      · obtain ⟨b1, hb1⟩ : ∃ b1, ((q : Int) != 0) = b1 := ⟨_, rfl⟩
        rw [hb1] at Hst Hit
        cases b1
        · have Hq : Hid ((List.range (n + 1)).any (fun n => bitN sn n == 1 && !subN (L.getD n 0) sn) = false) := by show _ = _; rw [Hst.out]; rfl
          go_wp2
          go_roundw
          case rel => exact ⟨n + 1, by omega, by go_num, trivial, Hq⟩
          case measure => simp [intOf]; omega
        · have Hq := Lib.hid (Hit.out rfl)
          go_wp2
          go_ret
          exact ⟨by rw [Hq.out]; rfl, below_alloc (Below.refl _ _) _⟩
    · have e1 : n = l := by omega
      subst e1
      have hge : ¬ ((n : Int) < (n : Int)) := by omega
      have e2 : b = false := by rw [← HV.out, lacks, Hl.out]; exact HG.out
      subst e2
      go_wp2
      go_ret
      exact ⟨rfl, below_alloc (Below.refl _ _) _⟩

set_option maxHeartbeats 4000000 in
theorem breaks_follow (p : ByteArray) (hp : p.toList = [102, 111, 108, 108, 111, 119]) (cs : List AccessD) (hv : accB cs = true) (B g i : Nat) (c : AccessD) (hc : cs[i]? = some c) (w : World) (k : SessAt w B g cs i) (b : Bool) (hb : brk .follow cs i = b) :
    Calls Try.prog 54 #[.pointer (some ⟨g, 0, none⟩), .string p, c.val] w fun e w' => e = .returned (.bool b) ∧ Below w.heap.size w w' := by
  have hi : i < cs.length := (List.getElem?_eq_some_iff.1 hc).1
  obtain ⟨s, hs, hs3⟩ := acc_session hv hc
  obtain ⟨sn, hn, hnl⟩ := acc_seen hv hc
  have hten := wrN_ten hv i
  have hp10 : 2 ^ wrN cs i ≤ 2 ^ 10 := Nat.pow_le_pow_right (by omega) hten
  have hll : (folN cs i).length ≤ 10 := by rw [folN_len cs i (by omega)]; exact hten
  have hlow : ∀ n, (folN cs i).getD n 0 < 2 ^ 10 := by
    intro n
    by_cases hnw : n < wrN cs i
    · exact Nat.lt_of_lt_of_le (folN_low hv i (by omega) n hnw) (Nat.pow_le_pow_right (by omega) (by omega))
    · rw [List.getD, List.getElem?_eq_none (by rw [folN_len cs i (by omega)]; omega)]; exact Nat.two_pow_pos _
  obtain ⟨Ar, cr, Af, cf, Ac, cc, cm, ch, c6, c7, c8, rR, rF, _, _, hgz, lR, lF⟩ := k.cells
  have hb' : lacks (folN cs i) sn = b := by
    rw [← hb, brk, seenN, aAt_eq hc, hn, Int.toNat_natCast]
  have hval : c.val = .agg #[.int .i64 s, .bool c.write, .int .i64 sn] := by simp only [AccessD.val, hs, hn]
  rw [hval]
  have hsn20 : sn < 2 ^ 20 := by omega
  have hsn60 : sn < 2 ^ 60 := by omega
  have HR := Lib.hid rF
  have HV := Lib.hid hb'
  have HLow := Lib.hid hlow
  clear hb hp10 hten cm ch c8 k hc hs hn hval hb' hlow rR rF
  obtain ⟨l, hl⟩ : ∃ l, (folN cs i).length = l := ⟨_, rfl⟩
  have Hl := Lib.hid hl
  obtain ⟨l6, hl6⟩ : ∃ l, (rowN cs i).length = l := ⟨_, rfl⟩
  rw [hl] at hll
  rw [hl] at lF
  simp only [hl, hl6] at c6 c7
  clear hl hl6
  generalize folN cs i = L at *
  have hs0 : (0 : Int) ≤ (s : Int) := by omega
  have hs3' : (s : Int) < 3 := by omega
  have hl10 : (l : Int) ≤ 10 := by omega
  generalize c.write = wf at *
  go_enter Try.func54, Try.ntmps54
  go_wp2_with fail
  have Hgz := Lib.hid hgz
  clear c6 c7
  go_loopw [49] (fun j wq => ∃ n : Nat, n ≤ l ∧ j = .int .i64 n ∧ wq = (w.alloc (.cells #[.int .i64 s, .bool wf, .int .i64 sn] 44)) ∧ Hid ((List.range n).any (fun n => bitN sn n == 1 && !subN (L.getD n 0) sn) = false)) (fun j _ => l - (intOf j).toNat)
  case atStart => exact ⟨0, by omega, rfl, rfl, rfl⟩
  case round =>
    obtain ⟨n, hnl2, rfl, rfl, HG⟩ := hrel
    by_cases hlt : n < l
    · obtain ⟨gb, goff, hA, hgat⟩ := HR.out (by rw [List.length_map, Hl.out]; omega)
      have hget : (L.map Int.ofNat)[n]? = some ((L.getD n 0 : Nat) : Int) := by
        rw [List.getElem?_map, List.getD, List.getElem?_eq_getElem (by rw [Hl.out]; exact hlt)]; rfl
      have r0 := RowInts.at_ hgat hget
      have hgb : gb < w.heap.size := World.block_lt_of_cell? _ _ r0
      subst hA
      have hx : (w.alloc (.cells #[.int .i64 s, .bool wf, .int .i64 sn] 44)).cell? ⟨gb, goff + n, none⟩ = some (.int .i64 ((L.getD n 0 : Nat) : Int)) := cell_below (below_alloc (Below.refl _ _) _) r0
      have hlo := HLow.out n
      obtain ⟨q, hq, hq2⟩ := andNot_test (L.getD n 0) sn (by omega) (by omega)
      have hst : (List.range (n + 1)).any (fun n => bitN sn n == 1 && !subN (L.getD n 0) sn) = (bitN sn n == 1 && ((q : Int) != 0)) := by rw [any_range_succ, HG.out, hq2]; rfl
      have hit : (bitN sn n == 1 && ((q : Int) != 0)) = true → b = true := fun e => by
        rw [← HV.out]
        exact lacks_at (by rw [Hl.out]; exact hlt) (by rw [← hq2]; exact e)
      have hbit := bit_and hsn60 n
      have hbl := bitN_le sn n
      generalize bitN sn n = bb at *
      generalize L.getD n 0 = t at *
      have Hst := Lib.hid hst
      have Hit := Lib.hid hit
      clear hgat hget r0 hst hit hlo hq2
      have hn0 : (0 : Int) ≤ (n : Int) := by omega
      have hn64 : (n : Int) ≤ 64 := by omega
      have hnl3 : (n : Int) < (l : Int) := by omega
      have hbb : bb = 0 ∨ bb = 1 := by omega
      rcases hbb with rfl | rfl
      · have Hq : Hid ((List.range (n + 1)).any (fun n => bitN sn n == 1 && !subN (L.getD n 0) sn) = false) := by show _ = _; rw [Hst.out]; rfl
        clear hq
        go_wp2
        go_roundw
        case rel => exact ⟨n + 1, by omega, by go_num, trivial, Hq⟩
        case measure => simp [intOf]; omega
      · obtain ⟨b1, hb1⟩ : ∃ b1, ((q : Int) != 0) = b1 := ⟨_, rfl⟩
        rw [hb1] at Hst Hit
        cases b1
        · have Hq : Hid ((List.range (n + 1)).any (fun n => bitN sn n == 1 && !subN (L.getD n 0) sn) = false) := by show _ = _; rw [Hst.out]; rfl
          go_wp2
          go_roundw
          case rel => exact ⟨n + 1, by omega, by go_num, trivial, Hq⟩
          case measure => simp [intOf]; omega
        · have Hq := Lib.hid (Hit.out rfl)
          go_wp2
          go_ret
          exact ⟨by rw [Hq.out]; rfl, below_alloc (Below.refl _ _) _⟩
    · have e1 : n = l := by omega
      subst e1
      have hge : ¬ ((n : Int) < (n : Int)) := by omega
      have e2 : b = false := by rw [← HV.out, lacks, Hl.out]; exact HG.out
      subst e2
      go_wp2
      go_ret
      exact ⟨rfl, below_alloc (Below.refl _ _) _⟩
end Go.Proofs.Ytooigcfdkmgjnaa
