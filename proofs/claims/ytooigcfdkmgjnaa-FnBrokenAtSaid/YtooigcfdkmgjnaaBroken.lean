/-
  Whether an access breaks a promise, as the reference asks it, promise by promise. Asked: valid accesses.
-/
import Derived.Test.YtooigcfdkmgjnaaBrkQ
import Derived.Test.YtooigcfdkmgjnaaAccC
import Derived.Test.YtooigcfdkmgjnaaBitA
import Derived.OwnWalk
namespace Go.Proofs.Ytooigcfdkmgjnaa
open Go.RowKit
set_option maxRecDepth 100000

/-- What the reference's test on two sets comes to. -/
theorem and_test (a b : Nat) (ha : a < 2 ^ 20) (hb : b < 2 ^ 20) : ∃ q : Nat, bits .and .i64 (a : Int) (b : Int) = (q : Int) ∧ ((q : Int) != (a : Int)) = !subN a b := by
  refine ⟨a &&& b, i64_and_nat a b (by omega) (by omega), ?_⟩
  rw [Bool.eq_iff_iff, bne_iff_ne, ne_eq, Bool.not_eq_true', subN, beq_eq_false_iff_ne, ne_eq]
  omega

theorem any_range_succ' (p : Nat → Bool) (k : Nat) : (List.range (k + 1)).any p = ((List.range k).any p || p k) := by
  rw [List.range_succ, List.any_append]; simp
theorem any_range_le {p : Nat → Bool} {k n : Nat} (h : k ≤ n) (e : (List.range k).any p = true) : (List.range n).any p = true := by
  obtain ⟨j, hj, hp⟩ := List.any_eq_true.1 e
  exact List.any_eq_true.2 ⟨j, List.mem_range.2 (Nat.lt_of_lt_of_le (List.mem_range.1 hj) h), hp⟩

set_option maxHeartbeats 2000000 in
theorem broken_own (p : ByteArray) (hp : p.toList = [111, 119, 110]) (cs : List AccessD) (hv : accB cs = true) (i : Nat) (c : AccessD) (hc : cs[i]? = some c) (A : Option Addr) (n cap : Nat) (w : World) (hr : RowAccesss w A cs) (hn : cs.length = n) (b : Bool) (hb : brkB .own cs i = b) :
    Calls Try.prog 52 #[.string p, .slice A n cap, .int .i64 i] w fun e w' => e = .returned (.tuple #[.bool b, .bool true]) ∧ Below w.heap.size w w' := by
  have h10 := accB_len hv
  have hi : i < n := by rw [← hn]; exact (List.getElem?_eq_some_iff.1 hc).1
  have hten := wrN_ten hv i
  have hp10 : 2 ^ wrN cs i ≤ 2 ^ 10 := Nat.pow_le_pow_right (by omega) hten
  obtain ⟨s, hs, hs3⟩ := acc_session hv hc
  obtain ⟨sn, hsn, hnl⟩ := acc_seen hv hc
  have hm := mineK_lt cs (s : Int) i (by omega)
  obtain ⟨q, hq, hq2⟩ := and_test (mineK cs c.session i) sn (by rw [hs]; omega) (by omega)
  have hb' : (!c.write && ((q : Int) != ((mineK cs c.session i : Nat) : Int))) = b := by
    rw [hq2, ← hb, brkB, brk, seenN, aAt_eq hc, hsn, Int.toNat_natCast]
  obtain ⟨b0, off, rfl, hat⟩ := hr (by omega)
  obtain ⟨x0, x1, x2⟩ := RowAccesss.at_ hat hc
  have hbz : b0 < w.heap.size := World.block_lt_of_cell? _ _ x0
  have HR := Lib.hid hr
  have HF := Lib.hid (fun (W : World) (hW : RowAccesss W (some ⟨b0, off, none⟩) cs) => hn ▸ mine_calls cs i c (some ⟨b0, off, none⟩) cap W hW (by omega) hc)
  rw [hsn] at x2
  generalize mineK cs c.session i = M at *
  clear hm hp10 hten hs hsn hq2 hc hat hr hv hb hnl
  obtain ⟨b1, hb1⟩ : ∃ b1, ((q : Int) != (M : Int)) = b1 := ⟨_, rfl⟩
  have hi0 : (0 : Int) ≤ (i : Int) := by omega
  have hin : (i : Int) < (n : Int) := by omega
  rw [hb1] at hb'
  generalize c.write = wf at *
  cases wf
  · have hb2 : b1 = b := by simpa using hb'
    subst hb2
    clear hb'
    go_enter Try.func52, Try.ntmps52
    go_wp2_with fail
    refine wp_region_grow (by kernel_rfl) (by kernel_rfl) ?_
    repeat (go_big_quiet_step ((go_at_call 46; exact Calls.ext_of (Nat.le_refl _) (HF.out _ (HR.out.below (Wx.h _))))))
    refine wpQuiet_end ?_
    intro w3 hb3
    go_wp2_with fail
    go_ret2
    exact ⟨rfl, hb3⟩
  · have hb2 : false = b := by simpa using hb'
    subst hb2
    clear hb' hb1
    go_enter Try.func52, Try.ntmps52
    go_wp2_with fail
    refine wp_region_grow (by kernel_rfl) (by kernel_rfl) ?_
    repeat (go_big_quiet_step (fail))
    refine wpQuiet_end ?_
    intro w3 hb3
    go_wp2_with fail
    go_ret2
    exact ⟨rfl, hb3⟩

set_option maxHeartbeats 2000000 in
theorem broken_steady (p : ByteArray) (hp : p.toList = [115, 116, 101, 97, 100, 121]) (cs : List AccessD) (hv : accB cs = true) (i : Nat) (c : AccessD) (hc : cs[i]? = some c) (A : Option Addr) (n cap : Nat) (w : World) (hr : RowAccesss w A cs) (hn : cs.length = n) (b : Bool) (hb : brkB .steady cs i = b) :
    Calls Try.prog 52 #[.string p, .slice A n cap, .int .i64 i] w fun e w' => e = .returned (.tuple #[.bool b, .bool true]) ∧ Below w.heap.size w w' := by
  have h10 := accB_len hv
  have hi : i < n := by rw [← hn]; exact (List.getElem?_eq_some_iff.1 hc).1
  have hten := wrN_ten hv i
  have hp10 : 2 ^ wrN cs i ≤ 2 ^ 10 := Nat.pow_le_pow_right (by omega) hten
  obtain ⟨s, hs, hs3⟩ := acc_session hv hc
  obtain ⟨sn, hsn, hnl⟩ := acc_seen hv hc
  have hm := seenK_lt hv (s : Int) i (by omega)
  obtain ⟨q, hq, hq2⟩ := and_test (seenK cs c.session i) sn (by rw [hs]; omega) (by omega)
  have hb' : (!c.write && ((q : Int) != ((seenK cs c.session i : Nat) : Int))) = b := by
    rw [hq2, ← hb, brkB, brk, seenN, aAt_eq hc, hsn, Int.toNat_natCast]
  obtain ⟨b0, off, rfl, hat⟩ := hr (by omega)
  obtain ⟨x0, x1, x2⟩ := RowAccesss.at_ hat hc
  have hbz : b0 < w.heap.size := World.block_lt_of_cell? _ _ x0
  have HR := Lib.hid hr
  have HF := Lib.hid (fun (W : World) (hW : RowAccesss W (some ⟨b0, off, none⟩) cs) => hn ▸ seen_calls cs i c (some ⟨b0, off, none⟩) cap W hW hv hc)
  rw [hsn] at x2
  generalize seenK cs c.session i = M at *
  clear hm hp10 hten hs hsn hq2 hc hat hr hv hb hnl
  obtain ⟨b1, hb1⟩ : ∃ b1, ((q : Int) != (M : Int)) = b1 := ⟨_, rfl⟩
  have hi0 : (0 : Int) ≤ (i : Int) := by omega
  have hin : (i : Int) < (n : Int) := by omega
  rw [hb1] at hb'
  generalize c.write = wf at *
  cases wf
  · have hb2 : b1 = b := by simpa using hb'
    subst hb2
    clear hb'
    go_enter Try.func52, Try.ntmps52
    go_wp2_with fail
    refine wp_region_grow (by kernel_rfl) (by kernel_rfl) ?_
    repeat (go_big_quiet_step ((go_at_call 47; exact Calls.ext_of (Nat.le_refl _) (HF.out _ (HR.out.below (Wx.h _))))))
    refine wpQuiet_end ?_
    intro w3 hb3
    go_wp2_with fail
    go_ret2
    exact ⟨rfl, hb3⟩
  · have hb2 : false = b := by simpa using hb'
    subst hb2
    clear hb' hb1
    go_enter Try.func52, Try.ntmps52
    go_wp2_with fail
    refine wp_region_grow (by kernel_rfl) (by kernel_rfl) ?_
    repeat (go_big_quiet_step (fail))
    refine wpQuiet_end ?_
    intro w3 hb3
    go_wp2_with fail
    go_ret2
    exact ⟨rfl, hb3⟩

set_option maxHeartbeats 8000000 in
theorem broken_row (p : ByteArray) (hp : p.toList = [114, 111, 119]) (cs : List AccessD) (hv : accB cs = true) (i : Nat) (c : AccessD) (hc : cs[i]? = some c) (A : Option Addr) (n cap : Nat) (w : World) (hr : RowAccesss w A cs) (hn : cs.length = n) (b : Bool) (hb : brkB .row cs i = b) :
    Calls Try.prog 52 #[.string p, .slice A n cap, .int .i64 i] w fun e w' => e = .returned (.tuple #[.bool b, .bool true]) ∧ Below w.heap.size w w' := by
  have h10 := accB_len hv
  have hi : i < n := by rw [← hn]; exact (List.getElem?_eq_some_iff.1 hc).1
  have hten := wrN_ten hv i
  have hp10 : 2 ^ wrN cs i ≤ 2 ^ 10 := Nat.pow_le_pow_right (by omega) hten
  obtain ⟨sn, hsn, hnl⟩ := acc_seen hv hc
  have hsn20 : sn < 2 ^ 20 := by omega
  have hsn60 : sn < 2 ^ 60 := by omega
  have hb' : (!c.write && (List.range i).any (lackK false cs sn)) = b := by
    rw [← hb, brkB, brk_row cs (by omega), seenN, aAt_eq hc, hsn, Int.toNat_natCast]
  obtain ⟨b0, off, rfl, hat⟩ := hr (by omega)
  have HR := Lib.hid hr
  have Hat := Lib.hid hat
  have Hci := Lib.hid hc
  have Hv := Lib.hid hv
  have Hn := Lib.hid hn
  have Hsn := Lib.hid hsn
  obtain ⟨x0, x1, x2⟩ := RowAccesss.at_ hat hc
  have hbz : b0 < w.heap.size := World.block_lt_of_cell? _ _ x0
  have hi0 : (0 : Int) ≤ (i : Int) := by omega
  have hin : (i : Int) < (n : Int) := by omega
  have hn10 : (n : Int) ≤ 10 := by omega
  clear hten hp10 hnl hc hat hr hv hb hn
  cases hw : c.write
  · have hb2 : (List.range i).any (lackK false cs sn) = b := by rw [hw] at hb'; simpa using hb'
    have HV := Lib.hid hb2
    have Hw := Lib.hid hw
    clear hb' hb2 hw hsn x0 x1 x2
    go_enter Try.func52, Try.ntmps52
    go_wp2_with fail
    go_loopw [8] (fun j wq => ∃ k : Nat, k ≤ i ∧ j = .int .i64 k ∧ Below w.heap.size w wq ∧ Hid ((List.range k).any (lackK false cs sn) = false)) (fun j _ => i - (intOf j).toNat)
    case atStart => exact ⟨0, by omega, rfl, Below.refl _ _, rfl⟩
    case round =>
      obtain ⟨k, hk, rfl, hb, HG⟩ := hrel
      obtain ⟨x0, x1, x2⟩ := (RowAccesss.at_ Hat.out Hci.out).below hb
      rw [Hw.out] at x1
      rw [Hsn.out] at x2
      have hbz2 : b0 < wr.heap.size := World.block_lt_of_cell? _ _ x0
      by_cases hlt : k < i
      · obtain ⟨o, ho⟩ : ∃ o, cs[k]? = some o := ⟨cs[k]'(by have := Hn.out; omega), List.getElem?_eq_getElem _⟩
        obtain ⟨y0, y1, y2⟩ := (RowAccesss.at_ Hat.out ho).below hb
        have htk := wrN_ten Hv.out k
        have hpk : 2 ^ wrN cs k ≤ 2 ^ 10 := Nat.pow_le_pow_right (by omega) htk
        obtain ⟨so, hso, hso3⟩ := acc_session Hv.out ho
        have hmk := mineK_lt cs (so : Int) k (by have := Hn.out; omega)
        have hnd : needP false cs k = mineK cs o.session k := by rw [needP, aAt_eq ho]; rfl
        have HM := Lib.hid (fun (W : World) (hW : RowAccesss W (some ⟨b0, off, none⟩) cs) => Hn.out ▸ mine_calls cs k o (some ⟨b0, off, none⟩) cap W hW (by have := Hn.out; omega) ho)
        skip
        have HNO := Lib.hid (fun (W : World) (hW : RowAccesss W (some ⟨b0, off, none⟩) cs) => Hn.out ▸ numberOf_calls cs k (some ⟨b0, off, none⟩) cap W hW (by have := Hn.out; omega) (by have := Hn.out; omega))
        have HBI := Lib.hid (fun (W : World) => bit_calls sn (wrN cs k) hsn60 (by omega) W)
        obtain ⟨q, hq, hq2⟩ := and_test (mineK cs o.session k) sn (by rw [hso]; omega) hsn20
        have hbl := bitN_le sn (wrN cs k)
        have hst : (List.range (k + 1)).any (lackK false cs sn) = (o.write && (bitN sn (wrN cs k) == 1 && ((q : Int) != ((mineK cs o.session k : Nat) : Int)))) := by
          rw [any_range_succ', HG.out, hq2, lackK, aAt_eq ho, hnd]; rfl
        have hit : (List.range (k + 1)).any (lackK false cs sn) = true → b = true := fun e => by rw [← HV.out]; exact any_range_le (show k + 1 ≤ i by omega) e
        have Ho := Lib.hid ho
        obtain ⟨ow, how⟩ : ∃ ow, o.write = ow := ⟨_, rfl⟩
        have How := Lib.hid how
        rw [how] at hst y1
        have Hst := Lib.hid hst
        have Hit := Lib.hid hit
        have Hb := Lib.hid hb
        have Hrow := Lib.hid (HR.out.below hb)
        clear hq2 hst hit hb ho how hnd hpk hmk hso
        generalize bitN sn (wrN cs k) = bb at *
        generalize wrN cs k = nk at *
        generalize mineK cs o.session k = M at *
        have hk0 : (0 : Int) ≤ (k : Int) := by omega
        have hkn : (k : Int) < (n : Int) := by omega
        have hki : (k : Int) < (i : Int) := by omega
        have hbb : bb = 0 ∨ bb = 1 := by omega
        obtain ⟨b1, hb1⟩ : ∃ b1, ((q : Int) != (M : Int)) = b1 := ⟨_, rfl⟩
        rw [hb1] at Hst
        go_wp2_with fail
        refine (HM.out _ Hrow.out).mono ?_
        rintro e w1 ⟨rfl, hb1w⟩
        have HB1 := Lib.hid (below_trans' Hb.out hb1w)
        clear hb1w
        go_wp2_with fail
        have HBB := HB1
        obtain ⟨x0, x1, x2⟩ := (RowAccesss.at_ Hat.out Hci.out).below HBB.out
        rw [Hw.out] at x1
        rw [Hsn.out] at x2
        have hoo := (RowAccesss.at_ Hat.out Ho.out).below HBB.out
        obtain ⟨y0, y1, y2⟩ := hoo
        rw [How.out] at y1
        have hbz3 : b0 < w1.heap.size := World.block_lt_of_cell? _ _ x0
        have Hrow3 := Lib.hid (HR.out.below HBB.out)
        rcases hbb with rfl | rfl
        all_goals
          cases ow
          all_goals
            cases b1
            all_goals
              refine wp_region_grow (by kernel_rfl) (by kernel_rfl) ?_
              repeat (go_big_quiet_step ((first | (go_at_call 61; exact Calls.ext_same (HNO.out _ (Hrow3.out.below (Wx.h _)))) | (go_at_call 48; exact Calls.ext_same (HBI.out _)))))
              refine wpQuiet_end ?_
              intro w6 hb6
              have HB6 := Lib.hid (below_trans' HBB.out hb6)
              clear hb6
              go_wp2_with fail
              first
                | (go_ret2
                   have e2 := Hit.out (by rw [Hst.out]; rfl)
                   exact ⟨by rw [e2]; rfl, HB6.out⟩)
                | (have Hq : Hid ((List.range (k + 1)).any (lackK false cs sn) = false) := by show _ = _; rw [Hst.out]; rfl
                   go_roundw
                   case rel => exact ⟨k + 1, by omega, by go_num, HB6.out, Hq⟩
                   case measure => simp [intOf]; omega)
      · have e1 : k = i := by omega
        subst e1
        have hge : ¬ ((k : Int) < (k : Int)) := by omega
        have e2 : b = false := by rw [← HV.out]; exact HG.out
        subst e2
        have Hb := Lib.hid hb
        clear hb
        go_wp2_with fail
        go_ret2
        exact ⟨rfl, Hb.out⟩
  · have hb2 : b = false := by rw [← hb', hw]; rfl
    subst hb2
    rw [hw] at x1
    clear hb' hw hsn
    go_enter Try.func52, Try.ntmps52
    go_wp2_with fail
    go_loopw [8] (fun j wq => ∃ k : Nat, k ≤ i ∧ j = .int .i64 k ∧ w = wq) (fun j _ => i - (intOf j).toNat)
    case atStart => exact ⟨0, by omega, rfl, rfl⟩
    case round =>
      obtain ⟨k, hk, rfl, rfl⟩ := hrel
      by_cases hlt : (k : Int) < (i : Int)
      all_goals
        go_wp2_with fail
        go_ret2
        exact ⟨rfl, Below.refl _ _⟩

set_option maxHeartbeats 8000000 in
theorem broken_follow (p : ByteArray) (hp : p.toList = [102, 111, 108, 108, 111, 119]) (cs : List AccessD) (hv : accB cs = true) (i : Nat) (c : AccessD) (hc : cs[i]? = some c) (A : Option Addr) (n cap : Nat) (w : World) (hr : RowAccesss w A cs) (hn : cs.length = n) (b : Bool) (hb : brkB .follow cs i = b) :
    Calls Try.prog 52 #[.string p, .slice A n cap, .int .i64 i] w fun e w' => e = .returned (.tuple #[.bool b, .bool true]) ∧ Below w.heap.size w w' := by
  have h10 := accB_len hv
  have hi : i < n := by rw [← hn]; exact (List.getElem?_eq_some_iff.1 hc).1
  have hten := wrN_ten hv i
  have hp10 : 2 ^ wrN cs i ≤ 2 ^ 10 := Nat.pow_le_pow_right (by omega) hten
  obtain ⟨sn, hsn, hnl⟩ := acc_seen hv hc
  have hsn20 : sn < 2 ^ 20 := by omega
  have hsn60 : sn < 2 ^ 60 := by omega
  have hb' : (!c.write && (List.range i).any (lackK true cs sn)) = b := by
    rw [← hb, brkB, brk_follow cs (by omega), seenN, aAt_eq hc, hsn, Int.toNat_natCast]
  obtain ⟨b0, off, rfl, hat⟩ := hr (by omega)
  have HR := Lib.hid hr
  have Hat := Lib.hid hat
  have Hci := Lib.hid hc
  have Hv := Lib.hid hv
  have Hn := Lib.hid hn
  have Hsn := Lib.hid hsn
  obtain ⟨x0, x1, x2⟩ := RowAccesss.at_ hat hc
  have hbz : b0 < w.heap.size := World.block_lt_of_cell? _ _ x0
  have hi0 : (0 : Int) ≤ (i : Int) := by omega
  have hin : (i : Int) < (n : Int) := by omega
  have hn10 : (n : Int) ≤ 10 := by omega
  clear hten hp10 hnl hc hat hr hv hb hn
  cases hw : c.write
  · have hb2 : (List.range i).any (lackK true cs sn) = b := by rw [hw] at hb'; simpa using hb'
    have HV := Lib.hid hb2
    have Hw := Lib.hid hw
    clear hb' hb2 hw hsn x0 x1 x2
    go_enter Try.func52, Try.ntmps52
    go_wp2_with fail
    go_loopw [8] (fun j wq => ∃ k : Nat, k ≤ i ∧ j = .int .i64 k ∧ Below w.heap.size w wq ∧ Hid ((List.range k).any (lackK true cs sn) = false)) (fun j _ => i - (intOf j).toNat)
    case atStart => exact ⟨0, by omega, rfl, Below.refl _ _, rfl⟩
    case round =>
      obtain ⟨k, hk, rfl, hb, HG⟩ := hrel
      obtain ⟨x0, x1, x2⟩ := (RowAccesss.at_ Hat.out Hci.out).below hb
      rw [Hw.out] at x1
      rw [Hsn.out] at x2
      have hbz2 : b0 < wr.heap.size := World.block_lt_of_cell? _ _ x0
      by_cases hlt : k < i
      · obtain ⟨o, ho⟩ : ∃ o, cs[k]? = some o := ⟨cs[k]'(by have := Hn.out; omega), List.getElem?_eq_getElem _⟩
        obtain ⟨y0, y1, y2⟩ := (RowAccesss.at_ Hat.out ho).below hb
        have htk := wrN_ten Hv.out k
        have hpk : 2 ^ wrN cs k ≤ 2 ^ 10 := Nat.pow_le_pow_right (by omega) htk
        obtain ⟨so, hso, hso3⟩ := acc_session Hv.out ho
        have hmk := seenK_lt Hv.out (so : Int) k (by have := Hn.out; omega)
        have hnd : needP true cs k = seenK cs o.session k := by rw [needP, aAt_eq ho]; rfl
        have HM := Lib.hid (fun (W : World) (hW : RowAccesss W (some ⟨b0, off, none⟩) cs) => Hn.out ▸ mine_calls cs k o (some ⟨b0, off, none⟩) cap W hW (by have := Hn.out; omega) ho)
        have HS := Lib.hid (fun (W : World) (hW : RowAccesss W (some ⟨b0, off, none⟩) cs) => Hn.out ▸ seen_calls cs k o (some ⟨b0, off, none⟩) cap W hW Hv.out ho)
        have HNO := Lib.hid (fun (W : World) (hW : RowAccesss W (some ⟨b0, off, none⟩) cs) => Hn.out ▸ numberOf_calls cs k (some ⟨b0, off, none⟩) cap W hW (by have := Hn.out; omega) (by have := Hn.out; omega))
        have HBI := Lib.hid (fun (W : World) => bit_calls sn (wrN cs k) hsn60 (by omega) W)
        obtain ⟨q, hq, hq2⟩ := and_test (seenK cs o.session k) sn (by rw [hso]; omega) hsn20
        have hbl := bitN_le sn (wrN cs k)
        have hst : (List.range (k + 1)).any (lackK true cs sn) = (o.write && (bitN sn (wrN cs k) == 1 && ((q : Int) != ((seenK cs o.session k : Nat) : Int)))) := by
          rw [any_range_succ', HG.out, hq2, lackK, aAt_eq ho, hnd]; rfl
        have hit : (List.range (k + 1)).any (lackK true cs sn) = true → b = true := fun e => by rw [← HV.out]; exact any_range_le (show k + 1 ≤ i by omega) e
        have Ho := Lib.hid ho
        obtain ⟨ow, how⟩ : ∃ ow, o.write = ow := ⟨_, rfl⟩
        have How := Lib.hid how
        rw [how] at hst y1
        have Hst := Lib.hid hst
        have Hit := Lib.hid hit
        have Hb := Lib.hid hb
        have Hrow := Lib.hid (HR.out.below hb)
        clear hq2 hst hit hb ho how hnd hpk hmk hso
        generalize bitN sn (wrN cs k) = bb at *
        generalize wrN cs k = nk at *
        generalize mineK cs o.session k = M0 at *
        generalize seenK cs o.session k = M at *
        have hk0 : (0 : Int) ≤ (k : Int) := by omega
        have hkn : (k : Int) < (n : Int) := by omega
        have hki : (k : Int) < (i : Int) := by omega
        have hbb : bb = 0 ∨ bb = 1 := by omega
        obtain ⟨b1, hb1⟩ : ∃ b1, ((q : Int) != (M : Int)) = b1 := ⟨_, rfl⟩
        rw [hb1] at Hst
        go_wp2_with fail
        refine (HM.out _ Hrow.out).mono ?_
        rintro e w1 ⟨rfl, hb1w⟩
        have HB1 := Lib.hid (below_trans' Hb.out hb1w)
        clear hb1w
        go_wp2_with fail
        refine (HS.out _ (HR.out.below HB1.out)).mono ?_
        rintro e w2 ⟨rfl, hb2w⟩
        have HBB := Lib.hid (below_trans' HB1.out hb2w)
        clear hb2w
        go_wp2_with fail
        obtain ⟨x0, x1, x2⟩ := (RowAccesss.at_ Hat.out Hci.out).below HBB.out
        rw [Hw.out] at x1
        rw [Hsn.out] at x2
        have hoo := (RowAccesss.at_ Hat.out Ho.out).below HBB.out
        obtain ⟨y0, y1, y2⟩ := hoo
        rw [How.out] at y1
        have hbz3 : b0 < w2.heap.size := World.block_lt_of_cell? _ _ x0
        have Hrow3 := Lib.hid (HR.out.below HBB.out)
        rcases hbb with rfl | rfl
        all_goals
          cases ow
          all_goals
            cases b1
            all_goals
              refine wp_region_grow (by kernel_rfl) (by kernel_rfl) ?_
              repeat (go_big_quiet_step ((first | (go_at_call 61; exact Calls.ext_same (HNO.out _ (Hrow3.out.below (Wx.h _)))) | (go_at_call 48; exact Calls.ext_same (HBI.out _)))))
              refine wpQuiet_end ?_
              intro w6 hb6
              have HB6 := Lib.hid (below_trans' HBB.out hb6)
              clear hb6
              go_wp2_with fail
              first
                | (go_ret2
                   have e2 := Hit.out (by rw [Hst.out]; rfl)
                   exact ⟨by rw [e2]; rfl, HB6.out⟩)
                | (have Hq : Hid ((List.range (k + 1)).any (lackK true cs sn) = false) := by show _ = _; rw [Hst.out]; rfl
                   go_roundw
                   case rel => exact ⟨k + 1, by omega, by go_num, HB6.out, Hq⟩
                   case measure => simp [intOf]; omega)
      · have e1 : k = i := by omega
        subst e1
        have hge : ¬ ((k : Int) < (k : Int)) := by omega
        have e2 : b = false := by rw [← HV.out]; exact HG.out
        subst e2
        have Hb := Lib.hid hb
        clear hb
        go_wp2_with fail
        go_ret2
        exact ⟨rfl, Hb.out⟩
  · have hb2 : b = false := by rw [← hb', hw]; rfl
    subst hb2
    rw [hw] at x1
    clear hb' hw hsn
    go_enter Try.func52, Try.ntmps52
    go_wp2_with fail
    go_loopw [8] (fun j wq => ∃ k : Nat, k ≤ i ∧ j = .int .i64 k ∧ w = wq) (fun j _ => i - (intOf j).toNat)
    case atStart => exact ⟨0, by omega, rfl, rfl⟩
    case round =>
      obtain ⟨k, hk, rfl, rfl⟩ := hrel
      by_cases hlt : (k : Int) < (i : Int)
      all_goals
        go_wp2_with fail
        go_ret2
        exact ⟨rfl, Below.refl _ _⟩
end Go.Proofs.Ytooigcfdkmgjnaa
