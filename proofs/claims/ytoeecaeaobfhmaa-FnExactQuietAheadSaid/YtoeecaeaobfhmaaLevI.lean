/-
  The levels of calls, of the program. Asked: a history.
-/
import Derived.Test.YtoeecaeaobfhmaaLevP
import Derived.Test.YtoeecaeaobfhmaaSums
import Derived.Test.YtoeecaeaobfhmaaSmall
import Derived.Test.YtoeecaeaobfhmaaIntS
import Derived.IntWalk
namespace Go.Proofs.Ytoeecaeaobfhmaa
open Go.RowKit
set_option maxRecDepth 100000

theorem lvK_le {cs : List CallD} {L : List Nat} {i m : Nat} (h : ∀ j, L.getD j 0 ≤ m) : ∀ k j, (lvK cs L i k).getD j 0 ≤ m + k
  | 0, j => h j
  | k + 1, j => by
    have := lvStep_le (cs := cs) (i := i) (k := k) (lvK_le (cs := cs) (i := i) h k) j
    rw [lvK]; omega
theorem lvI_le {cs : List CallD} {L : List Nat} {m : Nat} (h : ∀ j, L.getD j 0 ≤ m) : ∀ i j, (lvI cs L i).getD j 0 ≤ m + i * cs.length
  | 0, j => by simpa [lvI] using h j
  | i + 1, j => by
    have := lvK_le (cs := cs) (i := i) (lvI_le (cs := cs) h i) cs.length j
    rw [lvI, Nat.succ_mul]; omega
theorem lvR_le (cs : List CallD) : ∀ r j, (lvR cs r).getD j 0 ≤ r * (cs.length * cs.length)
  | 0, j => by
    rw [lvR, List.getD, List.getElem?_replicate]
    split <;> simp
  | r + 1, j => by
    have := lvI_le (cs := cs) (lvR_le cs r) cs.length j
    rw [lvR, Nat.succ_mul]; omega
theorem tmI_le {cs : List CallD} {L : List Nat} {m t : Nat} (h : ∀ j, L.getD j 0 ≤ m) : ∀ i j, (tmI cs t L i).getD j 0 ≤ m + i * cs.length
  | 0, j => by simpa [tmI] using h j
  | i + 1, j => by
    have ih := tmI_le (cs := cs) (t := t) h i
    rw [tmI, Nat.succ_mul]
    split
    · have := lvK_le (cs := cs) (i := i) ih cs.length j; omega
    · have := ih j; omega
theorem tmT_le (cs : List CallD) : ∀ t j, (tmT cs t).getD j 0 ≤ t * (cs.length * cs.length)
  | 0, j => by
    rw [tmT, List.getD, List.getElem?_replicate]
    split <;> simp
  | t + 1, j => by
    have := tmI_le (cs := cs) (t := t) (tmT_le cs t) cs.length j
    rw [tmT, Nat.succ_mul]; omega
theorem nat_get {L : List Nat} {i : Nat} (h : i < L.length) : (L.map Int.ofNat)[i]? = some ((L.getD i 0 : Nat) : Int) := by
  rw [List.getElem?_map, List.getElem?_eq_getElem h, List.getD, List.getElem?_eq_getElem h]; rfl
theorem map_set (L : List Nat) (i x : Nat) : (L.map Int.ofNat).set i (x : Int) = (L.set i x).map Int.ofNat := by rw [List.map_set]; rfl
theorem lset_grown (w : World) (b i : Nat) (v : Value) : w.grownBy (w.setCell ⟨b, i, none⟩ v) (some b) := by
  refine ⟨rfl, rfl, rfl, by simp [World.setCell], fun j hj hne => ?_⟩
  have hgj : b ≠ j := fun e => hne (by rw [e])
  simp [World.setCell, Array.getElem?_modify, hgj]
theorem lbut_trans {g : Nat} {a b c : World} (h : a.grownBy b (some g)) (k : b.grownBy c (some g)) : a.grownBy c (some g) :=
  ⟨k.os.trans h.os, k.tape.trans h.tape, k.output.trans h.output, Nat.le_trans h.size k.size, fun i hi hne => (k.block i (Nat.lt_of_lt_of_le hi h.size) hne).trans (h.block i hi hne)⟩
theorem lbut_below {g : Nat} {a b : World} (h : Below a.heap.size a b) : a.grownBy b (some g) := ⟨h.os, h.tape, h.output, h.size, fun i hi _ => h.block i hi⟩

set_option maxHeartbeats 4000000 in
theorem impllevels_calls (cs : List CallD) (A : Option Addr) (cap : Nat) (w : World) (hr : RowCalls w A cs) (hl : cs.length ≤ 6) :
    Calls Try.prog 45 #[.slice A cs.length cap] w fun e w' => ∃ v, e = .returned v ∧ w'.ownsRow w.heap.size 3 1 v cs.length (((tmT cs 31).map Int.ofNat).flatMap intVals) ∧ Below w.heap.size w w' := by
  obtain ⟨i0, hi0, hz0, hz1, hz2⟩ := info_parts ints_info
  have HR := Lib.hid hr
  have HTL := Lib.hid (tmT_len cs)
  have HTB := Lib.hid (tmT_le cs)
  have HIL := Lib.hid (fun t i => tmI_len cs t (tmT cs t) i)
  have HIB := Lib.hid (fun t i => tmI_le (cs := cs) (t := t) (tmT_le cs t) i)
  have HKL := Lib.hid (fun t i k => lvK_len cs (tmI cs t (tmT cs t) i) i k)
  have HKB := Lib.hid (fun t i k => lvK_le (cs := cs) (i := i) (tmI_le (cs := cs) (t := t) (tmT_le cs t) i) k)
  have hts : ∀ t, tmT cs (t + 1) = tmI cs t (tmT cs t) cs.length := fun _ => rfl
  have HTS := Lib.hid hts
  have his : ∀ t i : Nat, tmI cs t (tmT cs t) (i + 1) = if (hAt cs i).fr == (t : Int) then lvK cs (tmI cs t (tmT cs t) i) i cs.length else tmI cs t (tmT cs t) i := fun _ _ => rfl
  have HIS := Lib.hid his
  have hks : ∀ t i k : Nat, lvK cs (tmI cs t (tmT cs t) i) i (k + 1) = lvStep cs (lvK cs (tmI cs t (tmT cs t) i) i k) i k := fun _ _ _ => rfl
  have HKS := Lib.hid hks
  have ht0 : tmT cs 0 = List.replicate cs.length 0 := rfl
  have HT0 := Lib.hid ht0
  clear hr hts his hks ht0
  generalize hn : cs.length = n at *
  have Hn := Lib.hid hn
  clear hn
  have hlen : (n : Int) ≤ 6 := by omega
  go_enter Try.func45, Try.ntmps45
  go_wp2_with (at_make; refine wpList_make_full _ rfl _ _ 24 rfl w.heap.size 3 i0 _ 1 Try.underlying24 hi0 hz0 hz1 _ _ _ _ n rfl rfl rfl rfl (by rw [hz2]; omega) (by unfold maxLen; omega) (Nat.le_refl _) ?_; intro w1 hown hgrow)
  have hb1 : Below w.heap.size w w1 := (Below.refl _ _).grown hgrow (Nat.le_refl _) (by simp)
  have hk1 : IntBlk w1 w.heap.size ((tmT cs 0).map Int.ofNat) := by
    have := IntBlk.made hown
    rw [HT0.out]
    simpa using this
  clear hown hgrow
  go_loopw [12] (fun i wr => ∃ k : Nat, k ≤ 31 ∧ i = .int .i64 k ∧ Below w.heap.size w wr ∧ IntBlk wr w.heap.size ((tmT cs k).map Int.ofNat)) (fun i _ => 31 - (intOf i).toNat)
  case atStart => exact ⟨0, by omega, rfl, hb1, hk1⟩
  case round =>
    clear hb1 hk1
    obtain ⟨t, ht, rfl, hb, hk⟩ := hrel
    by_cases htl : t < 31
    · have Hb := Lib.hid hb
      have Hk := Lib.hid hk
      clear hb hk
      have ht0 : (0 : Int) ≤ (t : Int) := by omega
      have ht1 : (t : Int) < 31 := by omega
      go_wp2_with fail
      go_loopw [17] (fun i wq => ∃ k : Nat, k ≤ n ∧ i = .int .i64 k ∧ Below w.heap.size w wq ∧ IntBlk wq w.heap.size ((tmI cs t (tmT cs t) k).map Int.ofNat)) (fun i _ => n - (intOf i).toNat)
      case atStart => exact ⟨0, by omega, rfl, Hb.out, Hk.out⟩
      case round =>
        clear Hb Hk
        obtain ⟨i, hi, rfl, hb, hk⟩ := hrel
        by_cases hil : i < n
        · obtain ⟨b0, off, rfl, hat⟩ := HR.out (by have := Hn.out; omega)
          obtain ⟨c, hc⟩ : ∃ c, cs[i]? = some c := ⟨cs[i]'(by have := Hn.out; omega), List.getElem?_eq_getElem _⟩
          obtain ⟨x0, x1, x2, x3, x4, x5, x6⟩ := (RowCalls.at7 hat hc).below hb
          have Hat := Lib.hid hat
          have Hc := Lib.hid (hAt_eq hc)
          have Hb := Lib.hid hb
          have Hk := Lib.hid hk
          have hgz := hk.lt
          clear hat hc hb hk
          have hi0' : (0 : Int) ≤ (i : Int) := by omega
          have hin : (i : Int) < (n : Int) := by omega
          cases hf : (c.fr != (t : Int))
          · have Hf := Lib.hid hf
            go_wp2_with fail
            have y0 : (wr.alloc (.cells #[.int .i64 c.proc, .int .i64 c.obj, .int .i64 c.kind, .int .i64 c.arg, .int .i64 c.ret, .int .i64 c.fr, .int .i64 c.till] 45)).cell? ⟨wr.heap.size, 0, none⟩ = some (.int .i64 c.proc) := by simp
            have y1 : (wr.alloc (.cells #[.int .i64 c.proc, .int .i64 c.obj, .int .i64 c.kind, .int .i64 c.arg, .int .i64 c.ret, .int .i64 c.fr, .int .i64 c.till] 45)).cell? ⟨wr.heap.size, 1, none⟩ = some (.int .i64 c.obj) := by simp
            have y2 : (wr.alloc (.cells #[.int .i64 c.proc, .int .i64 c.obj, .int .i64 c.kind, .int .i64 c.arg, .int .i64 c.ret, .int .i64 c.fr, .int .i64 c.till] 45)).cell? ⟨wr.heap.size, 2, none⟩ = some (.int .i64 c.kind) := by simp
            have y3 : (wr.alloc (.cells #[.int .i64 c.proc, .int .i64 c.obj, .int .i64 c.kind, .int .i64 c.arg, .int .i64 c.ret, .int .i64 c.fr, .int .i64 c.till] 45)).cell? ⟨wr.heap.size, 3, none⟩ = some (.int .i64 c.arg) := by simp
            have y4 : (wr.alloc (.cells #[.int .i64 c.proc, .int .i64 c.obj, .int .i64 c.kind, .int .i64 c.arg, .int .i64 c.ret, .int .i64 c.fr, .int .i64 c.till] 45)).cell? ⟨wr.heap.size, 4, none⟩ = some (.int .i64 c.ret) := by simp
            have y5 : (wr.alloc (.cells #[.int .i64 c.proc, .int .i64 c.obj, .int .i64 c.kind, .int .i64 c.arg, .int .i64 c.ret, .int .i64 c.fr, .int .i64 c.till] 45)).cell? ⟨wr.heap.size, 5, none⟩ = some (.int .i64 c.fr) := by simp
            have y6 : (wr.alloc (.cells #[.int .i64 c.proc, .int .i64 c.obj, .int .i64 c.kind, .int .i64 c.arg, .int .i64 c.ret, .int .i64 c.fr, .int .i64 c.till] 45)).cell? ⟨wr.heap.size, 6, none⟩ = some (.int .i64 c.till) := by simp
            have hb2 : Below wr.heap.size wr (wr.alloc (.cells #[.int .i64 c.proc, .int .i64 c.obj, .int .i64 c.kind, .int .i64 c.arg, .int .i64 c.ret, .int .i64 c.fr, .int .i64 c.till] 45)) := below_alloc (Below.refl _ _) _
            generalize wr.alloc (.cells #[.int .i64 c.proc, .int .i64 c.obj, .int .i64 c.kind, .int .i64 c.arg, .int .i64 c.ret, .int .i64 c.fr, .int .i64 c.till] 45) = w2 at *
            have hbx : wr.heap.size ≠ w.heap.size := by omega
            obtain ⟨bx, hbxe⟩ : ∃ bx, wr.heap.size = bx := ⟨_, rfl⟩
            rw [hbxe] at y0 y1 y2 y3 y4 y5 y6 hbx ⊢
            have Hk2 := Lib.hid (Hk.out.below hb2)
            have Hb2 := Lib.hid (below_trans' Hb.out hb2)
            have Y0 := Lib.hid y0
            have Y1 := Lib.hid y1
            have Y2 := Lib.hid y2
            have Y3 := Lib.hid y3
            have Y4 := Lib.hid y4
            have Y5 := Lib.hid y5
            have Y6 := Lib.hid y6
            have hfe : ((hAt cs i).fr == (t : Int)) = true := by rw [Hc.out]; simpa using Hf.out
            have Hfe := Lib.hid hfe
            clear y0 y1 y2 y3 y4 y5 y6 x0 x1 x2 x3 x4 x5 x6 hb2 hbxe Hk Hb hf hfe
            have hst : lvK cs (tmI cs t (tmT cs t) i) i 0 = tmI cs t (tmT cs t) i := rfl
            have Hst := Lib.hid hst
            clear hst
            go_loopw [28] (fun j wq => ∃ k : Nat, k ≤ n ∧ j = .int .i64 k ∧ Below w.heap.size w wq ∧ w2.grownBy wq (some w.heap.size) ∧ IntBlk wq w.heap.size ((lvK cs (tmI cs t (tmT cs t) i) i k).map Int.ofNat)) (fun j _ => n - (intOf j).toNat)
            case atStart => exact ⟨0, by omega, rfl, Hb2.out, World.grownBy.refl _ _, by rw [Hst.out]; exact Hk2.out⟩
            case round =>
              obtain ⟨k, hk', rfl, hb, hgr, hk⟩ := hrel
              by_cases hkl : k < n
              · obtain ⟨o, ho⟩ : ∃ o, cs[k]? = some o := ⟨cs[k]'(by have := Hn.out; omega), List.getElem?_eq_getElem _⟩
                obtain ⟨z0, z1, z2, z3, z4, z5, z6⟩ := (RowCalls.at7 Hat.out ho).below hb
                have hne : some bx ≠ some w.heap.size := by simpa using hbx
                have y0 := hgr.cell Y0.out hne
                have y1 := hgr.cell Y1.out hne
                have y2 := hgr.cell Y2.out hne
                have y3 := hgr.cell Y3.out hne
                have y4 := hgr.cell Y4.out hne
                have y5 := hgr.cell Y5.out hne
                have y6 := hgr.cell Y6.out hne
                have hbz : bx < wr.heap.size := World.block_lt_of_cell? _ _ y0
                have hgz2 := hk.lt
                have hp : pbef cs k i = befB o c := by rw [pbef, hAt_eq ho, Hc.out]
                have hks := HKS.out t i k
                have hll := HKL.out t i k
                have hlb := HKB.out t i k
                rw [HIL.out, HTL.out] at hll
                have hb1 : t * (n * n) ≤ 30 * (6 * 6) := Nat.mul_le_mul (by omega) (Nat.mul_le_mul (by omega) (by omega))
                have hb2 : i * n ≤ 6 * 6 := Nat.mul_le_mul (by omega) (by omega)
                have ba := hlb i
                have bb := hlb k
                have gi := nat_get (L := lvK cs (tmI cs t (tmT cs t) i) i k) (i := i) (by omega)
                have gk := nat_get (L := lvK cs (tmI cs t (tmT cs t) i) i k) (i := k) (by omega)
                have hks' : lvK cs (tmI cs t (tmT cs t) i) i (k + 1) = if befB o c then (lvK cs (tmI cs t (tmT cs t) i) i k).set i (max ((lvK cs (tmI cs t (tmT cs t) i) i k).getD i 0) ((lvK cs (tmI cs t (tmT cs t) i) i k).getD k 0 + 1)) else lvK cs (tmI cs t (tmT cs t) i) i k := by rw [hks, lvStep, hp]
                have Hks := Lib.hid hks'
                clear hks hks' hlb hp
                generalize lvK cs (tmI cs t (tmT cs t) i) i k = L at *
                have Gi := Lib.hid gi
                have Gk := Lib.hid gk
                obtain ⟨a, ha⟩ : ∃ a, L.getD i 0 = a := ⟨_, rfl⟩
                obtain ⟨d, hd⟩ : ∃ d, L.getD k 0 = d := ⟨_, rfl⟩
                rw [ha] at ba Gi Hks
                rw [hd] at bb Gk Hks
                have HK := Lib.hid hk
                have Hgr := Lib.hid hgr
                have Hb := Lib.hid hb
                have ba2 : a ≤ 2000 := by omega
                have bd2 : d ≤ 2000 := by omega
                clear gi gk ha hd hk hgr hb hll hb1 ba bb
                have ha2 : (a : Int) ≤ 2000 := by omega
                have hd2 : (d : Int) ≤ 2000 := by omega
                have hd0 : (0 : Int) ≤ (d : Int) := by omega
                have hk0 : (0 : Int) ≤ (k : Int) := by omega
                have hkn : (k : Int) < (n : Int) := by omega
                have ho0 := Lib.hid (show befB o c = befB o c from rfl)
                cases hbe : befB o c
                · have Hbe := Lib.hid hbe
                  go_wp2_with fail
                  refine (implIsBefore_calls o c false Hbe.out _).mono ?_
                  rintro e w5 ⟨rfl, hb5⟩
                  have hb5' : Below wr.heap.size wr w5 := (below_alloc (Below.refl _ _) _).trans (hb5.mono (by simp))
                  go_wp2_with fail
                  go_roundw
                  case rel => exact ⟨k + 1, by omega, by go_num, below_trans' Hb.out hb5', lbut_trans Hgr.out (lbut_below hb5'), by rw [Hks.out, Hbe.out]; exact HK.out.below hb5'⟩
                  case measure => simp [intOf]; omega
                · have Hbe := Lib.hid hbe
                  go_wp2_with fail
                  refine (implIsBefore_calls o c true Hbe.out _).mono ?_
                  rintro e w5 ⟨rfl, hb5⟩
                  have hb5' : Below wr.heap.size wr w5 := (below_alloc (Below.refl _ _) _).trans (hb5.mono (by simp))
                  have K5 := HK.out.below hb5'
                  have ci := K5.cell Gi.out
                  have ck := K5.cell Gk.out
                  have fi := K5.free (i := i)
                  have hg5 := K5.lt
                  have ew : IntKind.i64.wrap ((d : Int) + 1) = (d : Int) + 1 := IntWalk.i64_in _ (by omega)
                  have HK5 := Lib.hid K5
                  have Hb5 := Lib.hid hb5'
                  clear K5 hb5 hb5'
                  go_wp2_with fail
                  go_region
                  all_goals go_wp2_with fail
                  have hval : (if (a : Int) < (d : Int) + 1 then (d : Int) + 1 else (a : Int)) = ((max a (d + 1) : Nat) : Int) := by split <;> omega
                  rw [hval]
                  have hs5 := lset_grown w5 w.heap.size i (.int .i64 ((max a (d + 1) : Nat) : Int))
                  have K6 := HK5.out.set_ (i := i) ((max a (d + 1) : Nat) : Int)
                  rw [map_set] at K6
                  refine ⟨⟨k + 1, by omega, by go_num, ?_, lbut_trans Hgr.out (lbut_trans (lbut_below Hb5.out) ⟨hs5.os, hs5.tape, hs5.output, hs5.size, hs5.block⟩), ?_⟩, by simp [intOf]; omega⟩
                  · have hb6 : Below w.heap.size w5 (w5.setCell ⟨w.heap.size, i, none⟩ (.int .i64 ((max a (d + 1) : Nat) : Int))) := ⟨hs5.os, hs5.tape, hs5.output, hs5.size, fun q hq => hs5.block q (by omega) (by simp; omega)⟩
                    exact (below_trans' Hb.out Hb5.out).trans ⟨hb6.os, hb6.tape, hb6.output, hb6.size, hb6.block⟩
                  · rw [Hks.out, Hbe.out, if_pos rfl]
                    exact K6
              · have e1 : k = n := by omega
                subst e1
                have hge : ¬ ((k : Int) < (k : Int)) := by omega
                go_wp2_with fail
                go_roundw
                case rel => exact ⟨i + 1, by omega, by go_num, hb, by rw [HIS.out, Hfe.out, if_pos rfl]; exact hk⟩
                case measure => simp [intOf]; omega
          · have Hf := Lib.hid hf
            go_wp2_with fail
            go_roundw
            case rel =>
              refine ⟨i + 1, by omega, by go_num, below_alloc Hb.out _, ?_⟩
              have : ((hAt cs i).fr == (t : Int)) = false := by rw [Hc.out]; simpa using Hf.out
              rw [HIS.out, this]
              exact Hk.out.below (below_alloc (Below.refl _ _) _)
            case measure => simp [intOf]; omega
        · have e1 : i = n := by omega
          subst e1
          have hge : ¬ ((i : Int) < (i : Int)) := by omega
          go_wp2_with fail
          go_roundw
          case rel => exact ⟨t + 1, by omega, by go_num, hb, by rw [HTS.out]; exact hk⟩
          case measure => simp [intOf]; omega
    · have e1 : t = 31 := by omega
      subst e1
      have hge : ¬ (((31 : Nat) : Int) < 31) := by omega
      have HO := Lib.hid (hk.own (base := w.heap.size) (n := n) (by simp [HTL.out]) (Nat.le_refl _) (by unfold maxLen; omega))
      have Hb := Lib.hid hb
      clear hk hb
      go_wp2_with fail
      go_ret
      exact ⟨_, rfl, HO.out, Hb.out⟩
end Go.Proofs.Ytoeecaeaobfhmaa
