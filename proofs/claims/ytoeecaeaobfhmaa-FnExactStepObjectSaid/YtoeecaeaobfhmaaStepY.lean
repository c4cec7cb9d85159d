/-
  The reference's step of a set, way by way: what it leaves. No condition but a state of at most a thousand numbers.
-/
import Derived.Test.YtoeecaeaobfhmaaStepX
namespace Go.Proofs.Ytoeecaeaobfhmaa
open Go.RowKit Go.Deep
set_option maxRecDepth 100000

set_option maxHeartbeats 4000000 in
theorem step_put_set_new (s : ByteArray) (st : List Int) (A : Option Addr) (n cap : Nat) (c : CallD) (w : World) (hr : RowInts w A st) (hn : st.length = n) (hl : n ≤ 1000)
    (hs : s.toList = [115, 101, 116]) (ha : st.any (· == c.arg) = false) (hk : (c.kind == 0) = true) :
    Calls Try.prog 71 #[.string s, .slice A n cap, c.val] w fun e w' => StepTo w w' A n (st ++ [c.arg]) (c.ret == 1) e := by
  have hl' : (n : Int) ≤ 1000 := by omega
  obtain ⟨i0, hi0, hz0, hz1, hz2⟩ := info_parts stepx_info
  have HR := Lib.hid hr
  have HA := Lib.hid ha
  have HN := Lib.hid hn
  clear hr hn ha
  go_enter Try.func71, Try.ntmps71
  go_wp2_with (go_at_call 77; refine (hasInt_of st n A cap c.arg _ (HR.out.below (by repeat (first | exact Below.refl _ _ | assumption | refine below_alloc ?_ _ | refine below_trans' ?_ (by assumption) | refine Below.drew ?_))) HN.out (by omega)).mono ?_; rw [HA.out]; rintro e w1 ⟨rfl, rfl⟩)
  have b3 := step_box c w 45 3 _ rfl
  have b4 := step_box c w 45 4 _ rfl
  have hbl : Below w.heap.size w (w.alloc (.cells #[.int .i64 c.proc, .int .i64 c.obj, .int .i64 c.kind, .int .i64 c.arg, .int .i64 c.ret, .int .i64 c.fr, .int .i64 c.till] 45)) := below_alloc (Below.refl _ _) _
  have hz := World.size_alloc w (.cells #[.int .i64 c.proc, .int .i64 c.obj, .int .i64 c.kind, .int .i64 c.arg, .int .i64 c.ret, .int .i64 c.fr, .int .i64 c.till] 45)
  generalize w.alloc (.cells #[.int .i64 c.proc, .int .i64 c.obj, .int .i64 c.kind, .int .i64 c.arg, .int .i64 c.ret, .int .i64 c.fr, .int .i64 c.till] 45) = W at *
  obtain ⟨H, hH⟩ : ∃ H, w.heap.size = H := ⟨_, rfl⟩
  rw [hH] at b3 b4 hz ⊢
  have HBL := Lib.hid hbl
  have HRW := Lib.hid (HR.out.below hbl)
  clear hbl
  have HL := Lib.hid (show (st.flatMap intVals).length = n * 1 by rw [ints_flat_len, HN.out])
  have HA0 := Lib.hid (show A = none → n = 0 from fun e => by have := (RowOf.src1 HRW.out).2 e; have := HN.out; omega)
  have HB1 := Lib.hid (show 0 + n ≤ maxLen by unfold maxLen; omega)
  have HB2 := Lib.hid (show (0 + n) * 8 ≤ 140737488355328 by omega)
  have HB3 := Lib.hid (show 0 + n + 1 ≤ maxLen by unfold maxLen; omega)
  have HB4 := Lib.hid (show (0 + n + 1) * 8 ≤ 140737488355328 by omega)
  have HZA := Lib.hid (show ∀ o, (W.alloc o).heap.size = H + 1 + 1 from fun o => by rw [World.size_alloc, hz])
  have HZB := Lib.hid (show ∀ o p, ((W.alloc o).alloc p).heap.size = H + 1 + 1 + 1 from fun o p => by rw [World.size_alloc, World.size_alloc, hz])
  go_region_held3 (fun w' => w'.cell? ⟨H, 3, none⟩ = some (.int .i64 c.arg) ∧ w'.cell? ⟨H, 4, none⟩ = some (.int .i64 c.ret)) (first | exact ⟨m3, m4⟩ | exact ⟨k3, k4⟩ | go_keep)
    (first
      | (refine step_append_any _ rfl (.tmp 76) (.tmp 77) 24 rfl (H + 1) 3 i0 _ 1 8 Try.underlying24 hi0 hz0 hz1 hz2 rfl (by omega) (.slice (some ⟨_, 0, none⟩) 0 0) 0 [] rfl (own_empty ?_ ?_) A n cap (st.flatMap intVals) rfl HL.out (RowOf.src1 ?_).1 HA0.out (ints_ones st) HB1.out HB2.out ?_ ?_; (first | exact heap_alloc_new' hz | exact heap_alloc_new' (HZA.out _) | exact heap_alloc_mid hz); omega; exact HRW.out.below (by repeat (first | exact Below.refl _ _ | assumption | refine below_alloc ?_ _ | refine below_trans' ?_ (by assumption) | refine Below.drew ?_)); exact le_of_below hz (by repeat (first | exact Below.refl _ _ | assumption | refine below_alloc ?_ _ | refine below_trans' ?_ (by assumption) | refine Below.drew ?_)); intro v1 w1 ho1 hg1 hat1; have hs1 : H + 1 ≤ w1.heap.size := Nat.le_trans (le_of_below hz (by repeat (first | exact Below.refl _ _ | assumption | refine below_alloc ?_ _ | refine below_trans' ?_ (by assumption) | refine Below.drew ?_))) hg1.size; have k3 := hg1.cell (a := ⟨H, 3, none⟩) (cell_below (w := W) (by repeat (first | exact Below.refl _ _ | assumption | refine below_alloc ?_ _ | refine below_trans' ?_ (by assumption) | refine Below.drew ?_)) b3) (ne_blk (by omega)); have k4 := hg1.cell (a := ⟨H, 4, none⟩) (cell_below (w := W) (by repeat (first | exact Below.refl _ _ | assumption | refine below_alloc ?_ _ | refine below_trans' ?_ (by assumption) | refine Below.drew ?_)) b4) (ne_blk (by omega)); have hb1 : Below W.heap.size W w1 := Below.grown (w' := _) (by repeat (first | exact Below.refl _ _ | assumption | refine below_alloc ?_ _ | refine below_trans' ?_ (by assumption) | refine Below.drew ?_)) hg1 (le_of_below rfl (by repeat (first | exact Below.refl _ _ | assumption | refine below_alloc ?_ _ | refine below_trans' ?_ (by assumption) | refine Below.drew ?_))) (fun k hk => by simp only [Value.ownBlock, Option.some.injEq] at hk; omega))
      | (refine step_append_any _ rfl (.tmp 78) (.tmp 81) 24 rfl (H + 1) 3 i0 _ 1 8 Try.underlying24 hi0 hz0 hz1 hz2 rfl (by omega) v1 (0 + n) ([] ++ st.flatMap intVals) rfl ?_ _ 1 1 [.int .i64 c.arg] rfl rfl (news_of_cell ?_) ?_ (int_one c.arg) HB3.out HB4.out ?_ ?_; (first | exact ho1 | exact own_below ho1 (by repeat (first | exact Below.refl _ _ | assumption | refine below_alloc ?_ _ | refine below_trans' ?_ (by assumption) | refine Below.drew ?_))); (first | exact cell_new0 _ _ _ | exact hg1.cell (cell_new1 hz _ _ _) (ne_blk (by omega)) | exact hg1.cell (cell_new2 hz _ _ _) (ne_blk (by omega))); (intro e; cases e); exact Nat.le_trans hs1 (le_of_below rfl (by repeat (first | exact Below.refl _ _ | assumption | refine below_alloc ?_ _ | refine below_trans' ?_ (by assumption) | refine Below.drew ?_))); intro v2 w2 ho2 hg2 hat2; have m3 := hg2.cell (a := ⟨H, 3, none⟩) (cell_below (w := w1) (by repeat (first | exact Below.refl _ _ | assumption | refine below_alloc ?_ _ | refine below_trans' ?_ (by assumption) | refine Below.drew ?_)) k3) (fun e => by have := (ho1.lt H e.symm).1; omega); have m4 := hg2.cell (a := ⟨H, 4, none⟩) (cell_below (w := w1) (by repeat (first | exact Below.refl _ _ | assumption | refine below_alloc ?_ _ | refine below_trans' ?_ (by assumption) | refine Below.drew ?_)) k4) (fun e => by have := (ho1.lt H e.symm).1; omega); have hb2 : Below W.heap.size W w2 := Below.grown (w' := _) (below_trans' hb1 (by repeat (first | exact Below.refl _ _ | assumption | refine below_alloc ?_ _ | refine below_trans' ?_ (by assumption) | refine Below.drew ?_))) hg2 (by rw [hz]; exact Nat.le_trans hs1 (le_of_below rfl (by repeat (first | exact Below.refl _ _ | assumption | refine below_alloc ?_ _ | refine below_trans' ?_ (by assumption) | refine Below.drew ?_)))) (fun k hk => by rw [hz]; exact (ho1.lt k hk).1)))
  all_goals
    go_wp2_with fail
    go_ret2
    subst hH
    refine StepTo.own (n := 0 + n + 1) ?_ (by simp [HN.out]) (HBL.out.trans (hb2.mono (by omega)))
    simpa [intVals] using own_base ho2 (by omega)
set_option maxHeartbeats 1000000 in
theorem step_put_set_same (s : ByteArray) (st : List Int) (A : Option Addr) (n cap : Nat) (c : CallD) (w : World) (hr : RowInts w A st) (hn : st.length = n) (hnc : n ≤ cap) (hcm : cap ≤ maxLen) (hl : n ≤ 1000)
    (hs : s.toList = [115, 101, 116]) (ha : st.any (· == c.arg) = true) (hk : (c.kind == 0) = true) :
    Calls Try.prog 71 #[.string s, .slice A n cap, c.val] w fun e w' => StepTo w w' A n st (c.ret == 0) e := by
  have hl' : (n : Int) ≤ 1000 := by omega
  have HR := Lib.hid hr
  have HN := Lib.hid hn
  have HA := Lib.hid ha
  clear hr hn ha
  go_enter Try.func71, Try.ntmps71
  go_wp2_with (go_at_call 77; refine (hasInt_of st n A cap c.arg _ (HR.out.below (by repeat (first | exact Below.refl _ _ | assumption | refine below_alloc ?_ _ | refine below_trans' ?_ (by assumption) | refine Below.drew ?_))) HN.out (by omega)).mono ?_; rw [HA.out]; rintro e w1 ⟨rfl, rfl⟩)
  refine wp_region_grow (by kernel_rfl) (by kernel_rfl) ?_
  repeat (go_big_quiet_step (fail))
  refine wpQuiet_end ?_
  intro w1 hb1
  go_wp2_with fail
  go_ret2
  exact StepTo.same HR.out HN.out hnc hcm (by repeat (first | exact Below.refl _ _ | assumption | refine below_alloc ?_ _ | refine below_trans' ?_ (by assumption) | refine Below.drew ?_))
set_option maxHeartbeats 1000000 in
theorem step_look_set_has (s : ByteArray) (st : List Int) (A : Option Addr) (n cap : Nat) (c : CallD) (w : World) (hr : RowInts w A st) (hn : st.length = n) (hnc : n ≤ cap) (hcm : cap ≤ maxLen) (hl : n ≤ 1000)
    (hs : s.toList = [115, 101, 116]) (ha : st.any (· == c.arg) = true) (hk0 : (c.kind == 0) = false) (hk : (c.kind == 2) = true) :
    Calls Try.prog 71 #[.string s, .slice A n cap, c.val] w fun e w' => StepTo w w' A n st (c.ret == 1) e := by
  have hl' : (n : Int) ≤ 1000 := by omega
  have HR := Lib.hid hr
  have HN := Lib.hid hn
  have HA := Lib.hid ha
  clear hr hn ha
  go_enter Try.func71, Try.ntmps71
  go_wp2_with (go_at_call 77; refine (hasInt_of st n A cap c.arg _ (HR.out.below (by repeat (first | exact Below.refl _ _ | assumption | refine below_alloc ?_ _ | refine below_trans' ?_ (by assumption) | refine Below.drew ?_))) HN.out (by omega)).mono ?_; rw [HA.out]; rintro e w1 ⟨rfl, rfl⟩)
  refine wp_region_grow (by kernel_rfl) (by kernel_rfl) ?_
  repeat (go_big_quiet_step (fail))
  refine wpQuiet_end ?_
  intro w1 hb1
  go_wp2_with fail
  go_ret2
  exact StepTo.same HR.out HN.out hnc hcm (by repeat (first | exact Below.refl _ _ | assumption | refine below_alloc ?_ _ | refine below_trans' ?_ (by assumption) | refine Below.drew ?_))
set_option maxHeartbeats 1000000 in
theorem step_look_set_not (s : ByteArray) (st : List Int) (A : Option Addr) (n cap : Nat) (c : CallD) (w : World) (hr : RowInts w A st) (hn : st.length = n) (hnc : n ≤ cap) (hcm : cap ≤ maxLen) (hl : n ≤ 1000)
    (hs : s.toList = [115, 101, 116]) (ha : st.any (· == c.arg) = false) (hk0 : (c.kind == 0) = false) (hk : (c.kind == 2) = true) :
    Calls Try.prog 71 #[.string s, .slice A n cap, c.val] w fun e w' => StepTo w w' A n st (c.ret == 0) e := by
  have hl' : (n : Int) ≤ 1000 := by omega
  have HR := Lib.hid hr
  have HN := Lib.hid hn
  have HA := Lib.hid ha
  clear hr hn ha
  go_enter Try.func71, Try.ntmps71
  go_wp2_with (go_at_call 77; refine (hasInt_of st n A cap c.arg _ (HR.out.below (by repeat (first | exact Below.refl _ _ | assumption | refine below_alloc ?_ _ | refine below_trans' ?_ (by assumption) | refine Below.drew ?_))) HN.out (by omega)).mono ?_; rw [HA.out]; rintro e w1 ⟨rfl, rfl⟩)
  refine wp_region_grow (by kernel_rfl) (by kernel_rfl) ?_
  repeat (go_big_quiet_step (fail))
  refine wpQuiet_end ?_
  intro w1 hb1
  go_wp2_with fail
  go_ret2
  exact StepTo.same HR.out HN.out hnc hcm (by repeat (first | exact Below.refl _ _ | assumption | refine below_alloc ?_ _ | refine below_trans' ?_ (by assumption) | refine Below.drew ?_))
theorem RowInts.from_ {W : World} {bk off : Nat} {st : List Int} (hat : ∀ i c, st[i]? = some c → ∀ j u, (intVals c)[j]? = some u → W.cell? ⟨bk, off + i * 1 + j, none⟩ = some u) (k : Nat) : RowInts W (some ⟨bk, off + k, none⟩) (st.drop k) := by
  intro _
  refine ⟨bk, off + k, rfl, fun i c hi j u hu => ?_⟩
  rw [List.getElem?_drop] at hi
  have h := hat (k + i) c hi j u hu
  have e : off + k + i * 1 + j = off + (k + i) * 1 + j := by omega
  rw [e]; exact h
theorem erase_at : ∀ (st : List Int) (k : Nat) (a : Int), (st.take k).any (· == a) = false → st[k]? = some a → st.erase a = st.take k ++ st.drop (k + 1)
  | [], k, _, _, h => by simp at h
  | x :: xs, 0, a, _, h => by
    simp only [List.getElem?_cons_zero, Option.some.injEq] at h
    subst h
    simp
  | x :: xs, k + 1, a, hn, h => by
    simp only [List.getElem?_cons_succ] at h
    simp only [List.take_succ_cons, List.any_cons, Bool.or_eq_false_iff] at hn
    rw [List.erase_cons, if_neg (by rw [hn.1]; simp), erase_at xs k a hn.2 h]
    rfl
theorem erase_none (st : List Int) (a : Int) (h : st.any (· == a) = false) : st.erase a = st := by
  refine List.erase_of_not_mem fun hm => ?_
  have : st.any (· == a) = true := List.any_eq_true.2 ⟨a, hm, by simp⟩
  rw [h] at this
  cases this

set_option maxHeartbeats 4000000 in
theorem step_take_set (s : ByteArray) (st : List Int) (A : Option Addr) (n cap : Nat) (c : CallD) (w : World) (hr : RowInts w A st) (hn : st.length = n) (hnc : n ≤ cap) (hcm : cap ≤ maxLen) (hl : n ≤ 1000)
    (hs : s.toList = [115, 101, 116]) (hk0 : (c.kind == 0) = false) (hk2 : (c.kind == 2) = false) (b : Bool) (hb : (c.ret == (if st.any (· == c.arg) then 1 else 0)) = b) :
    Calls Try.prog 71 #[.string s, .slice A n cap, c.val] w fun e w' => StepTo w w' A n (st.erase c.arg) b e := by
  have hl' : (n : Int) ≤ 1000 := by omega
  have hnc' : (n : Int) ≤ (cap : Int) := by omega
  have hcm' : (cap : Int) ≤ 9223372036854775807 := by unfold maxLen at hcm; omega
  obtain ⟨i0, hi0, hz0, hz1, hz2⟩ := info_parts stepx_info
  have HR := Lib.hid hr
  have HN := Lib.hid hn
  have HBB := Lib.hid hb
  clear hr hn hb
  go_enter Try.func71, Try.ntmps71
  go_wp2_with fail
  have b3 := step_box c w 45 3 _ rfl
  have b4 := step_box c w 45 4 _ rfl
  have hbl : Below w.heap.size w (w.alloc (.cells #[.int .i64 c.proc, .int .i64 c.obj, .int .i64 c.kind, .int .i64 c.arg, .int .i64 c.ret, .int .i64 c.fr, .int .i64 c.till] 45)) := below_alloc (Below.refl _ _) _
  have hz := World.size_alloc w (.cells #[.int .i64 c.proc, .int .i64 c.obj, .int .i64 c.kind, .int .i64 c.arg, .int .i64 c.ret, .int .i64 c.fr, .int .i64 c.till] 45)
  generalize w.alloc (.cells #[.int .i64 c.proc, .int .i64 c.obj, .int .i64 c.kind, .int .i64 c.arg, .int .i64 c.ret, .int .i64 c.fr, .int .i64 c.till] 45) = W at *
  obtain ⟨H, hH⟩ : ∃ H, w.heap.size = H := ⟨_, rfl⟩
  rw [hH] at b3 b4 hz ⊢
  have HBL := Lib.hid hbl
  have HRW := Lib.hid (HR.out.below hbl)
  have B3 := Lib.hid b3
  have B4 := Lib.hid b4
  clear hbl b3 b4
  go_loopw [9] (fun i wr => ∃ k : Nat, k ≤ n ∧ i = .int .i64 k ∧ Hid ((st.take k).any (· == c.arg) = false) ∧ Below W.heap.size W wr) (fun i _ => n - (intOf i).toNat)
  case atStart => exact ⟨0, by omega, rfl, by show _ = _; simp, Below.refl _ _⟩
  case round =>
    obtain ⟨k, hk, rfl, HK, hbr⟩ := hrel
    obtain ⟨wo, rfl⟩ : ∃ wo : World, wo = wr := ⟨_, rfl⟩
    have b3 := cell_below hbr B3.out
    have b4 := cell_below hbr B4.out
    have HRo := Lib.hid (HRW.out.below hbr)
    have hzo := hbr.size
    rw [hz] at hzo
    have hHo : H < wo.heap.size := by omega
    by_cases hlt : k < n
    · obtain ⟨bk, off, rfl, hat⟩ := HRo.out (by have := HN.out; omega)
      obtain ⟨x, hx⟩ : ∃ y, st[k]? = some y := ⟨st[k]'(by have := HN.out; omega), List.getElem?_eq_getElem _⟩
      have c0 := RowInts.at_ hat hx
      have hbk := World.block_lt_of_cell? _ _ c0
      dsimp only at hbk
      have hst : (st.take (k + 1)).any (· == c.arg) = ((st.take k).any (· == c.arg) || x == c.arg) := by rw [List.take_add_one, hx, List.any_append]; simp
      have hal : (x == c.arg) = true → st.any (· == c.arg) = true ∧ st.erase c.arg = st.take k ++ st.drop (k + 1) := fun e => ⟨List.any_eq_true.2 ⟨x, List.mem_of_getElem? hx, e⟩, erase_at st k c.arg HK.out (by rw [hx]; simpa using e)⟩
      have Hst := Lib.hid hst
      have Hal := Lib.hid hal
      have HDr := Lib.hid (RowInts.from_ hat (k + 1))
      have HBR := Lib.hid hbr
      clear hat hx hst hal hbr
      have hk0 : (0 : Int) ≤ (k : Int) := by omega
      have hkn : (k : Int) < (n : Int) := by omega
      cases hq : (x == c.arg)
      · have Hq : Hid ((st.take (k + 1)).any (· == c.arg) = false) := by show _ = _; rw [Hst.out, HK.out, hq]; rfl
        go_wp2_with fail
        refine wp_region_grow (by kernel_rfl) (by kernel_rfl) ?_
        repeat (go_big_quiet_step (fail))
        refine wpQuiet_end ?_
        intro w1 hb1
        go_wp2_with fail
        go_roundw
        case rel => exact ⟨k + 1, by omega, by go_num, Hq, below_trans' HBR.out hb1⟩
        case measure => simp [intOf]; omega
      · obtain ⟨h1, h2⟩ := Hal.out hq
        have hb := HBB.out
        rw [h1, if_pos rfl] at hb
        have HBe := Lib.hid hb
        have HE := Lib.hid h2
        clear h1 h2 hb
        go_wp2_with fail
        refine wp_region_grow (by kernel_rfl) (by kernel_rfl) ?_
        repeat (go_big_quiet_step (fail))
        refine wpQuiet_end ?_
        intro w1 hb1
        have m3' := cell_below hb1 b3
        have m4' := cell_below hb1 b4
        have HR1 := Lib.hid (HRo.out.below hb1)
        have HD1 := Lib.hid (HDr.out.below hb1)
        have hs1 : H + 1 ≤ w1.heap.size := by have := hb1.size; omega
        have HB1 := Lib.hid (below_trans' HBR.out hb1)
        clear b3 b4 hb1
        obtain ⟨G, hzG⟩ : ∃ G, w1.heap.size = G := ⟨_, rfl⟩
        rw [hzG] at hs1
        have HL1 := Lib.hid (show ((st.take k).flatMap intVals).length = k * 1 by rw [ints_flat_len, List.length_take, HN.out, Nat.min_eq_left (by omega)])
        have HL2 := Lib.hid (show ((st.drop (k + 1)).flatMap intVals).length = (n - (k + 1)) * 1 by rw [ints_flat_len, List.length_drop, HN.out])
        have HA1 := Lib.hid (show (some (⟨bk, off, none⟩ : Addr)) = none → k = 0 from fun e => by cases e)
        have HB11 := Lib.hid (show 0 + k ≤ maxLen by unfold maxLen; omega)
        have HB12 := Lib.hid (show (0 + k) * 8 ≤ 140737488355328 by omega)
        have HB21 := Lib.hid (show 0 + k + (n - (k + 1)) ≤ maxLen by unfold maxLen; omega)
        have HB22 := Lib.hid (show (0 + k + (n - (k + 1))) * 8 ≤ 140737488355328 by omega)
        have hk1 : (k : Int) + 1 ≤ (n : Int) := by omega
        have hkc : (k : Int) ≤ (cap : Int) := by omega
        have hkc1 : (k : Int) + 1 ≤ (cap : Int) := by omega
        have hk00 : (0 : Int) ≤ (k : Int) + 1 := by omega
        have ew : IntKind.i64.wrap ((k : Int) + 1) = (k : Int) + 1 := IntWalk.i64_in _ (by omega)
        by_cases hc1 : cap = k + 1
        · subst hc1
          have hkk : (k : Int) ≤ (k : Int) + 1 := by omega
          have hnc2 : (n : Int) ≤ (k : Int) + 1 := by omega
          have hcm2 : (k : Int) + 1 ≤ 9223372036854775807 := by omega
          clear hkc hkc1 hnc' hcm'
          have HD0 := Lib.hid (show st.drop (k + 1) = [] from List.drop_of_length_le (by have := HN.out; omega))
          have hnk : n = k + 1 := by omega
          have HNK := Lib.hid hnk
          clear hnk
          go_wp2_with fail
          go_region_held3 (fun w' => w'.cell? ⟨H, 3, none⟩ = some (.int .i64 c.arg) ∧ w'.cell? ⟨H, 4, none⟩ = some (.int .i64 c.ret)) (first | exact ⟨m3, m4⟩ | exact ⟨k3, k4⟩ | go_keep)
            (first
              | (refine step_append_any _ rfl (.tmp 210) (.tmp 213) 24 rfl G 3 i0 _ 1 8 Try.underlying24 hi0 hz0 hz1 hz2 rfl (by omega) (.slice (some ⟨_, 0, none⟩) 0 0) 0 [] rfl (own_empty ?_ ?_) (some ⟨bk, off, none⟩) k (k + 1) ((st.take k).flatMap intVals) rfl HL1.out (RowOf.src1 ?_).1 HA1.out (ints_ones (st.take k)) HB11.out HB12.out ?_ ?_; exact heap_alloc_new' hzG; exact Nat.le_refl _; exact (HR1.out.take k).below (by repeat (first | exact Below.refl _ _ | assumption | refine below_alloc ?_ _ | refine below_trans' ?_ (by assumption) | refine Below.drew ?_)); exact le_of_below hzG (by repeat (first | exact Below.refl _ _ | assumption | refine below_alloc ?_ _ | refine below_trans' ?_ (by assumption) | refine Below.drew ?_)); intro v2 w2 ho1 hg1 hat1; have hs2 : G ≤ w2.heap.size := Nat.le_trans (le_of_below hzG (by repeat (first | exact Below.refl _ _ | assumption | refine below_alloc ?_ _ | refine below_trans' ?_ (by assumption) | refine Below.drew ?_))) hg1.size; have k3 := hg1.cell (a := ⟨H, 3, none⟩) (cell_below (w := w1) (by repeat (first | exact Below.refl _ _ | assumption | refine below_alloc ?_ _ | refine below_trans' ?_ (by assumption) | refine Below.drew ?_)) m3') (ne_blk (by omega)); have k4 := hg1.cell (a := ⟨H, 4, none⟩) (cell_below (w := w1) (by repeat (first | exact Below.refl _ _ | assumption | refine below_alloc ?_ _ | refine below_trans' ?_ (by assumption) | refine Below.drew ?_)) m4') (ne_blk (by omega)); have hb2 : Below w1.heap.size w1 w2 := Below.grown (w' := _) (by repeat (first | exact Below.refl _ _ | assumption | refine below_alloc ?_ _ | refine below_trans' ?_ (by assumption) | refine Below.drew ?_)) hg1 (le_of_below rfl (by repeat (first | exact Below.refl _ _ | assumption | refine below_alloc ?_ _ | refine below_trans' ?_ (by assumption) | refine Below.drew ?_))) (fun k hk => by simp only [Value.ownBlock, Option.some.injEq] at hk; omega))
              | (refine step_append_any _ rfl (.tmp 214) (.tmp 218) 24 rfl G 3 i0 _ 1 8 Try.underlying24 hi0 hz0 hz1 hz2 rfl (by omega) v2 (0 + k) ([] ++ (st.take k).flatMap intVals) rfl ho1 (some ⟨bk, off, none⟩) 0 0 [] rfl rfl (fun _ _ j u h => by simp at h) (fun e => by cases e) (fun u h => by simp at h) HB11.out HB12.out hs2 ?_; intro v3 w3 ho2 hg2 hat2; have m3 := hg2.cell (a := ⟨H, 3, none⟩) k3 (fun e => by have := (ho1.lt H e.symm).1; omega); have m4 := hg2.cell (a := ⟨H, 4, none⟩) k4 (fun e => by have := (ho1.lt H e.symm).1; omega); have hb3 : Below w1.heap.size w1 w3 := Below.grown (w' := _) hb2 hg2 (by rw [hzG]; exact hs2) (fun k hk => by rw [hzG]; exact (ho1.lt k hk).1)))
          all_goals
            go_wp2_with fail
            go_ret2
            rw [HBe.out]
            subst hH
            refine StepTo.own (n := 0 + k + 0) ?_ (by rw [HE.out, HD0.out]; simp [HN.out, HNK.out]) (HBL.out.trans ((below_trans' HB1.out hb3).mono (by omega)))
            rw [HE.out, HD0.out]
            simpa using own_base ho2 (by omega)
        · skip
          go_wp2_with fail
          go_region_held3 (fun w' => w'.cell? ⟨H, 3, none⟩ = some (.int .i64 c.arg) ∧ w'.cell? ⟨H, 4, none⟩ = some (.int .i64 c.ret)) (first | exact ⟨m3, m4⟩ | exact ⟨k3, k4⟩ | go_keep)
            (first
              | (refine step_append_any _ rfl (.tmp 210) (.tmp 213) 24 rfl G 3 i0 _ 1 8 Try.underlying24 hi0 hz0 hz1 hz2 rfl (by omega) (.slice (some ⟨_, 0, none⟩) 0 0) 0 [] rfl (own_empty ?_ ?_) (some ⟨bk, off, none⟩) k cap ((st.take k).flatMap intVals) rfl HL1.out (RowOf.src1 ?_).1 HA1.out (ints_ones (st.take k)) HB11.out HB12.out ?_ ?_; exact heap_alloc_new' hzG; exact Nat.le_refl _; exact (HR1.out.take k).below (by repeat (first | exact Below.refl _ _ | assumption | refine below_alloc ?_ _ | refine below_trans' ?_ (by assumption) | refine Below.drew ?_)); exact le_of_below hzG (by repeat (first | exact Below.refl _ _ | assumption | refine below_alloc ?_ _ | refine below_trans' ?_ (by assumption) | refine Below.drew ?_)); intro v2 w2 ho1 hg1 hat1; have hs2 : G ≤ w2.heap.size := Nat.le_trans (le_of_below hzG (by repeat (first | exact Below.refl _ _ | assumption | refine below_alloc ?_ _ | refine below_trans' ?_ (by assumption) | refine Below.drew ?_))) hg1.size; have k3 := hg1.cell (a := ⟨H, 3, none⟩) (cell_below (w := w1) (by repeat (first | exact Below.refl _ _ | assumption | refine below_alloc ?_ _ | refine below_trans' ?_ (by assumption) | refine Below.drew ?_)) m3') (ne_blk (by omega)); have k4 := hg1.cell (a := ⟨H, 4, none⟩) (cell_below (w := w1) (by repeat (first | exact Below.refl _ _ | assumption | refine below_alloc ?_ _ | refine below_trans' ?_ (by assumption) | refine Below.drew ?_)) m4') (ne_blk (by omega)); have hb2 : Below w1.heap.size w1 w2 := Below.grown (w' := _) (by repeat (first | exact Below.refl _ _ | assumption | refine below_alloc ?_ _ | refine below_trans' ?_ (by assumption) | refine Below.drew ?_)) hg1 (le_of_below rfl (by repeat (first | exact Below.refl _ _ | assumption | refine below_alloc ?_ _ | refine below_trans' ?_ (by assumption) | refine Below.drew ?_))) (fun k hk => by simp only [Value.ownBlock, Option.some.injEq] at hk; omega))
              | (refine step_append_any _ rfl (.tmp 214) (.tmp 218) 24 rfl G 3 i0 _ 1 8 Try.underlying24 hi0 hz0 hz1 hz2 rfl (by omega) v2 (0 + k) ([] ++ (st.take k).flatMap intVals) rfl ho1 (some ⟨bk, off + (k + 1), none⟩) (n - (k + 1)) (cap - (k + 1)) ((st.drop (k + 1)).flatMap intVals) rfl HL2.out (RowOf.src1 ?_).1 (fun e => by cases e) (ints_ones (st.drop (k + 1))) HB21.out HB22.out hs2 ?_; exact HD1.out.below hb2; intro v3 w3 ho2 hg2 hat2; have m3 := hg2.cell (a := ⟨H, 3, none⟩) k3 (fun e => by have := (ho1.lt H e.symm).1; omega); have m4 := hg2.cell (a := ⟨H, 4, none⟩) k4 (fun e => by have := (ho1.lt H e.symm).1; omega); have hb3 : Below w1.heap.size w1 w3 := Below.grown (w' := _) hb2 hg2 (by rw [hzG]; exact hs2) (fun k hk => by rw [hzG]; exact (ho1.lt k hk).1)))
          all_goals
            go_wp2_with fail
            go_ret2
            rw [HBe.out]
            subst hH
            refine StepTo.own (n := 0 + k + (n - (k + 1))) ?_ (by rw [HE.out]; simp [HN.out]; omega) (HBL.out.trans ((below_trans' HB1.out hb3).mono (by omega)))
            rw [HE.out]
            simpa using own_base ho2 (by omega)
    · have hge : ¬ ((k : Int) < (n : Int)) := by omega
      have e1 : st.any (· == c.arg) = false := by
        have := HK.out
        rwa [List.take_of_length_le (by have := HN.out; omega)] at this
      have E1 := Lib.hid e1
      clear e1
      have HBR := Lib.hid hbr
      clear hbr
      go_wp2_with fail
      refine wp_region_grow (by kernel_rfl) (by kernel_rfl) ?_
      repeat (go_big_quiet_step (fail))
      refine wpQuiet_end ?_
      intro w1 hb1
      go_wp2_with fail
      go_ret2
      have hb := HBB.out
      rw [E1.out] at hb
      rw [erase_none st _ E1.out, ← hb]
      subst hH
      exact StepTo.same HR.out HN.out hnc hcm (HBL.out.trans ((below_trans' HBR.out hb1).mono (by omega)))
end Go.Proofs.Ytoeecaeaobfhmaa
