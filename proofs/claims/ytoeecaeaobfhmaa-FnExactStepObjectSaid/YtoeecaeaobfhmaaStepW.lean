/-
  The reference's step of an object, way by way: what it leaves. No condition but a state of at most a thousand numbers.
-/
import Derived.Test.YtoeecaeaobfhmaaStepA
namespace Go.Proofs.Ytoeecaeaobfhmaa
open Go.RowKit
set_option maxRecDepth 100000

set_option maxHeartbeats 1000000 in
theorem step_put_register (s : ByteArray) (st : List Int) (A : Option Addr) (n cap : Nat) (c : CallD) (w : World) (hr : RowInts w A st) (hn : st.length = n) (hnc : n ≤ cap) (hcm : cap ≤ maxLen) (hl : n ≤ 1000) (hs : s.toList = [114, 101, 103, 105, 115, 116, 101, 114]) (hk : (c.kind == 0) = true) :
    Calls Try.prog 71 #[.string s, .slice A n cap, c.val] w fun e w' => StepTo w w' A n ([c.arg]) (c.ret == 0) e := by
  have hl' : (n : Int) ≤ 1000 := by omega
  have HR := Lib.hid hr
  have HN := Lib.hid hn
  clear hr hn
  go_enter Try.func71, Try.ntmps71
  go_wp2_with fail
  go_region
  go_wp2_with fail
  go_ret2
  exact StepTo.one (by simp) (by simp) (by repeat (first | exact Below.refl _ _ | assumption | refine below_alloc ?_ _ | refine below_trans' ?_ (by assumption) | refine Below.drew ?_))
set_option maxHeartbeats 1000000 in
theorem step_put_counter_none (s : ByteArray) (st : List Int) (A : Option Addr) (n cap : Nat) (c : CallD) (w : World) (hr : RowInts w A st) (hn : st.length = n) (hnc : n ≤ cap) (hcm : cap ≤ maxLen) (hl : n ≤ 1000) (h0 : n = 0) (hs : s.toList = [99, 111, 117, 110, 116, 101, 114]) (hk : (c.kind == 0) = true) :
    Calls Try.prog 71 #[.string s, .slice A n cap, c.val] w fun e w' => StepTo w w' A n ([c.arg]) (c.ret == 0) e := by
  have hl' : (n : Int) ≤ 1000 := by omega
  subst h0
  have HR := Lib.hid hr
  have HN := Lib.hid hn
  clear hr hn
  go_enter Try.func71, Try.ntmps71
  go_wp2_with fail
  go_region
  go_wp2_with fail
  go_ret2
  exact StepTo.one (by simp) (by simp) (by repeat (first | exact Below.refl _ _ | assumption | refine below_alloc ?_ _ | refine below_trans' ?_ (by assumption) | refine Below.drew ?_))
set_option maxHeartbeats 1000000 in
theorem step_put_counter (s : ByteArray) (st : List Int) (A : Option Addr) (n cap : Nat) (c : CallD) (w : World) (hr : RowInts w A st) (hn : st.length = n) (hnc : n ≤ cap) (hcm : cap ≤ maxLen) (hl : n ≤ 1000) (x : Int) (hx : st[0]? = some x) (hs : s.toList = [99, 111, 117, 110, 116, 101, 114]) (hk : (c.kind == 0) = true) :
    Calls Try.prog 71 #[.string s, .slice A n cap, c.val] w fun e w' => StepTo w w' A n ([wrap64 (x + c.arg)]) (c.ret == 0) e := by
  have hl' : (n : Int) ≤ 1000 := by omega
  have h0 : 0 < n := by have := (List.getElem?_eq_some_iff.1 hx).1; omega
  obtain ⟨bk, off, rfl, hat⟩ := hr (by omega)
  have c0 := RowInts.at_ hat hx
  rw [Nat.add_zero] at c0
  have hbk := World.block_lt_of_cell? _ _ c0
  dsimp only at hbk
  have h0' : (0 : Int) < (n : Int) := by omega
  have h0n : ((n : Int) == 0) = false := by rw [beq_eq_false_iff_ne]; omega
  have hnc' : (n : Int) ≤ (cap : Int) := by omega
  have hcm' : (cap : Int) ≤ 9223372036854775807 := by unfold maxLen at hcm; omega
  have HAT := Lib.hid hat
  clear hat hx
  have HR := Lib.hid hr
  have HN := Lib.hid hn
  clear hr hn
  go_enter Try.func71, Try.ntmps71
  go_wp2_with fail
  go_region
  go_wp2_with fail
  go_ret2
  exact StepTo.one (by simp) (by simp) (by repeat (first | exact Below.refl _ _ | assumption | refine below_alloc ?_ _ | refine below_trans' ?_ (by assumption) | refine Below.drew ?_))
set_option maxHeartbeats 1000000 in
theorem step_put_most_none (s : ByteArray) (st : List Int) (A : Option Addr) (n cap : Nat) (c : CallD) (w : World) (hr : RowInts w A st) (hn : st.length = n) (hnc : n ≤ cap) (hcm : cap ≤ maxLen) (hl : n ≤ 1000) (h0 : n = 0) (hs : s.toList = [109, 111, 115, 116]) (hk : (c.kind == 0) = true) :
    Calls Try.prog 71 #[.string s, .slice A n cap, c.val] w fun e w' => StepTo w w' A n ([c.arg]) (c.ret == 0) e := by
  have hl' : (n : Int) ≤ 1000 := by omega
  subst h0
  have HR := Lib.hid hr
  have HN := Lib.hid hn
  clear hr hn
  go_enter Try.func71, Try.ntmps71
  go_wp2_with fail
  refine wp_region_grow (by kernel_rfl) (by kernel_rfl) ?_
  repeat (go_big_quiet_step (fail))
  refine wpQuiet_end ?_
  intro w1 hb1
  go_wp2_with fail
  have b3 := (hb1.cell (p := ⟨w.heap.size, 3, none⟩) (by simp)).trans (step_box c w _ 3 _ rfl)
  have b4 := (hb1.cell (p := ⟨w.heap.size, 4, none⟩) (by simp)).trans (step_box c w _ 4 _ rfl)
  have hz1 := hb1.size
  rw [World.size_alloc] at hz1
  have hz2 : w.heap.size < w1.heap.size := by omega
  go_region
  go_wp2_with fail
  go_ret2
  exact StepTo.one (by simp) (by omega) (by repeat (first | exact Below.refl _ _ | assumption | refine below_alloc ?_ _ | refine below_trans' ?_ (by assumption) | refine Below.drew ?_))
set_option maxHeartbeats 1000000 in
theorem step_put_most_same (s : ByteArray) (st : List Int) (A : Option Addr) (n cap : Nat) (c : CallD) (w : World) (hr : RowInts w A st) (hn : st.length = n) (hnc : n ≤ cap) (hcm : cap ≤ maxLen) (hl : n ≤ 1000) (x : Int) (hx : st[0]? = some x) (hs : s.toList = [109, 111, 115, 116]) (hk : (c.kind == 0) = true) (hx2 : c.arg < x) :
    Calls Try.prog 71 #[.string s, .slice A n cap, c.val] w fun e w' => StepTo w w' A n (st) (c.ret == 0) e := by
  have hl' : (n : Int) ≤ 1000 := by omega
  have h0 : 0 < n := by have := (List.getElem?_eq_some_iff.1 hx).1; omega
  obtain ⟨bk, off, rfl, hat⟩ := hr (by omega)
  have c0 := RowInts.at_ hat hx
  rw [Nat.add_zero] at c0
  have hbk := World.block_lt_of_cell? _ _ c0
  dsimp only at hbk
  have h0' : (0 : Int) < (n : Int) := by omega
  have h0n : ((n : Int) == 0) = false := by rw [beq_eq_false_iff_ne]; omega
  have hnc' : (n : Int) ≤ (cap : Int) := by omega
  have hcm' : (cap : Int) ≤ 9223372036854775807 := by unfold maxLen at hcm; omega
  have HAT := Lib.hid hat
  clear hat hx
  have HR := Lib.hid hr
  have HN := Lib.hid hn
  clear hr hn
  go_enter Try.func71, Try.ntmps71
  go_wp2_with fail
  refine wp_region_grow (by kernel_rfl) (by kernel_rfl) ?_
  repeat (go_big_quiet_step (fail))
  refine wpQuiet_end ?_
  intro w1 hb1
  go_wp2_with fail
  have b3 := (hb1.cell (p := ⟨w.heap.size, 3, none⟩) (by simp)).trans (step_box c w _ 3 _ rfl)
  have b4 := (hb1.cell (p := ⟨w.heap.size, 4, none⟩) (by simp)).trans (step_box c w _ 4 _ rfl)
  have hz1 := hb1.size
  rw [World.size_alloc] at hz1
  have hz2 : w.heap.size < w1.heap.size := by omega
  refine wp_region_grow (by kernel_rfl) (by kernel_rfl) ?_
  repeat (go_big_quiet_step (fail))
  refine wpQuiet_end ?_
  intro w2 hb2
  go_wp2_with fail
  go_ret2
  exact StepTo.same HR.out HN.out hnc hcm (by repeat (first | exact Below.refl _ _ | assumption | refine below_alloc ?_ _ | refine below_trans' ?_ (by assumption) | refine Below.drew ?_))
set_option maxHeartbeats 1000000 in
theorem step_put_most (s : ByteArray) (st : List Int) (A : Option Addr) (n cap : Nat) (c : CallD) (w : World) (hr : RowInts w A st) (hn : st.length = n) (hnc : n ≤ cap) (hcm : cap ≤ maxLen) (hl : n ≤ 1000) (x : Int) (hx : st[0]? = some x) (hs : s.toList = [109, 111, 115, 116]) (hk : (c.kind == 0) = true) (hx2 : ¬ c.arg < x) :
    Calls Try.prog 71 #[.string s, .slice A n cap, c.val] w fun e w' => StepTo w w' A n ([c.arg]) (c.ret == 0) e := by
  have hl' : (n : Int) ≤ 1000 := by omega
  have h0 : 0 < n := by have := (List.getElem?_eq_some_iff.1 hx).1; omega
  obtain ⟨bk, off, rfl, hat⟩ := hr (by omega)
  have c0 := RowInts.at_ hat hx
  rw [Nat.add_zero] at c0
  have hbk := World.block_lt_of_cell? _ _ c0
  dsimp only at hbk
  have h0' : (0 : Int) < (n : Int) := by omega
  have h0n : ((n : Int) == 0) = false := by rw [beq_eq_false_iff_ne]; omega
  have hnc' : (n : Int) ≤ (cap : Int) := by omega
  have hcm' : (cap : Int) ≤ 9223372036854775807 := by unfold maxLen at hcm; omega
  have HAT := Lib.hid hat
  clear hat hx
  have HR := Lib.hid hr
  have HN := Lib.hid hn
  clear hr hn
  go_enter Try.func71, Try.ntmps71
  go_wp2_with fail
  refine wp_region_grow (by kernel_rfl) (by kernel_rfl) ?_
  repeat (go_big_quiet_step (fail))
  refine wpQuiet_end ?_
  intro w1 hb1
  go_wp2_with fail
  have b3 := (hb1.cell (p := ⟨w.heap.size, 3, none⟩) (by simp)).trans (step_box c w _ 3 _ rfl)
  have b4 := (hb1.cell (p := ⟨w.heap.size, 4, none⟩) (by simp)).trans (step_box c w _ 4 _ rfl)
  have hz1 := hb1.size
  rw [World.size_alloc] at hz1
  have hz2 : w.heap.size < w1.heap.size := by omega
  go_region
  go_wp2_with fail
  go_ret2
  exact StepTo.one (by simp) (by omega) (by repeat (first | exact Below.refl _ _ | assumption | refine below_alloc ?_ _ | refine below_trans' ?_ (by assumption) | refine Below.drew ?_))
set_option maxHeartbeats 1000000 in
theorem step_look_queue_none (s : ByteArray) (st : List Int) (A : Option Addr) (n cap : Nat) (c : CallD) (w : World) (hr : RowInts w A st) (hn : st.length = n) (hnc : n ≤ cap) (hcm : cap ≤ maxLen) (hl : n ≤ 1000) (h0 : n = 0) (hs : s.toList = [113, 117, 101, 117, 101]) (hk0 : (c.kind == 0) = false) (hk : (c.kind == 2) = true) :
    Calls Try.prog 71 #[.string s, .slice A n cap, c.val] w fun e w' => StepTo w w' A n (st) (c.ret == -1) e := by
  have hl' : (n : Int) ≤ 1000 := by omega
  subst h0
  have HR := Lib.hid hr
  have HN := Lib.hid hn
  clear hr hn
  go_enter Try.func71, Try.ntmps71
  go_wp2_with fail
  refine wp_region_grow (by kernel_rfl) (by kernel_rfl) ?_
  repeat (go_big_quiet_step (fail))
  refine wpQuiet_end ?_
  intro w1 hb1
  go_wp2_with fail
  go_ret2
  exact StepTo.same HR.out HN.out hnc hcm (by repeat (first | exact Below.refl _ _ | assumption | refine below_alloc ?_ _ | refine below_trans' ?_ (by assumption) | refine Below.drew ?_))
set_option maxHeartbeats 1000000 in
theorem step_look_queue (s : ByteArray) (st : List Int) (A : Option Addr) (n cap : Nat) (c : CallD) (w : World) (hr : RowInts w A st) (hn : st.length = n) (hnc : n ≤ cap) (hcm : cap ≤ maxLen) (hl : n ≤ 1000) (x : Int) (hx : st[0]? = some x) (hs : s.toList = [113, 117, 101, 117, 101]) (hk0 : (c.kind == 0) = false) (hk : (c.kind == 2) = true) :
    Calls Try.prog 71 #[.string s, .slice A n cap, c.val] w fun e w' => StepTo w w' A n (st) (c.ret == x) e := by
  have hl' : (n : Int) ≤ 1000 := by omega
  have h0 : 0 < n := by have := (List.getElem?_eq_some_iff.1 hx).1; omega
  obtain ⟨bk, off, rfl, hat⟩ := hr (by omega)
  have c0 := RowInts.at_ hat hx
  rw [Nat.add_zero] at c0
  have hbk := World.block_lt_of_cell? _ _ c0
  dsimp only at hbk
  have h0' : (0 : Int) < (n : Int) := by omega
  have h0n : ((n : Int) == 0) = false := by rw [beq_eq_false_iff_ne]; omega
  have hnc' : (n : Int) ≤ (cap : Int) := by omega
  have hcm' : (cap : Int) ≤ 9223372036854775807 := by unfold maxLen at hcm; omega
  have HAT := Lib.hid hat
  clear hat hx
  have HR := Lib.hid hr
  have HN := Lib.hid hn
  clear hr hn
  go_enter Try.func71, Try.ntmps71
  go_wp2_with fail
  refine wp_region_grow (by kernel_rfl) (by kernel_rfl) ?_
  repeat (go_big_quiet_step (fail))
  refine wpQuiet_end ?_
  intro w1 hb1
  go_wp2_with fail
  go_ret2
  exact StepTo.same HR.out HN.out hnc hcm (by repeat (first | exact Below.refl _ _ | assumption | refine below_alloc ?_ _ | refine below_trans' ?_ (by assumption) | refine Below.drew ?_))
set_option maxHeartbeats 1000000 in
theorem step_look_stack_none (s : ByteArray) (st : List Int) (A : Option Addr) (n cap : Nat) (c : CallD) (w : World) (hr : RowInts w A st) (hn : st.length = n) (hnc : n ≤ cap) (hcm : cap ≤ maxLen) (hl : n ≤ 1000) (h0 : n = 0) (hs : s.toList = [115, 116, 97, 99, 107]) (hk0 : (c.kind == 0) = false) (hk : (c.kind == 2) = true) :
    Calls Try.prog 71 #[.string s, .slice A n cap, c.val] w fun e w' => StepTo w w' A n (st) (c.ret == -1) e := by
  have hl' : (n : Int) ≤ 1000 := by omega
  subst h0
  have HR := Lib.hid hr
  have HN := Lib.hid hn
  clear hr hn
  go_enter Try.func71, Try.ntmps71
  go_wp2_with fail
  refine wp_region_grow (by kernel_rfl) (by kernel_rfl) ?_
  repeat (go_big_quiet_step (fail))
  refine wpQuiet_end ?_
  intro w1 hb1
  go_wp2_with fail
  go_ret2
  exact StepTo.same HR.out HN.out hnc hcm (by repeat (first | exact Below.refl _ _ | assumption | refine below_alloc ?_ _ | refine below_trans' ?_ (by assumption) | refine Below.drew ?_))
set_option maxHeartbeats 1000000 in
theorem step_look_stack (s : ByteArray) (st : List Int) (A : Option Addr) (n cap : Nat) (c : CallD) (w : World) (hr : RowInts w A st) (hn : st.length = n) (hnc : n ≤ cap) (hcm : cap ≤ maxLen) (hl : n ≤ 1000) (x : Int) (hx : st[n - 1]? = some x) (h0 : 0 < n) (hs : s.toList = [115, 116, 97, 99, 107]) (hk0 : (c.kind == 0) = false) (hk : (c.kind == 2) = true) :
    Calls Try.prog 71 #[.string s, .slice A n cap, c.val] w fun e w' => StepTo w w' A n (st) (c.ret == x) e := by
  have hl' : (n : Int) ≤ 1000 := by omega
  obtain ⟨bk, off, rfl, hat⟩ := hr (by omega)
  have c0 := RowInts.at_ hat hx
  have hbk := World.block_lt_of_cell? _ _ c0
  dsimp only at hbk
  have h0' : (0 : Int) < (n : Int) := by omega
  have h0n : ((n : Int) == 0) = false := by rw [beq_eq_false_iff_ne]; omega
  have hnc' : (n : Int) ≤ (cap : Int) := by omega
  have hcm' : (cap : Int) ≤ 9223372036854775807 := by unfold maxLen at hcm; omega
  obtain ⟨m, rfl⟩ : ∃ m, n = m + 1 := ⟨n - 1, by omega⟩
  rw [Nat.add_sub_cancel] at c0
  have HAT := Lib.hid hat
  clear hat hx
  have HR := Lib.hid hr
  have HN := Lib.hid hn
  clear hr hn
  go_enter Try.func71, Try.ntmps71
  go_wp2_with fail
  refine wp_region_grow (by kernel_rfl) (by kernel_rfl) ?_
  repeat (go_big_quiet_step (fail))
  refine wpQuiet_end ?_
  intro w1 hb1
  go_wp2_with fail
  go_ret2
  exact StepTo.same HR.out HN.out hnc hcm (by repeat (first | exact Below.refl _ _ | assumption | refine below_alloc ?_ _ | refine below_trans' ?_ (by assumption) | refine Below.drew ?_))
set_option maxHeartbeats 1000000 in
theorem step_look_none (s : ByteArray) (st : List Int) (A : Option Addr) (n cap : Nat) (c : CallD) (w : World) (hr : RowInts w A st) (hn : st.length = n) (hnc : n ≤ cap) (hcm : cap ≤ maxLen) (hl : n ≤ 1000) (h0 : n = 0) (q0 : (s.toList == [113, 117, 101, 117, 101]) = false) (q1 : (s.toList == [115, 116, 97, 99, 107]) = false) (q2 : (s.toList == [115, 101, 116]) = false) (hk0 : (c.kind == 0) = false) (hk : (c.kind == 2) = true) :
    Calls Try.prog 71 #[.string s, .slice A n cap, c.val] w fun e w' => StepTo w w' A n (st) (c.ret == 0) e := by
  have hl' : (n : Int) ≤ 1000 := by omega
  subst h0
  have HR := Lib.hid hr
  have HN := Lib.hid hn
  clear hr hn
  go_enter Try.func71, Try.ntmps71
  go_wp2_with fail
  refine wp_region_grow (by kernel_rfl) (by kernel_rfl) ?_
  repeat (go_big_quiet_step (fail))
  refine wpQuiet_end ?_
  intro w1 hb1
  go_wp2_with fail
  go_ret2
  exact StepTo.same HR.out HN.out hnc hcm (by repeat (first | exact Below.refl _ _ | assumption | refine below_alloc ?_ _ | refine below_trans' ?_ (by assumption) | refine Below.drew ?_))
set_option maxHeartbeats 1000000 in
theorem step_look (s : ByteArray) (st : List Int) (A : Option Addr) (n cap : Nat) (c : CallD) (w : World) (hr : RowInts w A st) (hn : st.length = n) (hnc : n ≤ cap) (hcm : cap ≤ maxLen) (hl : n ≤ 1000) (x : Int) (hx : st[0]? = some x) (q0 : (s.toList == [113, 117, 101, 117, 101]) = false) (q1 : (s.toList == [115, 116, 97, 99, 107]) = false) (q2 : (s.toList == [115, 101, 116]) = false) (hk0 : (c.kind == 0) = false) (hk : (c.kind == 2) = true) :
    Calls Try.prog 71 #[.string s, .slice A n cap, c.val] w fun e w' => StepTo w w' A n (st) (c.ret == x) e := by
  have hl' : (n : Int) ≤ 1000 := by omega
  have h0 : 0 < n := by have := (List.getElem?_eq_some_iff.1 hx).1; omega
  obtain ⟨bk, off, rfl, hat⟩ := hr (by omega)
  have c0 := RowInts.at_ hat hx
  rw [Nat.add_zero] at c0
  have hbk := World.block_lt_of_cell? _ _ c0
  dsimp only at hbk
  have h0' : (0 : Int) < (n : Int) := by omega
  have h0n : ((n : Int) == 0) = false := by rw [beq_eq_false_iff_ne]; omega
  have hnc' : (n : Int) ≤ (cap : Int) := by omega
  have hcm' : (cap : Int) ≤ 9223372036854775807 := by unfold maxLen at hcm; omega
  have HAT := Lib.hid hat
  clear hat hx
  have HR := Lib.hid hr
  have HN := Lib.hid hn
  clear hr hn
  go_enter Try.func71, Try.ntmps71
  go_wp2_with fail
  refine wp_region_grow (by kernel_rfl) (by kernel_rfl) ?_
  repeat (go_big_quiet_step (fail))
  refine wpQuiet_end ?_
  intro w1 hb1
  go_wp2_with fail
  go_ret2
  exact StepTo.same HR.out HN.out hnc hcm (by repeat (first | exact Below.refl _ _ | assumption | refine below_alloc ?_ _ | refine below_trans' ?_ (by assumption) | refine Below.drew ?_))
set_option maxHeartbeats 1000000 in
theorem step_take_queue_none (s : ByteArray) (st : List Int) (A : Option Addr) (n cap : Nat) (c : CallD) (w : World) (hr : RowInts w A st) (hn : st.length = n) (hnc : n ≤ cap) (hcm : cap ≤ maxLen) (hl : n ≤ 1000) (h0 : n = 0) (hs : s.toList = [113, 117, 101, 117, 101]) (hk0 : (c.kind == 0) = false) (hk2 : (c.kind == 2) = false) :
    Calls Try.prog 71 #[.string s, .slice A n cap, c.val] w fun e w' => StepTo w w' A n (st) (c.ret == -1) e := by
  have hl' : (n : Int) ≤ 1000 := by omega
  subst h0
  have HR := Lib.hid hr
  have HN := Lib.hid hn
  clear hr hn
  go_enter Try.func71, Try.ntmps71
  go_wp2_with fail
  refine wp_region_grow (by kernel_rfl) (by kernel_rfl) ?_
  repeat (go_big_quiet_step (fail))
  refine wpQuiet_end ?_
  intro w1 hb1
  go_wp2_with fail
  go_ret2
  exact StepTo.same HR.out HN.out hnc hcm (by repeat (first | exact Below.refl _ _ | assumption | refine below_alloc ?_ _ | refine below_trans' ?_ (by assumption) | refine Below.drew ?_))
set_option maxHeartbeats 1000000 in
theorem step_take_queue (s : ByteArray) (st : List Int) (A : Option Addr) (n cap : Nat) (c : CallD) (w : World) (hr : RowInts w A st) (hn : st.length = n) (hnc : n ≤ cap) (hcm : cap ≤ maxLen) (hl : n ≤ 1000) (x : Int) (hx : st[0]? = some x) (hs : s.toList = [113, 117, 101, 117, 101]) (hk0 : (c.kind == 0) = false) (hk2 : (c.kind == 2) = false) :
    Calls Try.prog 71 #[.string s, .slice A n cap, c.val] w fun e w' => StepTo w w' A n (st.tail) (c.ret == x) e := by
  have hl' : (n : Int) ≤ 1000 := by omega
  have h0 : 0 < n := by have := (List.getElem?_eq_some_iff.1 hx).1; omega
  obtain ⟨bk, off, rfl, hat⟩ := hr (by omega)
  have c0 := RowInts.at_ hat hx
  rw [Nat.add_zero] at c0
  have hbk := World.block_lt_of_cell? _ _ c0
  dsimp only at hbk
  have h0' : (0 : Int) < (n : Int) := by omega
  have h0n : ((n : Int) == 0) = false := by rw [beq_eq_false_iff_ne]; omega
  have hnc' : (n : Int) ≤ (cap : Int) := by omega
  have hcm' : (cap : Int) ≤ 9223372036854775807 := by unfold maxLen at hcm; omega
  have HAT := Lib.hid hat
  clear hat hx
  have HR := Lib.hid hr
  have HN := Lib.hid hn
  clear hr hn
  go_enter Try.func71, Try.ntmps71
  go_wp2_with fail
  refine wp_region_grow (by kernel_rfl) (by kernel_rfl) ?_
  repeat (go_big_quiet_step (fail))
  refine wpQuiet_end ?_
  intro w1 hb1
  go_wp2_with fail
  all_goals
    go_ret2
    first | exact StepTo.tail HAT.out HN.out h0 hnc hcm (by repeat (first | exact Below.refl _ _ | assumption | refine below_alloc ?_ _ | refine below_trans' ?_ (by assumption) | refine Below.drew ?_)) | exact StepTo.tail1 HN.out h0 (by omega) (by repeat (first | exact Below.refl _ _ | assumption | refine below_alloc ?_ _ | refine below_trans' ?_ (by assumption) | refine Below.drew ?_))
set_option maxHeartbeats 1000000 in
theorem step_take_stack_none (s : ByteArray) (st : List Int) (A : Option Addr) (n cap : Nat) (c : CallD) (w : World) (hr : RowInts w A st) (hn : st.length = n) (hnc : n ≤ cap) (hcm : cap ≤ maxLen) (hl : n ≤ 1000) (h0 : n = 0) (hs : s.toList = [115, 116, 97, 99, 107]) (hk0 : (c.kind == 0) = false) (hk2 : (c.kind == 2) = false) :
    Calls Try.prog 71 #[.string s, .slice A n cap, c.val] w fun e w' => StepTo w w' A n (st) (c.ret == -1) e := by
  have hl' : (n : Int) ≤ 1000 := by omega
  subst h0
  have HR := Lib.hid hr
  have HN := Lib.hid hn
  clear hr hn
  go_enter Try.func71, Try.ntmps71
  go_wp2_with fail
  refine wp_region_grow (by kernel_rfl) (by kernel_rfl) ?_
  repeat (go_big_quiet_step (fail))
  refine wpQuiet_end ?_
  intro w1 hb1
  go_wp2_with fail
  go_ret2
  exact StepTo.same HR.out HN.out hnc hcm (by repeat (first | exact Below.refl _ _ | assumption | refine below_alloc ?_ _ | refine below_trans' ?_ (by assumption) | refine Below.drew ?_))
set_option maxHeartbeats 1000000 in
theorem step_take_stack (s : ByteArray) (st : List Int) (A : Option Addr) (n cap : Nat) (c : CallD) (w : World) (hr : RowInts w A st) (hn : st.length = n) (hnc : n ≤ cap) (hcm : cap ≤ maxLen) (hl : n ≤ 1000) (x : Int) (hx : st[n - 1]? = some x) (h0 : 0 < n) (hs : s.toList = [115, 116, 97, 99, 107]) (hk0 : (c.kind == 0) = false) (hk2 : (c.kind == 2) = false) :
    Calls Try.prog 71 #[.string s, .slice A n cap, c.val] w fun e w' => StepTo w w' A n (st.dropLast) (c.ret == x) e := by
  have hl' : (n : Int) ≤ 1000 := by omega
  obtain ⟨bk, off, rfl, hat⟩ := hr (by omega)
  have c0 := RowInts.at_ hat hx
  have hbk := World.block_lt_of_cell? _ _ c0
  dsimp only at hbk
  have h0' : (0 : Int) < (n : Int) := by omega
  have h0n : ((n : Int) == 0) = false := by rw [beq_eq_false_iff_ne]; omega
  have hnc' : (n : Int) ≤ (cap : Int) := by omega
  have hcm' : (cap : Int) ≤ 9223372036854775807 := by unfold maxLen at hcm; omega
  obtain ⟨m, rfl⟩ : ∃ m, n = m + 1 := ⟨n - 1, by omega⟩
  rw [Nat.add_sub_cancel] at c0
  have HAT := Lib.hid hat
  clear hat hx
  have HR := Lib.hid hr
  have HN := Lib.hid hn
  clear hr hn
  go_enter Try.func71, Try.ntmps71
  go_wp2_with fail
  refine wp_region_grow (by kernel_rfl) (by kernel_rfl) ?_
  repeat (go_big_quiet_step (fail))
  refine wpQuiet_end ?_
  intro w1 hb1
  go_wp2_with fail
  go_ret2
  exact StepTo.init HAT.out HN.out hnc hcm (by repeat (first | exact Below.refl _ _ | assumption | refine below_alloc ?_ _ | refine below_trans' ?_ (by assumption) | refine Below.drew ?_))
set_option maxHeartbeats 1000000 in
theorem step_take_none (s : ByteArray) (st : List Int) (A : Option Addr) (n cap : Nat) (c : CallD) (w : World) (hr : RowInts w A st) (hn : st.length = n) (hnc : n ≤ cap) (hcm : cap ≤ maxLen) (hl : n ≤ 1000) (h0 : n = 0) (q0 : (s.toList == [113, 117, 101, 117, 101]) = false) (q1 : (s.toList == [115, 116, 97, 99, 107]) = false) (q2 : (s.toList == [115, 101, 116]) = false) (hk0 : (c.kind == 0) = false) (hk2 : (c.kind == 2) = false) :
    Calls Try.prog 71 #[.string s, .slice A n cap, c.val] w fun e w' => StepTo w w' A n ([]) (c.ret == 0) e := by
  have hl' : (n : Int) ≤ 1000 := by omega
  subst h0
  have HR := Lib.hid hr
  have HN := Lib.hid hn
  clear hr hn
  go_enter Try.func71, Try.ntmps71
  go_wp2_with fail
  go_region
  go_wp2_with fail
  go_ret2
  exact StepTo.empty (by simp [maxLen]) (by repeat (first | exact Below.refl _ _ | assumption | refine below_alloc ?_ _ | refine below_trans' ?_ (by assumption) | refine Below.drew ?_))
set_option maxHeartbeats 1000000 in
theorem step_take (s : ByteArray) (st : List Int) (A : Option Addr) (n cap : Nat) (c : CallD) (w : World) (hr : RowInts w A st) (hn : st.length = n) (hnc : n ≤ cap) (hcm : cap ≤ maxLen) (hl : n ≤ 1000) (x : Int) (hx : st[0]? = some x) (q0 : (s.toList == [113, 117, 101, 117, 101]) = false) (q1 : (s.toList == [115, 116, 97, 99, 107]) = false) (q2 : (s.toList == [115, 101, 116]) = false) (hk0 : (c.kind == 0) = false) (hk2 : (c.kind == 2) = false) :
    Calls Try.prog 71 #[.string s, .slice A n cap, c.val] w fun e w' => StepTo w w' A n ([]) (c.ret == x) e := by
  have hl' : (n : Int) ≤ 1000 := by omega
  have h0 : 0 < n := by have := (List.getElem?_eq_some_iff.1 hx).1; omega
  obtain ⟨bk, off, rfl, hat⟩ := hr (by omega)
  have c0 := RowInts.at_ hat hx
  rw [Nat.add_zero] at c0
  have hbk := World.block_lt_of_cell? _ _ c0
  dsimp only at hbk
  have h0' : (0 : Int) < (n : Int) := by omega
  have h0n : ((n : Int) == 0) = false := by rw [beq_eq_false_iff_ne]; omega
  have hnc' : (n : Int) ≤ (cap : Int) := by omega
  have hcm' : (cap : Int) ≤ 9223372036854775807 := by unfold maxLen at hcm; omega
  have HAT := Lib.hid hat
  clear hat hx
  have HR := Lib.hid hr
  have HN := Lib.hid hn
  clear hr hn
  go_enter Try.func71, Try.ntmps71
  go_wp2_with fail
  go_region
  go_wp2_with fail
  go_ret2
  exact StepTo.empty (by simp [maxLen]) (by repeat (first | exact Below.refl _ _ | assumption | refine below_alloc ?_ _ | refine below_trans' ?_ (by assumption) | refine Below.drew ?_))
end Go.Proofs.Ytoeecaeaobfhmaa
