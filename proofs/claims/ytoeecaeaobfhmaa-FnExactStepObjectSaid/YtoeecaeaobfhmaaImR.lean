/-
  The program's step of a queue and of a stack: the state and the right answer, as the Lean functions tell them. Asked: a state of at most a thousand numbers.
-/
import Derived.Test.YtoeecaeaobfhmaaImS
namespace Go.Proofs.Ytoeecaeaobfhmaa
open Go.RowKit Go.Deep
set_option maxRecDepth 100000

set_option maxHeartbeats 1000000 in
theorem row_put_queue (s : ByteArray) (c : CallD) (st : List Int) (A : Option Addr) (n cap : Nat) (w : World) (B : Nat) (hB : B ≤ w.heap.size) (ho : w.ownsRow B 3 1 (.slice A n cap) n (st.flatMap intVals)) (hn : st.length = n) (hl : n ≤ 1000) (hs : s.toList = [113, 117, 101, 117, 101]) (hk : (c.kind == 0) = true) :
    Calls Try.prog 86 #[.string s, .slice A n cap, c.val] w fun e w' => ImTo w w' B (st ++ [c.arg]) 0 e := by
  obtain ⟨i0, hi0, hz0, hz1, hz2⟩ := info_parts stepx_info
  have hl' : (n : Int) ≤ 1000 := by omega
  have HO := Lib.hid ho
  have HLT := Lib.hid ho.lt
  have HN := Lib.hid hn
  clear ho hn
  go_enter Try.func86, Try.ntmps86
  go_wp2_with (at_builtin; refine wpList_append_any _ rfl (.tmp 19) (.tmp 22) 24 rfl B 3 i0 _ 1 8 Try.underlying24 hi0 hz0 hz1 hz2 rfl (by omega) (.slice A n cap) n (st.flatMap intVals) rfl (own_below HO.out (by repeat (first | exact Below.refl _ _ | assumption | refine below_alloc ?_ _ | refine below_trans' ?_ (by assumption) | refine Below.drew ?_))) (some ⟨w.heap.size + 1, 0, none⟩) 1 1 [.int .i64 c.arg] rfl rfl (news_of_cell (cell_new2 rfl _ _ _)) (fun e => by cases e) (int_one c.arg) (by unfold maxLen; omega) (by omega) (by simp; omega) ?_; intro v1 w1 ho1 hg1 hat1)
  go_ret2
  refine ⟨_, rfl, ?_, (below_alloc' (below_alloc' (Below.refl _ _) _ hB) _ hB).grown hg1 (by simp; omega) (fun k hk => (HLT.out k hk).1)⟩
  unfold OwnInts
  simpa [intVals, HN.out] using ho1
set_option maxHeartbeats 1000000 in
theorem row_none_queue (s : ByteArray) (c : CallD) (A : Option Addr) (cap : Nat) (w : World) (B : Nat) (hB : B ≤ w.heap.size) (ho : w.ownsRow B 3 1 (.slice A 0 cap) 0 []) (hs : s.toList = [113, 117, 101, 117, 101]) (hk : (c.kind == 0) = false) :
    Calls Try.prog 86 #[.string s, .slice A 0 cap, c.val] w fun e w' => ImTo w w' B [] (-1) e := by
  have HO := Lib.hid ho
  clear ho
  go_enter Try.func86, Try.ntmps86
  go_wp2_with fail
  go_ret2
  exact ⟨_, rfl, own_below HO.out (below_alloc (Below.refl _ _) _), below_alloc' (Below.refl _ _) _ hB⟩
set_option maxHeartbeats 1000000 in
theorem row_look_queue (s : ByteArray) (c : CallD) (st : List Int) (x : Int) (g m cap : Nat) (w : World) (B : Nat) (hB : B ≤ w.heap.size) (ho : w.ownsRow B 3 1 (.slice (some ⟨g, 0, none⟩) (m + 1) cap) (m + 1) (st.flatMap intVals)) (hn : st.length = m + 1) (hl : m + 1 ≤ 1000) (hx : st[0]? = some x) (hs : s.toList = [113, 117, 101, 117, 101]) (hk0 : (c.kind == 0) = false) (hk : (c.kind == 2) = true) :
    Calls Try.prog 86 #[.string s, .slice (some ⟨g, 0, none⟩) (m + 1) cap, c.val] w fun e w' => ImTo w w' B st x e := by
  have hl' : (m : Int) + 1 ≤ 1000 := by omega
  have hm0 : (0 : Int) ≤ (m : Int) := by omega
  have hm1 : (m : Int) < (m : Int) + 1 := by omega
  have hm2 : (0 : Int) < (m : Int) + 1 := by omega
  have hmz : ((m : Int) + 1 == 0) = false := by rw [beq_eq_false_iff_ne]; omega
  have c0 := own_cellD ho (i := 0) (u := .int .i64 x) (by rw [ints_map, List.getElem?_map, hx]; rfl)
  have hg := (ho.lt g rfl).2
  have HO := Lib.hid ho
  have HN := Lib.hid hn
  clear ho hn hx
  go_enter Try.func86, Try.ntmps86
  go_wp2_with fail
  refine wp_region_grow (by kernel_rfl) (by kernel_rfl) ?_
  repeat (go_big_quiet_step (fail))
  refine wpQuiet_end ?_
  intro w1 hb1
  go_wp2_with fail
  go_ret2
  have hb := below_trans' (below_alloc (Below.refl _ _) _) hb1
  refine ⟨_, rfl, ?_, hb.mono hB⟩
  unfold OwnInts
  rw [HN.out]
  exact own_below HO.out hb
set_option maxHeartbeats 1000000 in
theorem row_take_queue (s : ByteArray) (c : CallD) (st : List Int) (x : Int) (g m cap : Nat) (w : World) (B : Nat) (hB : B ≤ w.heap.size) (ho : w.ownsRow B 3 1 (.slice (some ⟨g, 0, none⟩) (m + 1) cap) (m + 1) (st.flatMap intVals)) (hn : st.length = m + 1) (hl : m + 1 ≤ 1000) (hx : st[0]? = some x) (hs : s.toList = [113, 117, 101, 117, 101]) (hk0 : (c.kind == 0) = false) (hk : (c.kind == 2) = false) :
    Calls Try.prog 86 #[.string s, .slice (some ⟨g, 0, none⟩) (m + 1) cap, c.val] w fun e w' => ImTo w w' B (st.take 0 ++ st.drop (0 + 1)) x e := by
  have hl' : (m : Int) + 1 ≤ 1000 := by omega
  have hm0 : (0 : Int) ≤ (m : Int) := by omega
  have hm1 : (m : Int) < (m : Int) + 1 := by omega
  have hm2 : (0 : Int) < (m : Int) + 1 := by omega
  have hmz : ((m : Int) + 1 == 0) = false := by rw [beq_eq_false_iff_ne]; omega
  have c0 := own_cellD ho (i := 0) (u := .int .i64 x) (by rw [ints_map, List.getElem?_map, hx]; rfl)
  have hg := (ho.lt g rfl).2
  have hgB := (ho.lt g rfl).1
  have HO := Lib.hid ho
  have HN := Lib.hid hn
  have HD := Lib.hid (fun (W : World) (hW : Below w.heap.size w W) => delete_of st g m cap 0 B W (own_below HO.out hW) HN.out (by omega) (by omega))
  clear ho hn hx
  go_enter Try.func86, Try.ntmps86
  go_wp2_with fail
  refine (HD.out _ (below_alloc (Below.refl _ _) _)).mono ?_
  rintro e w1 ⟨v, rfl, ho1, hg1⟩
  go_wp2_with fail
  go_ret2
  refine ⟨_, rfl, ?_, (below_alloc' (Below.refl _ _) _ hB).grown hg1 (by simp; omega) (fun k hk => by injection hk with hk; omega)⟩
  unfold OwnInts
  rw [show (st.take 0 ++ st.drop (0 + 1)).length = m by simp [HN.out] <;> omega]
  exact ho1

set_option maxHeartbeats 1000000 in
theorem row_put_stack (s : ByteArray) (c : CallD) (st : List Int) (A : Option Addr) (n cap : Nat) (w : World) (B : Nat) (hB : B ≤ w.heap.size) (ho : w.ownsRow B 3 1 (.slice A n cap) n (st.flatMap intVals)) (hn : st.length = n) (hl : n ≤ 1000) (hs : s.toList = [115, 116, 97, 99, 107]) (hk : (c.kind == 0) = true) :
    Calls Try.prog 86 #[.string s, .slice A n cap, c.val] w fun e w' => ImTo w w' B (st ++ [c.arg]) 0 e := by
  obtain ⟨i0, hi0, hz0, hz1, hz2⟩ := info_parts stepx_info
  have hl' : (n : Int) ≤ 1000 := by omega
  have HO := Lib.hid ho
  have HLT := Lib.hid ho.lt
  have HN := Lib.hid hn
  clear ho hn
  go_enter Try.func86, Try.ntmps86
  go_wp2_with (at_builtin; refine wpList_append_any _ rfl (.tmp 19) (.tmp 22) 24 rfl B 3 i0 _ 1 8 Try.underlying24 hi0 hz0 hz1 hz2 rfl (by omega) (.slice A n cap) n (st.flatMap intVals) rfl (own_below HO.out (by repeat (first | exact Below.refl _ _ | assumption | refine below_alloc ?_ _ | refine below_trans' ?_ (by assumption) | refine Below.drew ?_))) (some ⟨w.heap.size + 1, 0, none⟩) 1 1 [.int .i64 c.arg] rfl rfl (news_of_cell (cell_new2 rfl _ _ _)) (fun e => by cases e) (int_one c.arg) (by unfold maxLen; omega) (by omega) (by simp; omega) ?_; intro v1 w1 ho1 hg1 hat1)
  go_ret2
  refine ⟨_, rfl, ?_, (below_alloc' (below_alloc' (Below.refl _ _) _ hB) _ hB).grown hg1 (by simp; omega) (fun k hk => (HLT.out k hk).1)⟩
  unfold OwnInts
  simpa [intVals, HN.out] using ho1
set_option maxHeartbeats 1000000 in
theorem row_none_stack (s : ByteArray) (c : CallD) (A : Option Addr) (cap : Nat) (w : World) (B : Nat) (hB : B ≤ w.heap.size) (ho : w.ownsRow B 3 1 (.slice A 0 cap) 0 []) (hs : s.toList = [115, 116, 97, 99, 107]) (hk : (c.kind == 0) = false) :
    Calls Try.prog 86 #[.string s, .slice A 0 cap, c.val] w fun e w' => ImTo w w' B [] (-1) e := by
  have HO := Lib.hid ho
  clear ho
  go_enter Try.func86, Try.ntmps86
  go_wp2_with fail
  go_ret2
  exact ⟨_, rfl, own_below HO.out (below_alloc (Below.refl _ _) _), below_alloc' (Below.refl _ _) _ hB⟩
set_option maxHeartbeats 1000000 in
theorem row_look_stack (s : ByteArray) (c : CallD) (st : List Int) (x : Int) (g m cap : Nat) (w : World) (B : Nat) (hB : B ≤ w.heap.size) (ho : w.ownsRow B 3 1 (.slice (some ⟨g, 0, none⟩) (m + 1) cap) (m + 1) (st.flatMap intVals)) (hn : st.length = m + 1) (hl : m + 1 ≤ 1000) (hx : st[m]? = some x) (hs : s.toList = [115, 116, 97, 99, 107]) (hk0 : (c.kind == 0) = false) (hk : (c.kind == 2) = true) :
    Calls Try.prog 86 #[.string s, .slice (some ⟨g, 0, none⟩) (m + 1) cap, c.val] w fun e w' => ImTo w w' B st x e := by
  have hl' : (m : Int) + 1 ≤ 1000 := by omega
  have hm0 : (0 : Int) ≤ (m : Int) := by omega
  have hm1 : (m : Int) < (m : Int) + 1 := by omega
  have hm2 : (0 : Int) < (m : Int) + 1 := by omega
  have hmz : ((m : Int) + 1 == 0) = false := by rw [beq_eq_false_iff_ne]; omega
  have c0 := own_cellD ho (i := m) (u := .int .i64 x) (by rw [ints_map, List.getElem?_map, hx]; rfl)
  have hg := (ho.lt g rfl).2
  have HO := Lib.hid ho
  have HN := Lib.hid hn
  clear ho hn hx
  go_enter Try.func86, Try.ntmps86
  go_wp2_with fail
  refine wp_region_grow (by kernel_rfl) (by kernel_rfl) ?_
  repeat (go_big_quiet_step (fail))
  refine wpQuiet_end ?_
  intro w1 hb1
  go_wp2_with fail
  go_ret2
  have hb := below_trans' (below_alloc (Below.refl _ _) _) hb1
  refine ⟨_, rfl, ?_, hb.mono hB⟩
  unfold OwnInts
  rw [HN.out]
  exact own_below HO.out hb
set_option maxHeartbeats 1000000 in
theorem row_take_stack (s : ByteArray) (c : CallD) (st : List Int) (x : Int) (g m cap : Nat) (w : World) (B : Nat) (hB : B ≤ w.heap.size) (ho : w.ownsRow B 3 1 (.slice (some ⟨g, 0, none⟩) (m + 1) cap) (m + 1) (st.flatMap intVals)) (hn : st.length = m + 1) (hl : m + 1 ≤ 1000) (hx : st[m]? = some x) (hs : s.toList = [115, 116, 97, 99, 107]) (hk0 : (c.kind == 0) = false) (hk : (c.kind == 2) = false) :
    Calls Try.prog 86 #[.string s, .slice (some ⟨g, 0, none⟩) (m + 1) cap, c.val] w fun e w' => ImTo w w' B (st.take m ++ st.drop (m + 1)) x e := by
  have hl' : (m : Int) + 1 ≤ 1000 := by omega
  have hm0 : (0 : Int) ≤ (m : Int) := by omega
  have hm1 : (m : Int) < (m : Int) + 1 := by omega
  have hm2 : (0 : Int) < (m : Int) + 1 := by omega
  have hmz : ((m : Int) + 1 == 0) = false := by rw [beq_eq_false_iff_ne]; omega
  have c0 := own_cellD ho (i := m) (u := .int .i64 x) (by rw [ints_map, List.getElem?_map, hx]; rfl)
  have hg := (ho.lt g rfl).2
  have hgB := (ho.lt g rfl).1
  have HO := Lib.hid ho
  have HN := Lib.hid hn
  have HD := Lib.hid (fun (W : World) (hW : Below w.heap.size w W) => delete_of st g m cap m B W (own_below HO.out hW) HN.out (by omega) (by omega))
  clear ho hn hx
  go_enter Try.func86, Try.ntmps86
  go_wp2_with fail
  refine (HD.out _ (below_alloc (Below.refl _ _) _)).mono ?_
  rintro e w1 ⟨v, rfl, ho1, hg1⟩
  go_wp2_with fail
  go_ret2
  refine ⟨_, rfl, ?_, (below_alloc' (Below.refl _ _) _ hB).grown hg1 (by simp; omega) (fun k hk => by injection hk with hk; omega)⟩
  unfold OwnInts
  rw [show (st.take m ++ st.drop (m + 1)).length = m by simp [HN.out] <;> omega]
  exact ho1

end Go.Proofs.Ytoeecaeaobfhmaa
