/-
  The program's step of a set: the state and the right answer, as the Lean functions tell them. Asked: a state of at most a thousand numbers.
-/
import Derived.Test.YtoeecaeaobfhmaaImR
import Derived.Test.YtoeecaeaobfhmaaStepY
namespace Go.Proofs.Ytoeecaeaobfhmaa
open Go.RowKit Go.Deep
set_option maxRecDepth 100000

section
variable (c : CallD) (st : List Int) (w : World) (B : Nat)
/-- The state is left as it is. -/
theorem imto_same {A : Option Addr} {n cap : Nat} {x : Int} (hB : B ≤ w.heap.size) (ho : w.ownsRow B 3 1 (.slice A n cap) n (st.flatMap intVals)) (hn : st.length = n) (o : Obj) : ImTo w (w.alloc o) B st x (.returned (.tuple #[.slice A n cap, .int .i64 x])) := by
  refine ⟨_, rfl, ?_, below_alloc' (Below.refl _ _) _ hB⟩
  unfold OwnInts
  rw [hn]
  exact own_below ho (below_alloc (Below.refl _ _) _)
end

set_option maxHeartbeats 1000000 in
theorem set_put_new (c : CallD) (st : List Int) (A : Option Addr) (n cap : Nat) (w : World) (B : Nat) (hB : B ≤ w.heap.size) (ho : w.ownsRow B 3 1 (.slice A n cap) n (st.flatMap intVals)) (hn : st.length = n) (hl : n ≤ 1000) (ha : st.any (· == c.arg) = false) (hk : (c.kind == 0) = true) :
    Calls Try.prog 85 #[.slice A n cap, c.val] w fun e w' => ImTo w w' B (st ++ [c.arg]) 1 e := by
  obtain ⟨i0, hi0, hz0, hz1, hz2⟩ := info_parts stepx_info
  have hl' : (n : Int) ≤ 1000 := by omega
  have HR := Lib.hid (show RowInts w A st from RowOf.of_own hn.symm (fun _ _ => rfl) ho)
  have HO := Lib.hid ho
  have HLT := Lib.hid ho.lt
  have HN := Lib.hid hn
  have HA := Lib.hid ha
  clear ho hn ha
  go_enter Try.func85, Try.ntmps85
  go_wp2_with fail
  refine (index_of st n A cap c.arg _ (HR.out.below (below_alloc (Below.refl _ _) _)) HN.out (by omega)).mono ?_
  rintro e w1 ⟨hi, rfl⟩
  rcases hi with ⟨k, rfl, h1, h2⟩ | ⟨rfl, _⟩
  · exfalso
    have := List.any_eq_false.1 HA.out _ (List.mem_of_getElem? h1)
    simp at this
  · go_wp2_with (at_builtin; refine wpList_append_any _ rfl (.tmp 19) (.tmp 22) 24 rfl B 3 i0 _ 1 8 Try.underlying24 hi0 hz0 hz1 hz2 rfl (by omega) (.slice A n cap) n (st.flatMap intVals) rfl (own_below HO.out (by repeat (first | exact Below.refl _ _ | assumption | refine below_alloc ?_ _ | refine below_trans' ?_ (by assumption) | refine Below.drew ?_))) (some ⟨w.heap.size + 1, 0, none⟩) 1 1 [.int .i64 c.arg] rfl rfl (news_of_cell (cell_new2 rfl _ _ _)) (fun e => by cases e) (int_one c.arg) (by unfold maxLen; omega) (by omega) (by simp; omega) ?_; intro v1 w1 ho1 hg1 hat1)
    go_ret2
    refine ⟨_, rfl, ?_, (below_alloc' (below_alloc' (Below.refl _ _) _ hB) _ hB).grown hg1 (by simp; omega) (fun k hk => (HLT.out k hk).1)⟩
    unfold OwnInts
    simpa [intVals, HN.out] using ho1
set_option maxHeartbeats 1000000 in
theorem set_not (c : CallD) (st : List Int) (A : Option Addr) (n cap : Nat) (w : World) (B : Nat) (hB : B ≤ w.heap.size) (ho : w.ownsRow B 3 1 (.slice A n cap) n (st.flatMap intVals)) (hn : st.length = n) (hl : n ≤ 1000) (ha : st.any (· == c.arg) = false) (hk : (c.kind == 0) = false) :
    Calls Try.prog 85 #[.slice A n cap, c.val] w fun e w' => ImTo w w' B st 0 e := by
  have hl' : (n : Int) ≤ 1000 := by omega
  have HR := Lib.hid (show RowInts w A st from RowOf.of_own hn.symm (fun _ _ => rfl) ho)
  have HS := Lib.hid (fun (x : Int) (o : Obj) => imto_same st w B (x := x) hB ho hn o)
  have HN := Lib.hid hn
  have HA := Lib.hid ha
  clear ho hn ha
  go_enter Try.func85, Try.ntmps85
  go_wp2_with fail
  refine (index_of st n A cap c.arg _ (HR.out.below (below_alloc (Below.refl _ _) _)) HN.out (by omega)).mono ?_
  rintro e w1 ⟨hi, rfl⟩
  rcases hi with ⟨k, rfl, h1, h2⟩ | ⟨rfl, _⟩
  · exfalso
    have := List.any_eq_false.1 HA.out _ (List.mem_of_getElem? h1)
    simp at this
  · go_wp2_with fail
    go_ret2
    exact HS.out _ _
theorem has_false {st : List Int} {x : Int} {P : Prop} (ha : st.any (· == x) = true) (h : st.any (· == x) = false) : P := by rw [ha] at h; cases h
set_option maxHeartbeats 1000000 in
theorem set_put_same (c : CallD) (st : List Int) (A : Option Addr) (n cap : Nat) (w : World) (B : Nat) (hB : B ≤ w.heap.size) (ho : w.ownsRow B 3 1 (.slice A n cap) n (st.flatMap intVals)) (hn : st.length = n) (hl : n ≤ 1000) (ha : st.any (· == c.arg) = true) (hk : (c.kind == 0) = true) :
    Calls Try.prog 85 #[.slice A n cap, c.val] w fun e w' => ImTo w w' B st 0 e := by
  have hl' : (n : Int) ≤ 1000 := by omega
  have HR := Lib.hid (show RowInts w A st from RowOf.of_own hn.symm (fun _ _ => rfl) ho)
  have HS := Lib.hid (fun (x : Int) (o : Obj) => imto_same st w B (x := x) hB ho hn o)
  have HN := Lib.hid hn
  have HA := Lib.hid ha
  clear ho hn ha
  go_enter Try.func85, Try.ntmps85
  go_wp2_with fail
  refine (index_of st n A cap c.arg _ (HR.out.below (below_alloc (Below.refl _ _) _)) HN.out (by omega)).mono ?_
  rintro e w1 ⟨hi, rfl⟩
  rcases hi with ⟨k, rfl, h1, h2⟩ | ⟨_, h⟩
  · have hk0 : ¬ ((k : Int) < 0) := by omega
    have hkd : decide ((k : Int) < 0) = false := by simp
    clear h1 h2
    go_wp2_with fail
    go_ret2
    exact HS.out _ _
  · exact has_false HA.out h
set_option maxHeartbeats 1000000 in
theorem set_look_has (c : CallD) (st : List Int) (A : Option Addr) (n cap : Nat) (w : World) (B : Nat) (hB : B ≤ w.heap.size) (ho : w.ownsRow B 3 1 (.slice A n cap) n (st.flatMap intVals)) (hn : st.length = n) (hl : n ≤ 1000) (ha : st.any (· == c.arg) = true) (hk : (c.kind == 0) = false) (hk1 : (c.kind == 1) = false) :
    Calls Try.prog 85 #[.slice A n cap, c.val] w fun e w' => ImTo w w' B st 1 e := by
  have hl' : (n : Int) ≤ 1000 := by omega
  have HR := Lib.hid (show RowInts w A st from RowOf.of_own hn.symm (fun _ _ => rfl) ho)
  have HS := Lib.hid (fun (x : Int) (o : Obj) => imto_same st w B (x := x) hB ho hn o)
  have HN := Lib.hid hn
  have HA := Lib.hid ha
  clear ho hn ha
  go_enter Try.func85, Try.ntmps85
  go_wp2_with fail
  refine (index_of st n A cap c.arg _ (HR.out.below (below_alloc (Below.refl _ _) _)) HN.out (by omega)).mono ?_
  rintro e w1 ⟨hi, rfl⟩
  rcases hi with ⟨k, rfl, h1, h2⟩ | ⟨_, h⟩
  · have hk0 : ¬ ((k : Int) < 0) := by omega
    have hkd : decide ((k : Int) < 0) = false := by simp
    clear h1 h2
    go_wp2_with fail
    go_ret2
    exact HS.out _ _
  · exact has_false HA.out h
set_option maxHeartbeats 1000000 in
theorem set_take_has (c : CallD) (st : List Int) (g m cap : Nat) (w : World) (B : Nat) (hB : B ≤ w.heap.size) (ho : w.ownsRow B 3 1 (.slice (some ⟨g, 0, none⟩) (m + 1) cap) (m + 1) (st.flatMap intVals)) (hn : st.length = m + 1) (hl : m + 1 ≤ 1000) (ha : st.any (· == c.arg) = true) (hk : (c.kind == 0) = false) (hk1 : (c.kind == 1) = true) :
    Calls Try.prog 85 #[.slice (some ⟨g, 0, none⟩) (m + 1) cap, c.val] w fun e w' => ImTo w w' B (st.erase c.arg) 1 e := by
  have hl' : (m : Int) + 1 ≤ 1000 := by omega
  have HR := Lib.hid (show RowInts w (some ⟨g, 0, none⟩) st from RowOf.of_own hn.symm (fun _ _ => rfl) ho)
  have hgB := (ho.lt g rfl).1
  have HO := Lib.hid ho
  have HN := Lib.hid hn
  have HA := Lib.hid ha
  clear ho hn ha
  go_enter Try.func85, Try.ntmps85
  go_wp2_with fail
  refine (index_of st (m + 1) (some ⟨g, 0, none⟩) cap c.arg _ (HR.out.below (below_alloc (Below.refl _ _) _)) HN.out (by omega)).mono ?_
  rintro e w1 ⟨hi, rfl⟩
  rcases hi with ⟨k, rfl, h1, h2⟩ | ⟨_, h⟩
  · have hkm : k ≤ m := by have := (List.getElem?_eq_some_iff.1 h1).1; have := HN.out; omega
    have HE := Lib.hid (erase_at st k c.arg h2 h1)
    have HD := Lib.hid (fun (W : World) (hW : Below w.heap.size w W) => delete_of st g m cap k B W (own_below HO.out hW) HN.out hkm (by omega))
    have hk0 : ¬ ((k : Int) < 0) := by omega
    have hkd : decide ((k : Int) < 0) = false := by simp
    have hk2 : (k : Int) ≤ 1000 := by omega
    have hk3 : (0 : Int) ≤ (k : Int) := by omega
    clear h1 h2
    go_wp2_with fail
    refine (HD.out _ (below_alloc (Below.refl _ _) _)).mono ?_
    rintro e w1 ⟨v, rfl, ho1, hg1⟩
    go_wp2_with fail
    go_ret2
    refine ⟨_, rfl, ?_, (below_alloc' (Below.refl _ _) _ hB).grown hg1 (by simp; omega) (fun k hk => by injection hk with hk; omega)⟩
    unfold OwnInts
    rw [HE.out, show (st.take k ++ st.drop (k + 1)).length = m by simp [HN.out] <;> omega]
    exact ho1
  · exact has_false HA.out h
end Go.Proofs.Ytoeecaeaobfhmaa
