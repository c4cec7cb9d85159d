/-
  The program's step of an object of one number: the state and the right answer, as the Lean functions tell them. Asked: a call that is one by itself, a state of at most one number.
-/
import Derived.Test.YtoeecaeaobfhmaaImD
import Derived.Test.YtoeecaeaobfhmaaSmall
namespace Go.Proofs.Ytoeecaeaobfhmaa
open Go.RowKit Go.Deep
set_option maxRecDepth 100000

/-- What a step of the program leaves: a state in memory from block B on, the right answer. -/
def ImTo (w w' : World) (B : Nat) (L : List Int) (x : Int) (e : Ending) : Prop := ∃ v, e = .returned (.tuple #[v, .int .i64 x]) ∧ OwnInts w' B v L ∧ Below B w w'
theorem ints_one_own {w : World} {B g : Nat} {x : Int} (h : w.heap[g]? = some (.cells #[.int .i64 x] 3 (0, 0))) (hb : B ≤ g) : OwnInts w B (.slice (some ⟨g, 0, none⟩) 1 1) [x] :=
  ⟨rfl, .inr ⟨g, 1, _, rfl, hb, h, Nat.le_refl _, by simp [maxLen], rfl, rfl⟩⟩




set_option maxHeartbeats 1000000 in
theorem single_look_none (s : ByteArray) (c : CallD) (w : World) (B : Nat) (hB : B ≤ w.heap.size) (A : Option Addr) (cap : Nat) (ho : w.ownsRow B 3 1 (.slice A 0 cap) 0 []) (hk : (c.kind == 2) = true)  :
    Calls Try.prog 84 #[.string s, .slice A 0 cap, c.val] w fun e w' => ImTo w w' B [] 0 e := by
  have HO := Lib.hid ho
  clear ho
  go_enter Try.func84, Try.ntmps84
  go_wp2_with fail
  go_ret2
  exact ⟨_, rfl, own_below HO.out (below_alloc (Below.refl _ _) _), below_alloc' (Below.refl _ _) _ hB⟩
set_option maxHeartbeats 1000000 in
theorem single_look_one (s : ByteArray) (c : CallD) (w : World) (B : Nat) (hB : B ≤ w.heap.size) (g cap : Nat) (y : Int) (ho : w.ownsRow B 3 1 (.slice (some ⟨g, 0, none⟩) 1 cap) 1 [.int .i64 y]) (hk : (c.kind == 2) = true)  :
    Calls Try.prog 84 #[.string s, .slice (some ⟨g, 0, none⟩) 1 cap, c.val] w fun e w' => ImTo w w' B [y] y e := by
  have c0 := own_cellD ho (i := 0) rfl
  have hg := (ho.lt g rfl).2
  have HO := Lib.hid ho
  clear ho
  go_enter Try.func84, Try.ntmps84
  go_wp2_with fail
  go_ret2
  exact ⟨_, rfl, own_below HO.out (below_alloc (Below.refl _ _) _), below_alloc' (Below.refl _ _) _ hB⟩
set_option maxHeartbeats 1000000 in
theorem single_take_none (s : ByteArray) (c : CallD) (w : World) (B : Nat) (hB : B ≤ w.heap.size) (A : Option Addr) (cap : Nat) (ho : w.ownsRow B 3 1 (.slice A 0 cap) 0 []) (hk2 : (c.kind == 2) = false) (hk : (c.kind == 1) = true)  :
    Calls Try.prog 84 #[.string s, .slice A 0 cap, c.val] w fun e w' => ImTo w w' B [] 0 e := by
  have HO := Lib.hid ho
  clear ho
  go_enter Try.func84, Try.ntmps84
  go_wp2_with fail
  go_ret2
  exact ⟨_, rfl, World.ownsRow_nil _ _ _ _, below_alloc' (Below.refl _ _) _ hB⟩
set_option maxHeartbeats 1000000 in
theorem single_take_one (s : ByteArray) (c : CallD) (w : World) (B : Nat) (hB : B ≤ w.heap.size) (g cap : Nat) (y : Int) (ho : w.ownsRow B 3 1 (.slice (some ⟨g, 0, none⟩) 1 cap) 1 [.int .i64 y]) (hk2 : (c.kind == 2) = false) (hk : (c.kind == 1) = true)  :
    Calls Try.prog 84 #[.string s, .slice (some ⟨g, 0, none⟩) 1 cap, c.val] w fun e w' => ImTo w w' B [] y e := by
  have c0 := own_cellD ho (i := 0) rfl
  have hg := (ho.lt g rfl).2
  have HO := Lib.hid ho
  clear ho
  go_enter Try.func84, Try.ntmps84
  go_wp2_with fail
  go_ret2
  exact ⟨_, rfl, World.ownsRow_nil _ _ _ _, below_alloc' (Below.refl _ _) _ hB⟩
set_option maxHeartbeats 1000000 in
theorem single_register_none (s : ByteArray) (c : CallD) (w : World) (B : Nat) (hB : B ≤ w.heap.size) (A : Option Addr) (cap : Nat) (ho : w.ownsRow B 3 1 (.slice A 0 cap) 0 []) (hk2 : (c.kind == 2) = false) (hk1 : (c.kind == 1) = false) (ha0 : 0 ≤ c.arg) (ha3 : c.arg ≤ 3) (hs : s.toList = [114, 101, 103, 105, 115, 116, 101, 114]) :
    Calls Try.prog 84 #[.string s, .slice A 0 cap, c.val] w fun e w' => ImTo w w' B [c.arg] 0 e := by
  have HO := Lib.hid ho
  clear ho
  go_enter Try.func84, Try.ntmps84
  go_wp2_with fail
  go_ret2
  exact ⟨_, rfl, ints_one_own (heap_alloc_new' (by simp)) (by omega), below_alloc' (below_alloc' (Below.refl _ _) _ hB) _ hB⟩
set_option maxHeartbeats 1000000 in
theorem single_register_one (s : ByteArray) (c : CallD) (w : World) (B : Nat) (hB : B ≤ w.heap.size) (g cap : Nat) (y : Int) (ho : w.ownsRow B 3 1 (.slice (some ⟨g, 0, none⟩) 1 cap) 1 [.int .i64 y]) (hk2 : (c.kind == 2) = false) (hk1 : (c.kind == 1) = false) (ha0 : 0 ≤ c.arg) (ha3 : c.arg ≤ 3) (hs : s.toList = [114, 101, 103, 105, 115, 116, 101, 114]) :
    Calls Try.prog 84 #[.string s, .slice (some ⟨g, 0, none⟩) 1 cap, c.val] w fun e w' => ImTo w w' B [c.arg] 0 e := by
  have c0 := own_cellD ho (i := 0) rfl
  have hg := (ho.lt g rfl).2
  have HO := Lib.hid ho
  clear ho
  go_enter Try.func84, Try.ntmps84
  go_wp2_with fail
  go_ret2
  exact ⟨_, rfl, ints_one_own (heap_alloc_new' (by simp)) (by omega), below_alloc' (below_alloc' (Below.refl _ _) _ hB) _ hB⟩
set_option maxHeartbeats 1000000 in
theorem single_counter_none (s : ByteArray) (c : CallD) (w : World) (B : Nat) (hB : B ≤ w.heap.size) (A : Option Addr) (cap : Nat) (ho : w.ownsRow B 3 1 (.slice A 0 cap) 0 []) (hk2 : (c.kind == 2) = false) (hk1 : (c.kind == 1) = false) (ha0 : 0 ≤ c.arg) (ha3 : c.arg ≤ 3) (hs : s.toList = [99, 111, 117, 110, 116, 101, 114]) :
    Calls Try.prog 84 #[.string s, .slice A 0 cap, c.val] w fun e w' => ImTo w w' B [c.arg] 0 e := by
  have HO := Lib.hid ho
  clear ho
  go_enter Try.func84, Try.ntmps84
  go_wp2_with fail
  go_ret2
  exact ⟨_, rfl, ints_one_own (heap_alloc_new' (by simp)) (by omega), below_alloc' (below_alloc' (Below.refl _ _) _ hB) _ hB⟩
set_option maxHeartbeats 1000000 in
theorem single_counter_one (s : ByteArray) (c : CallD) (w : World) (B : Nat) (hB : B ≤ w.heap.size) (g cap : Nat) (y : Int) (ho : w.ownsRow B 3 1 (.slice (some ⟨g, 0, none⟩) 1 cap) 1 [.int .i64 y]) (hk2 : (c.kind == 2) = false) (hk1 : (c.kind == 1) = false) (ha0 : 0 ≤ c.arg) (ha3 : c.arg ≤ 3) (hs : s.toList = [99, 111, 117, 110, 116, 101, 114]) :
    Calls Try.prog 84 #[.string s, .slice (some ⟨g, 0, none⟩) 1 cap, c.val] w fun e w' => ImTo w w' B [wrap64 (y + c.arg)] 0 e := by
  have c0 := own_cellD ho (i := 0) rfl
  have hg := (ho.lt g rfl).2
  have HO := Lib.hid ho
  clear ho
  go_enter Try.func84, Try.ntmps84
  go_wp2_with fail
  go_ret2
  exact ⟨_, rfl, ints_one_own (heap_alloc_new' (by simp)) (by omega), below_alloc' (below_alloc' (Below.refl _ _) _ hB) _ hB⟩
set_option maxHeartbeats 1000000 in
theorem single_most_none (s : ByteArray) (c : CallD) (w : World) (B : Nat) (hB : B ≤ w.heap.size) (A : Option Addr) (cap : Nat) (ho : w.ownsRow B 3 1 (.slice A 0 cap) 0 []) (hk2 : (c.kind == 2) = false) (hk1 : (c.kind == 1) = false) (ha0 : 0 ≤ c.arg) (ha3 : c.arg ≤ 3) (hs : s.toList = [109, 111, 115, 116]) :
    Calls Try.prog 84 #[.string s, .slice A 0 cap, c.val] w fun e w' => ImTo w w' B [max 0 c.arg] 0 e := by
  have HO := Lib.hid ho
  clear ho
  go_enter Try.func84, Try.ntmps84
  go_wp2_with fail
  skip
  all_goals
    go_ret2
    first | (rw [show max 0 c.arg = c.arg by omega]; exact ⟨_, rfl, ints_one_own (heap_alloc_new' (by simp)) (by omega), below_alloc' (below_alloc' (Below.refl _ _) _ hB) _ hB⟩) | (rw [show max 0 c.arg = 0 by omega]; exact ⟨_, rfl, ints_one_own (heap_alloc_new' (by simp)) (by omega), below_alloc' (below_alloc' (Below.refl _ _) _ hB) _ hB⟩)
set_option maxHeartbeats 1000000 in
theorem single_most_one (s : ByteArray) (c : CallD) (w : World) (B : Nat) (hB : B ≤ w.heap.size) (g cap : Nat) (y : Int) (ho : w.ownsRow B 3 1 (.slice (some ⟨g, 0, none⟩) 1 cap) 1 [.int .i64 y]) (hk2 : (c.kind == 2) = false) (hk1 : (c.kind == 1) = false) (ha0 : 0 ≤ c.arg) (ha3 : c.arg ≤ 3) (hs : s.toList = [109, 111, 115, 116]) :
    Calls Try.prog 84 #[.string s, .slice (some ⟨g, 0, none⟩) 1 cap, c.val] w fun e w' => ImTo w w' B [max y c.arg] 0 e := by
  have c0 := own_cellD ho (i := 0) rfl
  have hg := (ho.lt g rfl).2
  have HO := Lib.hid ho
  clear ho
  go_enter Try.func84, Try.ntmps84
  go_wp2_with fail
  skip
  all_goals
    go_ret2
    first | (rw [show max y c.arg = c.arg by omega]; exact ⟨_, rfl, ints_one_own (heap_alloc_new' (by simp)) (by omega), below_alloc' (below_alloc' (Below.refl _ _) _ hB) _ hB⟩) | (rw [show max y c.arg = y by omega]; exact ⟨_, rfl, ints_one_own (heap_alloc_new' (by simp)) (by omega), below_alloc' (below_alloc' (Below.refl _ _) _ hB) _ hB⟩)
end Go.Proofs.Ytoeecaeaobfhmaa
