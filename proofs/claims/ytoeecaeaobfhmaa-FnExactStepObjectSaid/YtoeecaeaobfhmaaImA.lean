/-
  What the library's functions on slices of numbers do that the program's objects call: the first index of a number, a copy. No condition but lengths of at most a thousand.
-/
import Derived.Test.YtoeecaeaobfhmaaStepX
import Derived.Test.YtoeecaeaobfhmaaIsObj
import Derived.Test.YtoeecaeaobfhmaaIntS
import Derived.Lib.SliceRun
namespace Go.Proofs.Ytoeecaeaobfhmaa
open Go.RowKit Go.Deep
set_option maxRecDepth 100000

/-- The first index of x, or none. -/
def IdxOf (L : List Int) (x : Int) (e : Ending) : Prop := (∃ k : Nat, e = .returned (.int .i64 k) ∧ L[k]? = some x ∧ (L.take k).any (· == x) = false) ∨ (e = .returned (.int .i64 (-1)) ∧ L.any (· == x) = false)
set_option maxHeartbeats 1000000 in
theorem index_of (L : List Int) (n : Nat) (A : Option Addr) (cap : Nat) (x : Int) (w : World) (hr : RowInts w A L) (hn : L.length = n) (hl : n ≤ 1048576) :
    Calls Try.prog 87 #[.slice A n cap, .int .i64 x] w fun e w' => IdxOf L x e ∧ w = w' := by
  have HR := Lib.hid hr
  have HN := Lib.hid hn
  clear hr hn
  have hlen : (n : Int) ≤ 1048576 := by omega
  go_enter Try.func87, Try.ntmps87
  go_wp2
  go_loop [8] (fun i => ∃ k : Nat, k ≤ n ∧ i = .int .i64 k ∧ Hid ((L.take k).any (· == x) = false)) (fun i => n - (intOf i).toNat)
  case atStart => exact ⟨0, by omega, rfl, by show _ = _; simp⟩
  case round =>
    obtain ⟨k, hk, rfl, HK⟩ := hrel
    by_cases hlt : k < n
    · obtain ⟨b, off, rfl, hat⟩ := HR.out (by rw [HN.out]; omega)
      obtain ⟨y, hy⟩ : ∃ y, L[k]? = some y := ⟨L[k]'(by rw [HN.out]; exact hlt), List.getElem?_eq_getElem _⟩
      have r0 := RowInts.at_ hat hy
      have hst : (L.take (k + 1)).any (· == x) = ((L.take k).any (· == x) || y == x) := by rw [List.take_add_one, hy, List.any_append]; simp
      have Hst := Lib.hid hst
      have Hy := Lib.hid hy
      clear hat hy hst
      have hk0 : (0 : Int) ≤ (k : Int) := by omega
      have hkn : (k : Int) < (n : Int) := by omega
      cases hq : (x == y)
      · have Hq : Hid ((L.take (k + 1)).any (· == x) = false) := by
          show _ = _
          rw [Hst.out, HK.out, Bool.false_or, Bool.beq_comm]
          exact hq
        go_wp2
        go_round
        case rel => exact ⟨k + 1, by omega, by go_num, Hq⟩
        case measure => simp [intOf]; omega
      · have Hq := Lib.hid (show L[k]? = some x by rw [Hy.out]; simp at hq; rw [hq])
        go_wp2
        go_ret
        exact ⟨.inl ⟨k, rfl, Hq.out, HK.out⟩, rfl⟩
    · have hge : ¬ ((k : Int) < (n : Int)) := by omega
      have e1 : L.any (· == x) = false := by
        have := HK.out
        rwa [List.take_of_length_le (by rw [HN.out]; omega)] at this
      have E1 := Lib.hid e1
      clear e1
      go_wp2
      go_ret
      exact ⟨.inr ⟨rfl, E1.out⟩, rfl⟩

set_option maxHeartbeats 1000000 in
theorem clone_of (L : List Int) (n : Nat) (A : Option Addr) (cap : Nat) (w : World) (hr : RowInts w A L) (hn : L.length = n) (hl : n ≤ 1048576) :
    Calls Try.prog 83 #[.slice A n cap] w fun e w' => ∃ v, e = .returned v ∧ OwnInts w' w.heap.size v L ∧ Below w.heap.size w w' := by
  obtain ⟨i0, hi0, hz0, hz1, hz2⟩ := info_parts stepx_info
  have HR := Lib.hid hr
  have HN := Lib.hid hn
  clear hr hn
  have hlen : (n : Int) ≤ 1048576 := by omega
  have hnil := fun (w : World) (n c n' c' : Nat) => Lib.run_eql_slice_nil (P := Try.prog) w 24 3 A n c n' c' Try.underlying24
  cases A with
  | none =>
    have hL : L = [] := List.eq_nil_of_length_eq_zero ((RowOf.src1 HR.out).2 rfl)
    go_enter Try.func83, Try.ntmps83
    go_wp2_with fail
    go_ret
    refine ⟨_, rfl, ?_, Below.refl _ _⟩
    rw [hL]
    exact World.ownsRow_nil _ _ _ _
  | some a =>
    have HL := Lib.hid (show (L.flatMap intVals).length = n * 1 by rw [ints_flat_len, HN.out])
    have HB1 := Lib.hid (show 0 + n ≤ maxLen by unfold maxLen; omega)
    have HB2 := Lib.hid (show (0 + n) * 8 ≤ 140737488355328 by omega)
    go_enter Try.func83, Try.ntmps83
    go_wp2_with (at_builtin; refine wpList_append_any _ rfl (.tmp 5) (.tmp 6) 24 rfl w.heap.size 3 i0 _ 1 8 Try.underlying24 hi0 hz0 hz1 hz2 rfl (by omega) (.slice (some ⟨w.heap.size, 0, none⟩) 0 0) 0 [] rfl (own_empty (heap_alloc_new w _) (Nat.le_refl _)) (some a) n cap (L.flatMap intVals) rfl HL.out (RowOf.src1 (HR.out.below (below_alloc (Below.refl _ _) _))).1 (fun e => by cases e) (ints_ones L) HB1.out HB2.out (le_of_below rfl (below_alloc (Below.refl _ _) _)) ?_; intro v1 w1 ho1 hg1 hat1)
    go_ret
    refine ⟨v1, rfl, ?_, (below_alloc (Below.refl _ _) _).grown hg1 (le_of_below rfl (below_alloc (Below.refl _ _) _)) (fun k hk => by simp only [Value.ownBlock, Option.some.injEq] at hk; omega)⟩
    unfold OwnInts
    rw [HN.out]
    simpa using ho1
end Go.Proofs.Ytoeecaeaobfhmaa
