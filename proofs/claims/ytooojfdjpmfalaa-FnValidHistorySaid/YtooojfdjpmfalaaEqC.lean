/-
  The law package's equality of two lists of calls that read the same. No condition but lengths of at most 2 to the 20.
-/
import Derived.Test.YtooojfdjpmfalaaCallS
namespace Go.Proofs.Ytooojfdjpmfalaa
open Go.RowKit
set_option maxRecDepth 100000

set_option maxHeartbeats 1000000 in
theorem equalCalls_same (cs : List CallD) (n : Nat) (A B : Option Addr) (ca cb : Nat) (w : World) (ha : RowCalls w A cs) (hbb : RowCalls w B cs) (hn : cs.length = n) (hl : n ≤ 1048576) :
    Calls Try.prog 37 #[.slice A n ca, .slice B n cb] w fun e w' => e = .returned (.bool true) ∧ Below w.heap.size w w' := by
  have HA := Lib.hid ha
  have HB := Lib.hid hbb
  have HN := Lib.hid hn
  clear ha hbb hn
  have hlen : (n : Int) ≤ 1048576 := by omega
  go_enter Try.func37, Try.ntmps37
  go_wp2
  go_loopw [5] (fun i wr => ∃ k : Nat, k ≤ n ∧ i = .int .i64 k ∧ Below w.heap.size w wr) (fun i _ => n - (intOf i).toNat)
  case atStart => exact ⟨0, by omega, rfl, Below.refl _ _⟩
  case round =>
    obtain ⟨k, hk, rfl, hb⟩ := hrel
    by_cases hlt : k < n
    · obtain ⟨b1, o1, rfl, hat1⟩ := HA.out (by have := HN.out; omega)
      obtain ⟨b2, o2, rfl, hat2⟩ := HB.out (by have := HN.out; omega)
      obtain ⟨c, hc⟩ : ∃ c, cs[k]? = some c := ⟨cs[k]'(by have := HN.out; omega), List.getElem?_eq_getElem _⟩
      obtain ⟨x0, x1, x2, x3, x4, x5, x6⟩ := (RowCalls.at7 hat1 hc).below hb
      obtain ⟨y0, y1, y2, y3, y4, y5, y6⟩ := (RowCalls.at7 hat2 hc).below hb
      have hz1 : b1 < wr.heap.size := World.block_lt_of_cell? _ _ x0
      have hz2 : b2 < wr.heap.size := World.block_lt_of_cell? _ _ y0
      have Hb := Lib.hid hb
      clear hat1 hat2 hc hb
      have hk0 : (0 : Int) ≤ (k : Int) := by omega
      have hkn : (k : Int) < (n : Int) := by omega
      go_wp2_with fail
      refine wp_region_grow (by kernel_rfl) (by kernel_rfl) ?_
      repeat (go_big_quiet_step (fail))
      refine wpQuiet_end ?_
      intro w3 hb3
      go_wp2_with fail
      go_roundw
      case rel => exact ⟨k + 1, by omega, by go_num, below_trans' Hb.out hb3⟩
      case measure => simp [intOf]; omega
    · have e1 : k = n := by omega
      subst e1
      have hge : ¬ ((k : Int) < (k : Int)) := by omega
      have Hb := Lib.hid hb
      clear hb
      go_wp2
      go_ret
      exact ⟨rfl, Hb.out⟩
end Go.Proofs.Ytooojfdjpmfalaa
