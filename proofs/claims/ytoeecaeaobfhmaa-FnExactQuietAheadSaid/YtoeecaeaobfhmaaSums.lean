/-
  What the program's sums computes of a question on pairs of indices: for each index the sum of 2 to each index for which the answer is yes. The condition is on the callee: it answers without touching memory that was there.
-/
import Derived.Test.YtoeecaeaobfhmaaPow
import Derived.Test.YtoeecaeaobfhmaaOwn
import Derived.Laws.BitsAllLaws
namespace Go.Proofs.Ytoeecaeaobfhmaa
open Go.RowKit
set_option maxRecDepth 100000

/-- The sum for one index, up to k. -/
def sumTo (p : Nat → Bool) : Nat → Nat
  | 0 => 0
  | k + 1 => sumTo p k + if p k then 2 ^ k else 0
theorem sumTo_lt (p : Nat → Bool) : ∀ k, sumTo p k < 2 ^ k
  | 0 => by simp [sumTo]
  | k + 1 => by
    have := sumTo_lt p k
    rw [sumTo, Nat.pow_succ]
    split <;> omega
def sumsL (p : Nat → Nat → Bool) (n : Nat) : List Int := (List.range n).map fun i => ((sumTo (p i) n : Nat) : Int)
theorem sumsL_len (p : Nat → Nat → Bool) (n : Nat) : (sumsL p n).length = n := by simp [sumsL]

theorem ofInt_i64 (a : Nat) (ha : a < 9223372036854775808) : (BitVec.ofInt 64 (a : Int)).toNat = a := by
  rw [BitVec.ofInt_natCast, BitVec.toNat_ofNat]; exact Nat.mod_eq_of_lt (by omega)
theorem i64_or_nat (a b : Nat) (ha : a < 9223372036854775808) (hb : b < 9223372036854775808) : bits .or .i64 (a : Int) (b : Int) = ((a ||| b : Nat) : Int) := by
  have hx : a ||| b < 2 ^ 63 := Nat.or_lt_two_pow (by omega) (by omega)
  show IntKind.i64.wrap ((BitVec.ofInt 64 (a : Int) ||| BitVec.ofInt 64 (b : Int)).toNat : Int) = _
  rw [BitVec.toNat_or, ofInt_i64 a ha, ofInt_i64 b hb, IntKind.wrap_i64]
  omega
theorem or_pow {s k : Nat} (h : s < 2 ^ k) : s ||| 2 ^ k = s + 2 ^ k := by
  have := Nat.two_pow_add_eq_or_of_lt h 1
  rw [Nat.mul_one] at this
  rw [Nat.or_comm, ← this, Nat.add_comm]
theorem or_step {s j : Nat} (hs : s < 2 ^ j) (hj : j ≤ 20) : bits BinOp.or IntKind.i64 (s : Int) (wrap64 (2 ^ j)) = ((s + 2 ^ j : Nat) : Int) := by
  have hp : 2 ^ j ≤ 2 ^ 20 := Nat.pow_le_pow_right (by omega) hj
  have e : wrap64 ((2 : Int) ^ j) = ((2 ^ j : Nat) : Int) := by
    rw [← two_cast]
    generalize (2 ^ j : Nat) = t at *
    exact IntWalk.wrap64_in _ ⟨by omega, by omega⟩
  rw [e, i64_or_nat _ _ (by omega) (by omega), or_pow hs]
theorem ints_info : (Try.prog.info? 3).map (fun i => (i.zero, i.size, i.bytes)) = some (some (.int .i64 0), 1, 8) := by kernel_rfl

/-- The row while it is made: the indices below i are done, i itself up to j. -/
def rowAt (p : Nat → Nat → Bool) (n i j : Nat) : List Int := (List.range n).map fun a => if a < i then ((sumTo (p a) n : Nat) : Int) else if a = i then ((sumTo (p a) j : Nat) : Int) else 0
theorem rowAt_len (p : Nat → Nat → Bool) (n i j : Nat) : (rowAt p n i j).length = n := by simp [rowAt]
theorem rowAt_get {p : Nat → Nat → Bool} {n i j : Nat} (hi : i < n) : (rowAt p n i j)[i]? = some ((sumTo (p i) j : Nat) : Int) := by
  simp [rowAt, hi]
theorem rowAt_set {p : Nat → Nat → Bool} {n i j : Nat} (_hi : i < n) : (rowAt p n i j).set i ((sumTo (p i) (j + 1) : Nat) : Int) = rowAt p n i (j + 1) := by
  apply List.ext_getElem?
  intro a
  rw [List.getElem?_set]
  by_cases ha : i = a
  · subst ha
    simp [rowAt, _hi]
  · rw [if_neg ha]
    simp only [rowAt, List.getElem?_map]
    by_cases hn : a < n
    · rw [List.getElem?_range hn]
      simp only [Option.map_some, Option.some.injEq]
      rw [if_neg (show ¬ a = i by omega), if_neg (show ¬ a = i by omega)]
    · rw [List.getElem?_eq_none (by simp; omega)]; rfl
theorem rowAt_same {p : Nat → Nat → Bool} {n i j : Nat} (h : p i j = false) : rowAt p n i (j + 1) = rowAt p n i j := by
  simp only [rowAt, sumTo]
  refine List.map_congr_left fun a _ => ?_
  by_cases ha : a = i
  · subst ha; simp [h]
  · simp [ha]
theorem rowAt_next {p : Nat → Nat → Bool} {n i : Nat} : rowAt p n i n = rowAt p n (i + 1) 0 := by
  simp only [rowAt]
  refine List.map_congr_left fun a _ => ?_
  by_cases h1 : a < i
  · rw [if_pos h1, if_pos (by omega)]
  · by_cases h2 : a = i
    · rw [if_neg h1, if_pos h2, if_pos (by omega)]
    · rw [if_neg h1, if_neg h2, if_neg (by omega)]
      split <;> simp [sumTo]
theorem rowAt_done {p : Nat → Nat → Bool} {n : Nat} : rowAt p n n 0 = sumsL p n := by
  simp only [rowAt, sumsL]
  refine List.map_congr_left fun a ha => ?_
  rw [if_pos (List.mem_range.1 ha)]
theorem rowAt_start {p : Nat → Nat → Bool} {n : Nat} : rowAt p n 0 0 = List.replicate n 0 := by
  apply List.ext_getElem?
  intro a
  by_cases hn : a < n
  · simp only [rowAt, List.getElem?_map, List.getElem?_range hn, Option.map_some, List.getElem?_replicate, if_pos hn, Option.some.injEq]
    rw [if_neg (by omega)]
    split <;> simp [sumTo]
  · rw [List.getElem?_eq_none (by simp [rowAt]; omega), List.getElem?_eq_none (by simp; omega)]

theorem flat_ints : ∀ L : List Int, L.flatMap intVals = L.map (Value.int .i64)
  | [] => rfl
  | x :: xs => by rw [List.flatMap_cons, flat_ints xs]; rfl
/-- Block g is just a row of these numbers. -/
def IntBlk (w : World) (g : Nat) (L : List Int) : Prop := w.heap[g]? = some (.cells (L.map (Value.int .i64)).toArray 3 (0, 0))
theorem IntBlk.lt {w : World} {g : Nat} {L : List Int} (h : IntBlk w g L) : g < w.heap.size := (Array.getElem?_eq_some_iff.1 h).1
theorem IntBlk.below {w w' : World} {g : Nat} {L : List Int} (h : IntBlk w g L) (hb : Below w.heap.size w w') : IntBlk w' g L := (hb.block g h.lt).trans h
theorem IntBlk.cell {w : World} {g i : Nat} {L : List Int} {n : Int} (h : IntBlk w g L) (hi : L[i]? = some n) : w.cell? ⟨g, i, none⟩ = some (.int .i64 n) := by
  rw [cell_of_row w g i _ _ (0, 0) h]
  simp [hi]
theorem IntBlk.free {w : World} {g i : Nat} {L : List Int} (h : IntBlk w g L) : w.frozen? ⟨g, i, none⟩ = false := frozen_of_row w g i _ _ h
theorem IntBlk.set_ {w : World} {g i : Nat} {L : List Int} (h : IntBlk w g L) (n : Int) : IntBlk (w.setCell ⟨g, i, none⟩ (.int .i64 n)) g (L.set i n) := by
  have := heap_setCell_same w g i _ _ (.int .i64 n) h
  unfold IntBlk
  rw [this]
  simp [List.map_set]
theorem IntBlk.own {w : World} {g base n : Nat} {L : List Int} (h : IntBlk w g L) (hl : L.length = n) (hb : base ≤ g) (hn : n ≤ maxLen) : w.ownsRow base 3 1 (.slice (some ⟨g, 0, none⟩) n n) n (L.flatMap intVals) := by
  rw [flat_ints]
  exact ⟨by simp [hl], .inr ⟨g, n, _, rfl, hb, h, Nat.le_refl _, hn, by simp [hl], by rw [List.take_of_length_le (by simp [hl])]⟩⟩
theorem IntBlk.made {w : World} {g base n : Nat} (h : w.ownsRow base 3 1 (.slice (some ⟨g, 0, none⟩) n n) n (madeCells (Value.int IntKind.i64 0).cells (n * 1)).toList) : IntBlk w g (List.replicate n 0) := by
  rcases h.2 with ⟨h0, _⟩ | ⟨g', cap, cur, hv, _, hg, _, _, hs, ht⟩
  · cases h0
  · injection hv with h1 _ h3
    injection h1 with h1
    injection h1 with h1
    subst h1 h3
    unfold IntBlk
    rw [hg]
    have e1 : cur.toList = (madeCells (Value.int IntKind.i64 0).cells (n * 1)).toList := by
      rw [← ht, List.take_of_length_le (by simp [hs])]
    have e2 : (madeCells (Value.int IntKind.i64 0).cells (n * 1)).toList = List.replicate (n * 1) (Value.int IntKind.i64 0) := toList_madeCells_one _ _
    rw [e2] at e1
    have e3 : cur = (List.replicate n (Value.int IntKind.i64 0)).toArray := by
      apply Array.ext'
      rw [e1]
      simp
    rw [e3]
    simp

set_option maxHeartbeats 2000000 in
theorem sums_calls (f : FuncId) (cv : Value) (p : Nat → Nat → Bool) (n : Nat) (w : World) (hn : n ≤ 20)
    (hcf : ∀ (args : Array Value) (W : World), (callFunc f args).run Try.prog W = .ok (.enter f args) W)
    (hw : ∀ (W : World) (i k : Nat), Below w.heap.size w W → i < n → k < n → Calls Try.prog f #[.int .i64 i, .int .i64 k, cv] W fun e w' => e = .returned (.bool (p i k)) ∧ Below W.heap.size W w') :
    Calls Try.prog 48 #[.int .i64 n, .func (.func f) #[] #[cv]] w fun e w' => ∃ v, e = .returned v ∧ w'.ownsRow w.heap.size 3 1 v n ((sumsL p n).flatMap intVals) ∧ Below w.heap.size w w' := by
  obtain ⟨i0, hi0, hz0, hz1, hz2⟩ := info_parts ints_info
  have HW := Lib.hid hw
  clear hw
  have hlen : (n : Int) ≤ 20 := by omega
  go_enter Try.func48, Try.ntmps48
  go_wp2_with (at_make; refine wpList_make_full _ rfl _ _ 24 rfl w.heap.size 3 i0 _ 1 Try.underlying24 hi0 hz0 hz1 _ _ _ _ n rfl rfl rfl rfl (by rw [hz2]; omega) (by unfold maxLen; omega) (Nat.le_refl _) ?_; intro w1 hown hgrow)
  have hb1 : Below w.heap.size w w1 := (Below.refl _ _).grown hgrow (Nat.le_refl _) (by simp)
  have hk1 : IntBlk w1 w.heap.size (rowAt p n 0 0) := by rw [rowAt_start]; exact IntBlk.made hown
  clear hown hgrow
  go_loopw [12] (fun i wr => ∃ k : Nat, k ≤ n ∧ i = .int .i64 k ∧ Below w.heap.size w wr ∧ IntBlk wr w.heap.size (rowAt p n k 0)) (fun i _ => n - (intOf i).toNat)
  case atStart => exact ⟨0, by omega, rfl, hb1, hk1⟩
  case round =>
    clear hb1 hk1
    obtain ⟨i, hi, rfl, hb, hk⟩ := hrel
    obtain ⟨wo, rfl⟩ : ∃ wo : World, wo = wr := ⟨_, rfl⟩
    by_cases hlt : i < n
    · have Hb := Lib.hid hb
      have Hk := Lib.hid hk
      clear hb hk
      have hi0' : (0 : Int) ≤ (i : Int) := by omega
      have hin : (i : Int) < (n : Int) := by omega
      go_wp2
      go_loopw [16] (fun j wq => ∃ k : Nat, k ≤ n ∧ j = .int .i64 k ∧ Below w.heap.size w wq ∧ IntBlk wq w.heap.size (rowAt p n i k)) (fun j _ => n - (intOf j).toNat)
      case atStart => exact ⟨0, by omega, rfl, Hb.out, Hk.out⟩
      case round =>
        obtain ⟨j, hj, rfl, hb2, hk2⟩ := hrel
        by_cases hjlt : j < n
        · have Hb2 := Lib.hid hb2
          have Hk2 := Lib.hid hk2
          clear hb2 hk2
          have hj0 : (0 : Int) ≤ (j : Int) := by omega
          have hjn : (j : Int) < (n : Int) := by omega
          have hslt := sumTo_lt (p i) j
          have hpow : 2 ^ j ≤ 2 ^ 20 := Nat.pow_le_pow_right (by omega) (by omega)
          have hss : sumTo (p i) (j + 1) = sumTo (p i) j + if p i j then 2 ^ j else 0 := rfl
          have Hslt := Lib.hid hslt
          have Hpow := Lib.hid hpow
          have Hss := Lib.hid hss
          clear hslt hpow hss
          cases hp : p i j
          · have HP := Lib.hid hp
            go_wp2_with ((with_reducible refine (HW.out _ i j Hb2.out hlt hjlt).mono ?_); rintro e w3 ⟨rfl, hb3⟩)
            go_roundw
            case rel => exact ⟨j + 1, by omega, by go_num, below_trans' Hb2.out hb3, by rw [rowAt_same HP.out]; exact Hk2.out.below hb3⟩
            case measure => simp [intOf]; omega
          · have HP := Lib.hid hp
            go_wp2_with ((with_reducible refine (HW.out _ i j Hb2.out hlt hjlt).mono ?_); rintro e w3 ⟨rfl, hb3⟩; have hc3 := (Hk2.out.below hb3).cell (rowAt_get hlt); have hf3 := (Hk2.out.below hb3).free (i := i))
            have hval : bits BinOp.or IntKind.i64 (↑(sumTo (p i) j)) (wrap64 (2 ^ j)) = ((sumTo (p i) (j + 1) : Nat) : Int) := by
              rw [or_step Hslt.out (by omega), Hss.out, HP.out]; rfl
            rw [hval]
            refine ⟨⟨j + 1, by omega, by go_num, (below_trans' Hb2.out hb3).setCell (Nat.le_refl _) _, ?_⟩, by simp [intOf]; omega⟩
            rw [← rowAt_set hlt]
            exact (Hk2.out.below hb3).set_ _
        · have hge : ¬ ((j : Int) < (n : Int)) := by omega
          have e1 : j = n := by omega
          subst e1
          go_wp2
          go_roundw
          case rel => exact ⟨i + 1, by omega, by go_num, hb2, by rw [← rowAt_next]; exact hk2⟩
          case measure => simp [intOf]; omega
    · have hge : ¬ ((i : Int) < (n : Int)) := by omega
      have e1 : i = n := by omega
      subst e1
      go_wp2
      go_ret
      rw [rowAt_done] at hk
      exact ⟨_, rfl, hk.own (sumsL_len p i) (Nat.le_refl _) (by unfold maxLen; omega), hb⟩
end Go.Proofs.Ytoeecaeaobfhmaa
