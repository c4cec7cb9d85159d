/-
  What the program and the reference answer on which calls are of its process before each call: the same list of sums. No condition but lengths of at most 2 to the 20.
-/
import Derived.Test.YtoeecaeaobfhmaaHist
import Derived.Test.YtoeecaeaobfhmaaSums
import Derived.Test.YtoeecaeaobfhmaaIntS
namespace Go.Proofs.Ytoeecaeaobfhmaa
open Go.RowKit
set_option maxRecDepth 100000

def pown (cs : List CallD) (i k : Nat) : Bool := ((hAt cs i).proc == (hAt cs k).proc && befB (hAt cs k) (hAt cs i))
def ownL (cs : List CallD) : List Int := if histB cs then sumsL (pown cs) cs.length else []
theorem ownL_len (cs : List CallD) : (ownL cs).length ≤ 1048576 := by
  unfold ownL
  split
  · rename_i hh
    have h1 := histB_len hh
    rw [sumsL_len]; omega
  · simp
theorem own_waysown (a b : Bool) : a = false ∨ (a = true ∧ b = false) ∨ (a = true ∧ b = true) := by
  cases a <;> cases b <;> simp

theorem callFunc_own (args : Array Value) (W : World) : (callFunc 52 args).run Try.prog W = .ok (.enter 52 args) W := by kernel_rfl

set_option maxHeartbeats 1000000 in
theorem clo_own (cs : List CallD) (A : Option Addr) (cap g i k : Nat) (w : World) (hr : RowCalls w A cs) (hg : w.cell? ⟨g, 0, none⟩ = some (.slice A cs.length cap)) (hl : cs.length ≤ 20) (hi : i < cs.length) (hk : k < cs.length) :
    Calls Try.prog 52 #[.int .i64 i, .int .i64 k, .pointer (some ⟨g, 0, none⟩)] w fun e w' => e = .returned (.bool (pown cs i k)) ∧ Below w.heap.size w w' := by
  obtain ⟨b0, off, rfl, hat⟩ := hr (by omega)
  obtain ⟨c, hc⟩ : ∃ c, cs[i]? = some c := ⟨cs[i], List.getElem?_eq_getElem _⟩
  obtain ⟨o, ho⟩ : ∃ o, cs[k]? = some o := ⟨cs[k], List.getElem?_eq_getElem _⟩
  obtain ⟨x0, x1, x2, x3, x4, x5, x6⟩ := RowCalls.at7 hat hc
  obtain ⟨y0, y1, y2, y3, y4, y5, y6⟩ := RowCalls.at7 hat ho
  have hbz : b0 < w.heap.size := World.block_lt_of_cell? _ _ x0
  have hgz : g < w.heap.size := World.block_lt_of_cell? _ _ hg
  have Hp := Lib.hid (show pown cs i k = (c.proc == o.proc && befB o c) by rw [pown, hAt_eq hc, hAt_eq ho])
  generalize cs.length = n at *
  have hi0 : (0 : Int) ≤ (i : Int) := by omega
  have hk0 : (0 : Int) ≤ (k : Int) := by omega
  have hin : (i : Int) < (n : Int) := by omega
  have hkn : (k : Int) < (n : Int) := by omega
  clear hc ho hat hr
  go_enter Try.func52, Try.ntmps52
  cases hpe : (c.proc == o.proc)
  · go_wp2_with fail
    refine wp_region_grow (by kernel_rfl) (by kernel_rfl) ?_
    repeat (go_big_quiet_step (fail))
    refine wpQuiet_end ?_
    intro w3 hb3
    go_wp2_with fail
    go_ret
    exact ⟨by rw [Hp.out]; simp [*], (by repeat (first | exact Below.refl _ _ | assumption | refine below_alloc ?_ _ | refine below_trans' ?_ (by assumption) | refine Below.drew ?_))⟩
  · go_wp2_with fail
    refine wp_region_grow (by kernel_rfl) (by kernel_rfl) ?_
    repeat (go_big_quiet_step ((go_at_call 50; exact Calls.ext_of (Nat.le_refl _) (implIsBefore_calls o c _ rfl _))))
    refine wpQuiet_end ?_
    intro w3 hb3
    go_wp2_with fail
    go_ret
    exact ⟨by rw [Hp.out]; simp [*], (by repeat (first | exact Below.refl _ _ | assumption | refine below_alloc ?_ _ | refine below_trans' ?_ (by assumption) | refine Below.drew ?_))⟩

set_option maxHeartbeats 1000000 in
theorem implOwnAhead_calls (cs : List CallD) (A : Option Addr) (cap : Nat) (w : World) (hr : RowCalls w A cs) (hl : cs.length ≤ 1048576) (hcap : cs.length ≤ cap) :
    Calls Try.prog 25 #[.slice A cs.length cap] w fun e w' => ∃ v, e = .returned v ∧ OwnInts w' w.heap.size v (ownL cs) ∧ Below w.heap.size w w' := by
  have HR := Lib.hid hr
  clear hr
  cases hv : histB cs
  · have e1 : ownL cs = [] := by simp [ownL, hv]
    have E1 := Lib.hid e1
    have HV := Lib.hid hv
    clear hv e1
    go_enter Try.func25, Try.ntmps25
    go_wp2_with (go_at_call 44; refine (implValid_calls cs A cap _ (HR.out.below (below_alloc (Below.refl _ _) _)) hl hcap false HV.out).mono ?_; rintro e w1 ⟨rfl, hb1⟩)
    go_ret
    refine ⟨_, rfl, ?_, (by repeat (first | exact Below.refl _ _ | assumption | refine below_alloc ?_ _ | refine below_trans' ?_ (by assumption) | refine Below.drew ?_))⟩
    unfold OwnInts
    rw [E1.out]
    exact World.ownsRow_nil _ _ _ _
  · have e1 : ownL cs = sumsL (pown cs) cs.length := by simp [ownL, hv]
    have E1 := Lib.hid e1
    have HV := Lib.hid hv
    have h6 := histB_len hv
    clear hv e1
    go_enter Try.func25, Try.ntmps25
    go_wp2_with (go_at_call 44; refine (implValid_calls cs A cap _ (HR.out.below (below_alloc (Below.refl _ _) _)) hl hcap true HV.out).mono ?_; rintro e w1 ⟨rfl, hb1⟩; obtain ⟨hc1, _⟩ := bcell hb1; have hl0 : w.heap.size < w1.heap.size := by have := hb1.size; simp at this; omega)
    have hbw1 : Below w.heap.size w w1 := (by repeat (first | exact Below.refl _ _ | assumption | refine below_alloc ?_ _ | refine below_trans' ?_ (by assumption) | refine Below.drew ?_))
    have hcell : w1.cell? ⟨w.heap.size, 0, none⟩ = some (.slice A cs.length cap) := by rw [hc1 _ _ (by simp)]; simp
    refine (sums_calls 52 (.pointer (some ⟨w.heap.size, 0, none⟩)) (pown cs) cs.length _ (by omega) callFunc_own (fun W i k hW hi hk => clo_own cs A cap w.heap.size i k W (HR.out.below (below_trans' hbw1 hW)) (cell_below hW hcell) (by omega) hi hk)).mono ?_
    rintro e w2 ⟨v, rfl, ho, hb2⟩
    go_wp2_with fail
    go_ret
    refine ⟨v, rfl, ?_, (by repeat (first | exact Below.refl _ _ | assumption | refine below_alloc ?_ _ | refine below_trans' ?_ (by assumption) | refine Below.drew ?_))⟩
    unfold OwnInts
    rw [E1.out, sumsL_len]
    exact own_base ho hbw1.size

theorem sums_take {p : Nat → Nat → Bool} {n k : Nat} (hk : k < n) : (sumsL p n).take (k + 1) = (sumsL p n).take k ++ [((sumTo (p k) n : Nat) : Int)] := by
  rw [List.take_add_one]
  simp [sumsL, hk]

set_option maxHeartbeats 2000000 in
theorem specown_calls (cs : List CallD) (A : Option Addr) (cap : Nat) (w : World) (hr : RowCalls w A cs) (hl : cs.length ≤ 20) :
    Calls Try.prog 51 #[.slice A cs.length cap] w fun e w' => ∃ v, e = .returned v ∧ OwnInts w' w.heap.size v (sumsL (pown cs) cs.length) ∧ Below w.heap.size w w' := by
  obtain ⟨i0, hi0, hz0, hz1, hz2⟩ := info_parts ints_info
  have HR := Lib.hid hr
  clear hr
  generalize hn : cs.length = n at *
  have Hn := Lib.hid hn
  clear hn
  have hlen : (n : Int) ≤ 20 := by omega
  have hLlen : ∀ k, k ≤ n → ((sumsL (pown cs) n).take k).length = k := fun k hk => by rw [List.length_take, sumsL_len]; omega
  have HLL := Lib.hid hLlen
  clear hLlen
  go_enter Try.func51, Try.ntmps51
  go_wp2
  go_loopw [3, 4] (fun v i wr => ∃ k : Nat, k ≤ n ∧ i = .int .i64 k ∧ wr.ownsRow w.heap.size 3 1 v k (((sumsL (pown cs) n).take k).flatMap intVals) ∧ Below w.heap.size w wr) (fun _ i _ => n - (intOf i).toNat)
  case atStart => exact ⟨0, by omega, rfl, World.ownsRow_made w #[] 0 (Nat.le_refl _) (by simp [maxLen]) rfl, below_alloc (Below.refl _ _) _⟩
  case round =>
    obtain ⟨i, hi, rfl, hown, hb⟩ := hrel
    obtain ⟨wo, rfl⟩ : ∃ wo : World, wo = wr := ⟨_, rfl⟩
    by_cases hlt : i < n
    · obtain ⟨b0, off, rfl, hat⟩ := HR.out (by have := Hn.out; omega)
      obtain ⟨c, hc⟩ : ∃ c, cs[i]? = some c := ⟨cs[i]'(by have := Hn.out; omega), List.getElem?_eq_getElem _⟩
      have Hat := Lib.hid hat
      have Hci := Lib.hid hc
      have Hc := Lib.hid (hAt_eq hc)
      have Hb := Lib.hid hb
      have Hown := Lib.hid hown
      have hlt5 := hown.lt
      have Hlt5 := Lib.hid hlt5
      clear HR hat hc hb hown hlt5
      have hi0' : (0 : Int) ≤ (i : Int) := by omega
      have hin : (i : Int) < (n : Int) := by omega
      go_wp2
      go_loopw [5, 6] (fun m j wq => ∃ k : Nat, k ≤ n ∧ j = .int .i64 k ∧ m = .int .i64 (sumTo (pown cs i) k) ∧ Below wo.heap.size wo wq) (fun _ j _ => n - (intOf j).toNat)
      case atStart => exact ⟨0, by omega, rfl, rfl, Below.refl _ _⟩
      case round =>
        obtain ⟨j, hj, rfl, rfl, hb2⟩ := hrel
        by_cases hjlt : j < n
        · obtain ⟨o, ho⟩ : ∃ o, cs[j]? = some o := ⟨cs[j]'(by have := Hn.out; omega), List.getElem?_eq_getElem _⟩
          have hbw2 : Below w.heap.size w wr := by have hb := Hb.out; exact (by repeat (first | exact Below.refl _ _ | assumption | refine below_alloc ?_ _ | refine below_trans' ?_ (by assumption) | refine Below.drew ?_))
          obtain ⟨x0, x1, x2, x3, x4, x5, x6⟩ := (RowCalls.at7 Hat.out Hci.out).below hbw2
          obtain ⟨y0, y1, y2, y3, y4, y5, y6⟩ := (RowCalls.at7 Hat.out ho).below hbw2
          have hbz : b0 < wr.heap.size := World.block_lt_of_cell? _ _ x0
          have Ho := Lib.hid (hAt_eq ho)
          have Hb2 := Lib.hid hb2
          clear ho hb2 hbw2
          have hj0 : (0 : Int) ≤ (j : Int) := by omega
          have hjn : (j : Int) < (n : Int) := by omega
          have hslt := sumTo_lt (pown cs i) j
          have hpow : 2 ^ j ≤ 2 ^ 20 := Nat.pow_le_pow_right (by omega) (by omega)
          have hss : sumTo (pown cs i) (j + 1) = sumTo (pown cs i) j + if pown cs i j then 2 ^ j else 0 := rfl
          have hpw : pw j = ((2 ^ j : Nat) : Int) := by rw [pw_eq j (by omega), two_cast]
          have HPW := Lib.hid (fun (W : World) => power_calls j W (by omega))
          generalize sumTo (pown cs i) j = s at *
          generalize pw j = q at *
          generalize 2 ^ j = t at *
          have hs1 : (s : Int) ≤ 1048576 := by omega
          have hs0 : (0 : Int) ≤ (s : Int) := by omega
          have hq0 : (0 : Int) ≤ q := by omega
          have hq1 : q ≤ 1048576 := by omega
          have Hss := Lib.hid hss
          have Hpw := Lib.hid hpw
          clear hslt hpow hss hpw
          have Hp : Hid (pown cs i j = (o.proc == c.proc && befB o c)) := by show _ = _; rw [pown, Hc.out, Ho.out, BEq.comm (a := c.proc)]
          rcases own_waysown (o.proc == c.proc) (befB o c) with r1 | ⟨r1, r2⟩ | ⟨r1, r2⟩
          · go_wp2_with fail
            refine wp_region_grow (by kernel_rfl) (by kernel_rfl) ?_
            repeat (go_big_quiet_step (fail))
            refine wpQuiet_end ?_
            intro w3 hb3
            go_wp2_with fail
            go_roundw
            case rel =>
              have hb2 := Hb2.out
              exact ⟨j + 1, by omega, by go_num, by rw [Hss.out, Hp.out]; simp [*], (by repeat (first | exact Below.refl _ _ | assumption | refine below_alloc ?_ _ | refine below_trans' ?_ (by assumption) | refine Below.drew ?_))⟩
            case measure => simp [intOf]; omega
          · have R2 := Lib.hid r2
            go_wp2_with fail
            refine wp_region_grow (by kernel_rfl) (by kernel_rfl) ?_
            repeat (go_big_quiet_step ((go_at_call 59; exact Calls.ext_of (Nat.le_refl _) (before_calls o c false R2.out _))))
            refine wpQuiet_end ?_
            intro w3 hb3
            go_wp2_with fail
            go_roundw
            case rel =>
              have hb2 := Hb2.out
              exact ⟨j + 1, by omega, by go_num, by rw [Hss.out, Hp.out]; simp [*], (by repeat (first | exact Below.refl _ _ | assumption | refine below_alloc ?_ _ | refine below_trans' ?_ (by assumption) | refine Below.drew ?_))⟩
            case measure => simp [intOf]; omega
          · have R2 := Lib.hid r2
            have R1 := Lib.hid r1
            go_wp2_with fail
            refine wp_region_grow (by kernel_rfl) (by kernel_rfl) ?_
            repeat (go_big_quiet_step ((go_at_call 59; exact Calls.ext_of (Nat.le_refl _) (before_calls o c true R2.out _))))
            refine wpQuiet_end ?_
            intro w3 hb3
            go_wp2_with (go_at_call 75; refine (HPW.out _).mono ?_; rintro e w4 ⟨rfl, rfl⟩)
            first
              | (go_roundw
                 case rel =>
                   have hb2 := Hb2.out
                   exact ⟨j + 1, by omega, by go_num, by rw [Hss.out, Hp.out, R1.out, R2.out, Hpw.out]; simp, (by repeat (first | exact Below.refl _ _ | assumption | refine below_alloc ?_ _ | refine below_trans' ?_ (by assumption) | refine Below.drew ?_))⟩
                 case measure => simp [intOf]; omega)
              | (have hb2 := Hb2.out
                 refine ⟨⟨j + 1, by omega, by go_num, ?_, (by repeat (first | exact Below.refl _ _ | assumption | refine below_alloc ?_ _ | refine below_trans' ?_ (by assumption) | refine Below.drew ?_))⟩, by simp [intOf]; omega⟩
                 rw [Hss.out, Hp.out, R1.out, R2.out, Hpw.out]
                 simp)
        · have hge : ¬ ((j : Int) < (n : Int)) := by omega
          have e1 : j = n := by omega
          subst e1
          have hown := own_below Hown.out hb2
          have hsb := hb2.size
          have hszb := Hb.out.size
          go_wp2_with (at_builtin; refine wpList_append_own _ rfl (.tmp 46) (.tmp 48) 24 rfl w.heap.size 3 i0 _ 1 8 Try.underlying24 hi0 hz0 hz1 hz2 rfl (by omega) _ i (((sumsL (pown cs) j).take i).flatMap intVals) rfl (hown.alloc _) ⟨wr.heap.size, 0, none⟩ 1 1 [_] rfl rfl (int_new _ _ _) (int_one _) (by unfold maxLen; omega) (by omega) (by simp; omega) ?_; intro v1 w1 hown1 hgrow _)
          go_roundw
          case rel =>
            refine ⟨i + 1, by omega, by go_num, ?_, ?_⟩
            · rw [sums_take (by omega), List.flatMap_append]
              simpa [intVals] using hown1
            · exact (below_alloc (below_trans' Hb.out hb2) _).grown hgrow (by simp; omega) (fun q hq => (Hlt5.out q hq).1)
          case measure => simp [intOf]; omega
    · have hge : ¬ ((i : Int) < (n : Int)) := by omega
      have e1 : i = n := by omega
      subst e1
      go_wp2
      go_ret
      refine ⟨_, rfl, ?_, hb⟩
      unfold OwnInts
      rw [List.take_of_length_le (by rw [sumsL_len]; omega)] at hown
      rw [sumsL_len]
      exact hown

theorem specOwnAhead_calls (cs : List CallD) (A : Option Addr) (cap : Nat) (w : World) (hr : RowCalls w A cs) (hl : cs.length ≤ 1048576) :
    Calls Try.prog 24 #[.slice A cs.length cap] w fun e w' => ∃ v, e = .returned v ∧ OwnInts w' w.heap.size v (ownL cs) ∧ Below w.heap.size w w' := by
  have HR := Lib.hid hr
  clear hr
  cases hv : histB cs
  · have e1 : ownL cs = [] := by simp [ownL, hv]
    have E1 := Lib.hid e1
    have HV := Lib.hid hv
    clear hv e1
    go_enter Try.func24, Try.ntmps24
    go_wp2_with (go_at_call 42; refine (specValid_calls cs A cap _ HR.out hl false HV.out).mono ?_; rintro e w1 ⟨rfl, hb1⟩)
    go_ret
    exact ⟨_, rfl, by unfold OwnInts; rw [E1.out]; exact World.ownsRow_nil _ _ _ _, hb1⟩
  · have e1 : ownL cs = sumsL (pown cs) cs.length := by simp [ownL, hv]
    have E1 := Lib.hid e1
    have HV := Lib.hid hv
    have h6 := histB_len hv
    clear hv e1
    go_enter Try.func24, Try.ntmps24
    go_wp2_with (go_at_call 42; refine (specValid_calls cs A cap _ HR.out hl true HV.out).mono ?_; rintro e w1 ⟨rfl, hb1⟩)
    refine (specown_calls cs A cap _ (HR.out.below hb1) (by omega)).mono ?_
    rintro e w2 ⟨v, rfl, ho, hb2⟩
    go_wp2_with fail
    go_ret
    exact ⟨v, rfl, by unfold OwnInts at ho ⊢; rw [E1.out]; exact own_base ho hb1.size, (by repeat (first | exact Below.refl _ _ | assumption | refine below_alloc ?_ _ | refine below_trans' ?_ (by assumption) | refine Below.drew ?_))⟩
end Go.Proofs.Ytoeecaeaobfhmaa
