/-
  What is in the past of each event, as the program and the reference answer it, in memory of their own: the same rows. Asked: at most 20 events.
-/
import Derived.Test.YtmeehfiekhdbkaaEventS
import Derived.Test.YtmeehfiekhdbkaaIntS
import Derived.Test.YtmeehfiekhdbkaaPastP
import Derived.BigGuardPart
namespace Go.Proofs.Ytmeehfiekhdbkaa
open Go.RowKit
set_option maxRecDepth 100000

set_option maxHeartbeats 2000000 in
theorem implpast_calls (cs : List EventD) (A : Option Addr) (cap : Nat) (w : World) (hr : RowEvents w A cs) (hl : cs.length ≤ 20) (hcap : cs.length ≤ cap) :
    Calls Try.prog 43 #[.slice A cs.length cap] w fun e w' => ∃ v, e = .returned v ∧ OwnInts w' w.heap.size v (pastL cs) ∧ Below w.heap.size w w' := by
  obtain ⟨i0, hi0, hz0, hz1, hz2⟩ := info_parts ints_info
  have HR := Lib.hid hr
  clear hr
  unfold pastL
  generalize hn : cs.length = n at *
  have Hn := Lib.hid hn
  clear hn
  have hlen : (n : Int) ≤ 20 := by omega
  go_enter Try.func43, Try.ntmps43
  go_wp2
  go_loopw [3, 12] (fun v i wr => ∃ k : Nat, k ≤ n ∧ i = .int .i64 k ∧ wr.ownsRow w.heap.size 3 1 v k ((pastI cs k).flatMap intVals) ∧ Below w.heap.size w wr) (fun _ i _ => n - (intOf i).toNat)
  case atStart => exact ⟨0, by omega, rfl, World.ownsRow_made w #[] 0 (Nat.le_refl _) (by simp [maxLen]) rfl, below_alloc (Below.refl _ _) _⟩
  case round =>
    obtain ⟨i, hi, rfl, hown, hb⟩ := hrel
    obtain ⟨wo, rfl⟩ : ∃ wo : World, wo = wr := ⟨_, rfl⟩
    by_cases hlt : i < n
    · obtain ⟨b0, off, rfl, hat⟩ := HR.out (by have := Hn.out; omega)
      obtain ⟨c, hc⟩ : ∃ c, cs[i]? = some c := ⟨cs[i]'(by have := Hn.out; omega), List.getElem?_eq_getElem _⟩
      obtain ⟨x0, x1, x2⟩ := (RowEvents.at_ hat hc).below hb
      obtain ⟨Ao, co, rfl, hoc, hom, hob⟩ := own_form hown
      have Hat := Lib.hid hat
      have Hc := Lib.hid (evAt_eq hc)
      have Hb := Lib.hid hb
      have Hown := Lib.hid hown
      have hlt5 := hown.lt
      have Hlt5 := Lib.hid hlt5
      have hrow : RowInts wo Ao (pastI cs i) := RowOf.of_own (pastI_len cs i).symm (fun _ _ => rfl) hown
      have Hrow := Lib.hid hrow
      have Hob := Lib.hid hob
      clear HR hat hc hb hown hlt5 hrow hob
      have hi0' : (0 : Int) ≤ (i : Int) := by omega
      have hin : (i : Int) < (n : Int) := by omega
      have hic : (i : Int) ≤ (cap : Int) := by omega
      have hw0 : wrap64 (2 ^ i) = ((rowK cs i (pastN cs i) 0 : Nat) : Int) := by
        rw [rowK, ← two_cast]
        have hp : 2 ^ i ≤ 2 ^ 20 := Nat.pow_le_pow_right (by omega) (by omega)
        generalize (2 ^ i : Nat) = t at *
        exact IntWalk.wrap64_in _ ⟨by omega, by omega⟩
      go_wp2
      generalize hw1 : wo.alloc (Obj.cells #[Value.int IntKind.i64 c.proc, Value.int IntKind.i64 c.kind, Value.int IntKind.i64 c.msg] 41) = w1
      have hb1 : Below wo.heap.size wo w1 := by rw [← hw1]; exact below_alloc (Below.refl _ _) _
      have y0 : w1.cell? ⟨wo.heap.size, 0, none⟩ = some (.int .i64 c.proc) := by rw [← hw1]; simp
      have y1 : w1.cell? ⟨wo.heap.size, 1, none⟩ = some (.int .i64 c.kind) := by rw [← hw1]; simp
      have y2 : w1.cell? ⟨wo.heap.size, 2, none⟩ = some (.int .i64 c.msg) := by rw [← hw1]; simp
      have Hb1 := Lib.hid hb1
      have Y0 := Lib.hid y0
      have Y1 := Lib.hid y1
      have Y2 := Lib.hid y2
      clear x0 x1 x2 hw1 hb1 y0 y1 y2
      have Hw0 := Lib.hid hw0
      clear hw0
      go_loopw [6, 24] (fun m j wq => ∃ k : Nat, k ≤ i ∧ j = .int .i64 k ∧ m = .int .i64 (rowK cs i (pastN cs i) k) ∧ Below w1.heap.size w1 wq) (fun _ j _ => i - (intOf j).toNat)
      case atStart => exact ⟨0, by omega, rfl, by rw [← Hw0.out], Below.refl _ _⟩
      case round =>
        obtain ⟨j, hj, rfl, rfl, hb2⟩ := hrel
        by_cases hjlt : j < i
        · obtain ⟨o, ho⟩ : ∃ o, cs[j]? = some o := ⟨cs[j]'(by have := Hn.out; omega), List.getElem?_eq_getElem _⟩
          have hbo : Below wo.heap.size wo wr := below_trans' Hb1.out hb2
          have hbw2 : Below w.heap.size w wr := below_trans' Hb.out hbo
          obtain ⟨z0, z1, z2⟩ := (RowEvents.at_ Hat.out ho).below hbw2
          have t0 := cell_below hb2 Y0.out
          have t1 := cell_below hb2 Y1.out
          have t2 := cell_below hb2 Y2.out
          have hgz : wo.heap.size < wr.heap.size := World.block_lt_of_cell? _ _ t0
          obtain ⟨gb, goff, rfl, hgat⟩ := Hrow.out (by rw [pastI_len]; omega)
          have hget := pastI_get cs hjlt
          have r0 := cell_below hbo (RowInts.at_ hgat hget)
          have hgb : gb < wr.heap.size := World.block_lt_of_cell? _ _ r0
          have hbz : b0 < wr.heap.size := World.block_lt_of_cell? _ _ z0
          have Hoe := Lib.hid (evAt_eq ho)
          have hrl := rowN_lt cs i j (by omega)
          have hpl := pastN_lt cs i j hjlt
          have hp1 : 2 ^ (i + 1) ≤ 2 ^ 21 := Nat.pow_le_pow_right (by omega) (by omega)
          have hp2 : 2 ^ (j + 1) ≤ 2 ^ 21 := Nat.pow_le_pow_right (by omega) (by omega)
          have hrs : rowK cs i (pastN cs i) (j + 1) = if relE c o then rowK cs i (pastN cs i) j ||| (pastN cs i).getD j 0 else rowK cs i (pastN cs i) j := by
            rw [rowK, Hoe.out, Hc.out]
          have hor := i64_or_nat (rowK cs i (pastN cs i) j) ((pastN cs i).getD j 0) (by omega) (by omega)
          generalize rowK cs i (pastN cs i) j = s at *
          generalize (pastN cs i).getD j 0 = t at *
          have Hrs := Lib.hid hrs
          have Hb2 := Lib.hid hb2
          clear hgat hget ho hb2 hbo hbw2 hrl hpl hp1 hp2 hrs Hrow
          have hj0 : (0 : Int) ≤ (j : Int) := by omega
          have hji : (j : Int) < (i : Int) := by omega
          rcases rel_ways (o.proc == c.proc) (c.kind == 2) (o.kind == 1) (o.msg == c.msg) with q1 | ⟨q1, q2⟩ | ⟨q1, q2, q3⟩ | ⟨q1, q2, q3, q4⟩ | ⟨q1, q2, q3, q4⟩
          all_goals
            go_wp2
            first
              | (go_roundw
                 case rel =>
                   have hb2 := Hb2.out
                   exact ⟨j + 1, by omega, by go_num, by rw [Hrs.out]; simp [relE, *], (by repeat (first | exact Below.refl _ _ | assumption | refine below_alloc ?_ _ | refine below_trans' ?_ (by assumption) | refine Below.drew ?_))⟩
                 case measure => simp [intOf]; omega)
              | (have hb2 := Hb2.out
                 exact ⟨⟨j + 1, by omega, by go_num, by rw [Hrs.out]; simp [relE, *], (by repeat (first | exact Below.refl _ _ | assumption | refine below_alloc ?_ _ | refine below_trans' ?_ (by assumption) | refine Below.drew ?_))⟩, by simp [intOf]; omega⟩)
        · have hge : ¬ ((j : Int) < (i : Int)) := by omega
          have e1 : j = i := by omega
          subst e1
          have hbo : Below wo.heap.size wo wr := below_trans' Hb1.out hb2
          have hown := own_below Hown.out hbo
          have hsb := hbo.size
          have hszb := Hb.out.size
          have hps := pastI_succ cs j
          generalize rowK cs j (pastN cs j) j = s at *
          have Hps := Lib.hid hps
          have Hbo := Lib.hid hbo
          clear hps hbo hb2
          go_wp2_with (at_builtin; refine wpList_append_own _ rfl (.tmp 58) (.tmp 60) 24 rfl w.heap.size 3 i0 _ 1 8 Try.underlying24 hi0 hz0 hz1 hz2 rfl (by omega) _ j ((pastI cs j).flatMap intVals) rfl (hown.alloc _) ⟨wr.heap.size, 0, none⟩ 1 1 [_] rfl rfl (int_new _ _ _) (int_one _) (by unfold maxLen; omega) (by omega) (by simp; omega) ?_; intro v1 wz hown1 hgrow _)
          go_roundw
          case rel =>
            refine ⟨j + 1, by omega, by go_num, ?_, ?_⟩
            · rw [Hps.out, List.flatMap_append]
              simpa [intVals] using hown1
            · exact (below_alloc (below_trans' Hb.out Hbo.out) _).grown hgrow (by simp; omega) (fun q hq => (Hlt5.out q hq).1)
          case measure => simp [intOf]; omega
    · have hge : ¬ ((i : Int) < (n : Int)) := by omega
      have e1 : i = n := by omega
      subst e1
      go_wp2
      go_ret
      refine ⟨_, rfl, ?_, hb⟩
      unfold OwnInts
      rw [pastI_len]
      exact hown
end Go.Proofs.Ytmeehfiekhdbkaa
