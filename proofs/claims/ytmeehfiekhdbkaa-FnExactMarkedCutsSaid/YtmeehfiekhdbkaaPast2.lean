/-
  What is in the past of each event, as the program and the reference answer it, in memory of their own: the same rows. Asked: at most 20 events.
-/
import Derived.Test.YtmeehfiekhdbkaaEventS
import Derived.Test.YtmeehfiekhdbkaaIntS
import Derived.Test.YtmeehfiekhdbkaaPastP
import Derived.BigGuardPart
namespace Go.Proofs.Ytmeehfiekhdbkaa
open Go.RowKit
set_option maxRecDepth 100000

set_option maxHeartbeats 2000000 in
theorem specpast_calls (cs : List EventD) (A : Option Addr) (cap : Nat) (w : World) (hr : RowEvents w A cs) (hl : cs.length ≤ 20) :
    Calls Try.prog 53 #[.slice A cs.length cap] w fun e w' => ∃ v, e = .returned v ∧ OwnInts w' w.heap.size v (pastL cs) ∧ Below w.heap.size w w' := by
  obtain ⟨i0, hi0, hz0, hz1, hz2⟩ := info_parts ints_info
  have HR := Lib.hid hr
  clear hr
  unfold pastL
  generalize hn : cs.length = n at *
  have Hn := Lib.hid hn
  clear hn
  have hlen : (n : Int) ≤ 20 := by omega
  go_enter Try.func53, Try.ntmps53
  go_wp2
  go_loopw [3, 4] (fun v i wr => ∃ k : Nat, k ≤ n ∧ i = .int .i64 k ∧ wr.ownsRow w.heap.size 3 1 v k ((pastI cs k).flatMap intVals) ∧ Below w.heap.size w wr) (fun _ i _ => n - (intOf i).toNat)
  case atStart => exact ⟨0, by omega, rfl, World.ownsRow_made w #[] 0 (Nat.le_refl _) (by simp [maxLen]) rfl, below_alloc (Below.refl _ _) _⟩
  case round =>
    obtain ⟨i, hi, rfl, hown, hb⟩ := hrel
    obtain ⟨wo, rfl⟩ : ∃ wo : World, wo = wr := ⟨_, rfl⟩
    by_cases hlt : i < n
    · obtain ⟨b0, off, rfl, hat⟩ := HR.out (by have := Hn.out; omega)
      obtain ⟨c, hc⟩ : ∃ c, cs[i]? = some c := ⟨cs[i]'(by have := Hn.out; omega), List.getElem?_eq_getElem _⟩
      obtain ⟨x0, x1, x2⟩ := (RowEvents.at_ hat hc).below hb
      obtain ⟨Ao, co, rfl, hoc, hom, hob⟩ := own_form hown
      have Hat := Lib.hid hat
      have Hci := Lib.hid hc
      have Hc := Lib.hid (evAt_eq hc)
      have Hb := Lib.hid hb
      have Hown := Lib.hid hown
      have hlt5 := hown.lt
      have Hlt5 := Lib.hid hlt5
      have hrow : RowInts wo Ao (pastI cs i) := RowOf.of_own (pastI_len cs i).symm (fun _ _ => rfl) hown
      have Hrow := Lib.hid hrow
      have Hob := Lib.hid hob
      clear HR hat hc hb hown hlt5 hrow hob
      have hi0' : (0 : Int) ≤ (i : Int) := by omega
      have hin : (i : Int) < (n : Int) := by omega
      have hpw : pw i = ((rowK cs i (pastN cs i) 0 : Nat) : Int) := by rw [pw_eq i (by omega), rowK, ← two_cast]
      have HPW := Lib.hid (fun (W : World) => power_calls i W (by omega))
      rw [hpw] at HPW
      clear hpw x0 x1 x2
      go_wp2_with (go_at_call 25; refine (HPW.out _).mono ?_; rintro e w4 ⟨rfl, rfl⟩)
      go_loopw [5, 6] (fun m j wq => ∃ k : Nat, k ≤ i ∧ j = .int .i64 k ∧ m = .int .i64 (rowK cs i (pastN cs i) k) ∧ Below wo.heap.size wo wq) (fun _ j _ => i - (intOf j).toNat)
      case atStart => exact ⟨0, by omega, rfl, rfl, Below.refl _ _⟩
      case round =>
        obtain ⟨j, hj, rfl, rfl, hb2⟩ := hrel
        by_cases hjlt : j < i
        · obtain ⟨o, ho⟩ : ∃ o, cs[j]? = some o := ⟨cs[j]'(by have := Hn.out; omega), List.getElem?_eq_getElem _⟩
          have hbo : Below wo.heap.size wo wr := hb2
          have hbw2 : Below w.heap.size w wr := below_trans' Hb.out hbo
          obtain ⟨z0, z1, z2⟩ := (RowEvents.at_ Hat.out ho).below hbw2
          obtain ⟨x0, x1, x2⟩ := (RowEvents.at_ Hat.out Hci.out).below hbw2
          obtain ⟨gb, goff, rfl, hgat⟩ := Hrow.out (by rw [pastI_len]; omega)
          have hget := pastI_get cs hjlt
          have r0 := cell_below hbo (RowInts.at_ hgat hget)
          have hgb : gb < wr.heap.size := World.block_lt_of_cell? _ _ r0
          have hbz : b0 < wr.heap.size := World.block_lt_of_cell? _ _ z0
          have Hoe := Lib.hid (evAt_eq ho)
          have hrl := rowN_lt cs i j (by omega)
          have hpl := pastN_lt cs i j hjlt
          have hp1 : 2 ^ (i + 1) ≤ 2 ^ 21 := Nat.pow_le_pow_right (by omega) (by omega)
          have hp2 : 2 ^ (j + 1) ≤ 2 ^ 21 := Nat.pow_le_pow_right (by omega) (by omega)
          have hrs : rowK cs i (pastN cs i) (j + 1) = if relE c o then rowK cs i (pastN cs i) j ||| (pastN cs i).getD j 0 else rowK cs i (pastN cs i) j := by
            rw [rowK, Hoe.out, Hc.out]
          have hor := i64_or_nat (rowK cs i (pastN cs i) j) ((pastN cs i).getD j 0) (by omega) (by omega)
          generalize rowK cs i (pastN cs i) j = s at *
          generalize (pastN cs i).getD j 0 = t at *
          have Hrs := Lib.hid hrs
          have Hb2 := Lib.hid hb2
          clear hgat hget ho hb2 hbo hbw2 hrl hpl hp1 hp2 hrs Hrow
          have hj0 : (0 : Int) ≤ (j : Int) := by omega
          have hji : (j : Int) < (i : Int) := by omega
          rcases rel_ways (o.proc == c.proc) (o.kind == 1) (c.kind == 2) (o.msg == c.msg) with q1 | ⟨q1, q2⟩ | ⟨q1, q2, q3⟩ | ⟨q1, q2, q3, q4⟩ | ⟨q1, q2, q3, q4⟩
          all_goals
            go_wp2_with fail
            refine wp_region_grow (by kernel_rfl) (by kernel_rfl) ?_
            repeat (go_big_quiet_step (fail))
            refine wpQuiet_end ?_
            intro w3 hb3
            have r3 := cell_below hb3 r0
            have hgb3 : gb < w3.heap.size := Nat.lt_of_lt_of_le hgb hb3.size
            go_wp2_with fail
            first
              | (go_roundw
                 case rel =>
                   have hb2 := Hb2.out
                   exact ⟨j + 1, by omega, by go_num, by rw [Hrs.out]; simp [relE, *], (by repeat (first | exact Below.refl _ _ | assumption | refine below_alloc ?_ _ | refine below_trans' ?_ (by assumption) | refine Below.drew ?_))⟩
                 case measure => simp [intOf]; omega)
              | (have hb2 := Hb2.out
                 exact ⟨⟨j + 1, by omega, by go_num, by rw [Hrs.out]; simp [relE, *], (by repeat (first | exact Below.refl _ _ | assumption | refine below_alloc ?_ _ | refine below_trans' ?_ (by assumption) | refine Below.drew ?_))⟩, by simp [intOf]; omega⟩)
        · have hge : ¬ ((j : Int) < (i : Int)) := by omega
          have e1 : j = i := by omega
          subst e1
          have hbo : Below wo.heap.size wo wr := hb2
          have hown := own_below Hown.out hbo
          have hsb := hbo.size
          have hszb := Hb.out.size
          have hps := pastI_succ cs j
          generalize rowK cs j (pastN cs j) j = s at *
          have Hps := Lib.hid hps
          have Hbo := Lib.hid hbo
          clear hps hbo hb2
          go_wp2_with (at_builtin; refine wpList_append_own _ rfl (.tmp 67) (.tmp 69) 24 rfl w.heap.size 3 i0 _ 1 8 Try.underlying24 hi0 hz0 hz1 hz2 rfl (by omega) _ j ((pastI cs j).flatMap intVals) rfl (hown.alloc _) ⟨wr.heap.size, 0, none⟩ 1 1 [_] rfl rfl (int_new _ _ _) (int_one _) (by unfold maxLen; omega) (by omega) (by simp; omega) ?_; intro v1 wz hown1 hgrow _)
          go_roundw
          case rel =>
            refine ⟨j + 1, by omega, by go_num, ?_, ?_⟩
            · rw [Hps.out, List.flatMap_append]
              simpa [intVals] using hown1
            · exact (below_alloc (below_trans' Hb.out Hbo.out) _).grown hgrow (by simp; omega) (fun q hq => (Hlt5.out q hq).1)
          case measure => simp [intOf]; omega
    · have hge : ¬ ((i : Int) < (n : Int)) := by omega
      have e1 : i = n := by omega
      subst e1
      go_wp2
      go_ret
      refine ⟨_, rfl, ?_, hb⟩
      unfold OwnInts
      rw [pastI_len]
      exact hown
end Go.Proofs.Ytmeehfiekhdbkaa
