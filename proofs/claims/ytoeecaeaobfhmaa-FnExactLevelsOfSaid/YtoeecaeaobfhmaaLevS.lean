/-
  The levels of calls, of the reference; what LevelsOf answers of both. Asked: a history for the inner function; no condition but lengths of at most 2 to the 20 for LevelsOf.
-/
import Derived.Test.YtoeecaeaobfhmaaLevI
import Derived.Test.YtoeecaeaobfhmaaHist
namespace Go.Proofs.Ytoeecaeaobfhmaa
open Go.RowKit
set_option maxRecDepth 100000

set_option maxHeartbeats 4000000 in
theorem speclevels_calls (cs : List CallD) (A : Option Addr) (cap : Nat) (w : World) (hr : RowCalls w A cs) (hl : cs.length ≤ 6) :
    Calls Try.prog 43 #[.slice A cs.length cap] w fun e w' => ∃ v, e = .returned v ∧ w'.ownsRow w.heap.size 3 1 v cs.length (((lvR cs cs.length).map Int.ofNat).flatMap intVals) ∧ Below w.heap.size w w' := by
  obtain ⟨i0, hi0, hz0, hz1, hz2⟩ := info_parts ints_info
  have HR := Lib.hid hr
  have HTL := Lib.hid (lvR_len cs)
  have HIL := Lib.hid (fun t i => lvI_len cs (lvR cs t) i)
  have HKL := Lib.hid (fun t i k => lvK_len cs (lvI cs (lvR cs t) i) i k)
  have HKB := Lib.hid (fun t i k => lvK_le (cs := cs) (i := i) (lvI_le (cs := cs) (lvR_le cs t) i) k)
  have hts : ∀ t, lvR cs (t + 1) = lvI cs (lvR cs t) cs.length := fun _ => rfl
  have HTS := Lib.hid hts
  have his : ∀ t i : Nat, lvI cs (lvR cs t) (i + 1) = lvK cs (lvI cs (lvR cs t) i) i cs.length := fun _ _ => rfl
  have HIS := Lib.hid his
  have hks : ∀ t i k : Nat, lvK cs (lvI cs (lvR cs t) i) i (k + 1) = lvStep cs (lvK cs (lvI cs (lvR cs t) i) i k) i k := fun _ _ _ => rfl
  have HKS := Lib.hid hks
  have ht0 : lvR cs 0 = List.replicate cs.length 0 := rfl
  have HT0 := Lib.hid ht0
  clear hr hts his hks ht0
  generalize hn : cs.length = n at *
  have Hn := Lib.hid hn
  clear hn
  have hlen : (n : Int) ≤ 6 := by omega
  go_enter Try.func43, Try.ntmps43
  go_wp2_with (at_make; refine wpList_make_full _ rfl _ _ 24 rfl w.heap.size 3 i0 _ 1 Try.underlying24 hi0 hz0 hz1 _ _ _ _ n rfl rfl rfl rfl (by rw [hz2]; omega) (by unfold maxLen; omega) (Nat.le_refl _) ?_; intro w1 hown hgrow)
  have hb1 : Below w.heap.size w w1 := (Below.refl _ _).grown hgrow (Nat.le_refl _) (by simp)
  have hk1 : IntBlk w1 w.heap.size ((lvR cs 0).map Int.ofNat) := by
    have := IntBlk.made hown
    rw [HT0.out]
    simpa using this
  clear hown hgrow
  go_loopw [4, 5, 6] (fun i _ _ wr => ∃ k : Nat, k ≤ n ∧ i = .int .i64 k ∧ Below w.heap.size w wr ∧ IntBlk wr w.heap.size ((lvR cs k).map Int.ofNat)) (fun i _ _ _ => n - (intOf i).toNat)
  case atStart => exact ⟨0, by omega, rfl, hb1, hk1⟩
  case round =>
    clear hb1 hk1
    obtain ⟨t, ht, rfl, hb, hk⟩ := hrel
    by_cases htl : t < n
    · have Hb := Lib.hid hb
      have Hk := Lib.hid hk
      clear hb hk
      have ht0 : (0 : Int) ≤ (t : Int) := by omega
      have ht1 : (t : Int) < (n : Int) := by omega
      have hst0 : lvI cs (lvR cs t) 0 = lvR cs t := rfl
      have Hst0 := Lib.hid hst0
      clear hst0
      go_wp2_with fail
      go_loopw [5, 6] (fun i _ wq => ∃ k : Nat, k ≤ n ∧ i = .int .i64 k ∧ Below w.heap.size w wq ∧ IntBlk wq w.heap.size ((lvI cs (lvR cs t) k).map Int.ofNat)) (fun i _ _ => n - (intOf i).toNat)
      case atStart => exact ⟨0, by omega, rfl, Hb.out, by rw [Hst0.out]; exact Hk.out⟩
      case round =>
        clear Hb Hk
        obtain ⟨i, hi, rfl, hb, hk⟩ := hrel
        by_cases hil : i < n
        · obtain ⟨b0, off, rfl, hat⟩ := HR.out (by have := Hn.out; omega)
          obtain ⟨c, hc⟩ : ∃ c, cs[i]? = some c := ⟨cs[i]'(by have := Hn.out; omega), List.getElem?_eq_getElem _⟩
          have Hat := Lib.hid hat
          have Hcc := Lib.hid hc
          have Hc := Lib.hid (hAt_eq hc)
          have Hb := Lib.hid hb
          have Hk := Lib.hid hk
          clear hat hc hb hk
          have hi0' : (0 : Int) ≤ (i : Int) := by omega
          have hin : (i : Int) < (n : Int) := by omega
          have hst : lvK cs (lvI cs (lvR cs t) i) i 0 = lvI cs (lvR cs t) i := rfl
          have Hst := Lib.hid hst
          clear hst
          go_wp2_with fail
          go_loopw [6] (fun j wq => ∃ k : Nat, k ≤ n ∧ j = .int .i64 k ∧ Below w.heap.size w wq ∧ IntBlk wq w.heap.size ((lvK cs (lvI cs (lvR cs t) i) i k).map Int.ofNat)) (fun j _ => n - (intOf j).toNat)
          case atStart => exact ⟨0, by omega, rfl, Hb.out, by rw [Hst.out]; exact Hk.out⟩
          case round =>
            clear Hb Hk
            obtain ⟨k, hk', rfl, hb, hk⟩ := hrel
            by_cases hkl : k < n
            · obtain ⟨o, ho⟩ : ∃ o, cs[k]? = some o := ⟨cs[k]'(by have := Hn.out; omega), List.getElem?_eq_getElem _⟩
              obtain ⟨z0, z1, z2, z3, z4, z5, z6⟩ := (RowCalls.at7 Hat.out ho).below hb
              obtain ⟨y0, y1, y2, y3, y4, y5, y6⟩ := (RowCalls.at7 Hat.out Hcc.out).below hb
              have hbz : b0 < wr.heap.size := World.block_lt_of_cell? _ _ y0
              have hgz2 := hk.lt
              have hp : pbef cs k i = befB o c := by rw [pbef, hAt_eq ho, Hc.out]
              have hks := HKS.out t i k
              have hll := HKL.out t i k
              have hlb := HKB.out t i k
              rw [HIL.out, HTL.out] at hll
              have hb1 : t * (n * n) ≤ 6 * (6 * 6) := Nat.mul_le_mul (by omega) (Nat.mul_le_mul (by omega) (by omega))
              have hb2 : i * n ≤ 6 * 6 := Nat.mul_le_mul (by omega) (by omega)
              have ba := hlb i
              have bb := hlb k
              have gi := nat_get (L := lvK cs (lvI cs (lvR cs t) i) i k) (i := i) (by omega)
              have gk := nat_get (L := lvK cs (lvI cs (lvR cs t) i) i k) (i := k) (by omega)
              have hks' : lvK cs (lvI cs (lvR cs t) i) i (k + 1) = if befB o c then (lvK cs (lvI cs (lvR cs t) i) i k).set i (max ((lvK cs (lvI cs (lvR cs t) i) i k).getD i 0) ((lvK cs (lvI cs (lvR cs t) i) i k).getD k 0 + 1)) else lvK cs (lvI cs (lvR cs t) i) i k := by rw [hks, lvStep, hp]
              have Hks := Lib.hid hks'
              clear hks hks' hlb hp
              generalize lvK cs (lvI cs (lvR cs t) i) i k = L at *
              have Gi := Lib.hid gi
              have Gk := Lib.hid gk
              obtain ⟨a, ha⟩ : ∃ a, L.getD i 0 = a := ⟨_, rfl⟩
              obtain ⟨d, hd⟩ : ∃ d, L.getD k 0 = d := ⟨_, rfl⟩
              rw [ha] at ba Gi Hks
              rw [hd] at bb Gk Hks
              have HK := Lib.hid hk
              have Hb := Lib.hid hb
              have ba2 : a ≤ 2000 := by omega
              have bd2 : d ≤ 2000 := by omega
              clear gi gk ha hd hk hb hll hb1 hb2 ba bb ho
              have ha2 : (a : Int) ≤ 2000 := by omega
              have hd2 : (d : Int) ≤ 2000 := by omega
              have hd0 : (0 : Int) ≤ (d : Int) := by omega
              have hk0 : (0 : Int) ≤ (k : Int) := by omega
              have hkn : (k : Int) < (n : Int) := by omega
              cases hbe : befB o c
              · have Hbe := Lib.hid hbe
                go_wp2_with fail
                refine wp_region_grow (by kernel_rfl) (by kernel_rfl) ?_
                repeat (go_big_quiet_step ((go_at_call 59; exact Calls.ext_of (Nat.le_refl _) (before_calls o c false Hbe.out _))))
                refine wpQuiet_end ?_
                intro w5 hb5
                go_wp2_with fail
                go_roundw
                case rel => exact ⟨k + 1, by omega, by go_num, below_trans' Hb.out hb5, by rw [Hks.out, Hbe.out]; exact HK.out.below hb5⟩
                case measure => simp [intOf]; omega
              · have Hbe := Lib.hid hbe
                go_wp2_with fail
                refine wp_region_grow (by kernel_rfl) (by kernel_rfl) ?_
                repeat (go_big_quiet_step ((go_at_call 59; exact Calls.ext_of (Nat.le_refl _) (before_calls o c true Hbe.out _))))
                refine wpQuiet_end ?_
                intro w5 hb5
                have K5 := HK.out.below hb5
                have ci := K5.cell Gi.out
                have ck := K5.cell Gk.out
                have fi := K5.free (i := i)
                have hg5 := K5.lt
                have ew : IntKind.i64.wrap ((d : Int) + 1) = (d : Int) + 1 := IntWalk.i64_in _ (by omega)
                have HK5 := Lib.hid K5
                have Hb5 := Lib.hid hb5
                clear K5 hb5
                go_wp2_with fail
                go_region
                all_goals go_wp2_with fail
                have hval : (if (a : Int) < (d : Int) + 1 then (d : Int) + 1 else (a : Int)) = ((max a (d + 1) : Nat) : Int) := by split <;> omega
                rw [hval]
                have hs5 := lset_grown w5 w.heap.size i (.int .i64 ((max a (d + 1) : Nat) : Int))
                have K6 := HK5.out.set_ (i := i) ((max a (d + 1) : Nat) : Int)
                rw [map_set] at K6
                have hb6 : Below w.heap.size w5 (w5.setCell ⟨w.heap.size, i, none⟩ (.int .i64 ((max a (d + 1) : Nat) : Int))) := ⟨hs5.os, hs5.tape, hs5.output, hs5.size, fun q hq => hs5.block q (by omega) (by simp; omega)⟩
                have hb7 := (below_trans' Hb.out Hb5.out).trans ⟨hb6.os, hb6.tape, hb6.output, hb6.size, hb6.block⟩
                go_roundw
                case rel => exact ⟨k + 1, by omega, by go_num, ⟨hb7.os, hb7.tape, hb7.output, hb7.size, hb7.block⟩, by rw [Hks.out, Hbe.out, if_pos rfl]; exact K6⟩
                case measure => simp [intOf]; omega
            · have e1 : k = n := by omega
              subst e1
              have hge : ¬ ((k : Int) < (k : Int)) := by omega
              go_wp2_with fail
              go_roundw
              case rel => exact ⟨i + 1, by omega, by go_num, hb, by rw [HIS.out]; exact hk⟩
              case measure => simp [intOf]; omega
        · have e1 : i = n := by omega
          subst e1
          have hge : ¬ ((i : Int) < (i : Int)) := by omega
          go_wp2_with fail
          go_roundw
          case rel => exact ⟨t + 1, by omega, by go_num, hb, by rw [HTS.out]; exact hk⟩
          case measure => simp [intOf]; omega
    · have e1 : t = n := by omega
      subst e1
      have hge : ¬ ((t : Int) < (t : Int)) := by omega
      have HO := Lib.hid (hk.own (base := w.heap.size) (n := t) (by simp [HTL.out]) (Nat.le_refl _) (by unfold maxLen; omega))
      have Hb := Lib.hid hb
      clear hk hb
      go_wp2_with fail
      go_ret
      exact ⟨_, rfl, HO.out, Hb.out⟩

theorem implLevelsOf_calls (cs : List CallD) (A : Option Addr) (cap : Nat) (w : World) (hr : RowCalls w A cs) (hl : cs.length ≤ 1048576) (hcap : cs.length ≤ cap) :
    Calls Try.prog 16 #[.slice A cs.length cap] w fun e w' => ∃ v, e = .returned v ∧ OwnInts w' w.heap.size v (levelsOfL cs) ∧ Below w.heap.size w w' := by
  have HR := Lib.hid hr
  clear hr
  cases hv : histB cs
  · have E1 := Lib.hid (show levelsOfL cs = [] by simp [levelsOfL, hv])
    have HV := Lib.hid hv
    clear hv
    go_enter Try.func16, Try.ntmps16
    go_wp2_with (go_at_call 44; refine (implValid_calls cs A cap _ HR.out hl hcap false HV.out).mono ?_; rintro e w1 ⟨rfl, hb1⟩)
    go_ret
    exact ⟨_, rfl, by unfold OwnInts; rw [E1.out]; exact World.ownsRow_nil _ _ _ _, hb1⟩
  · have E1 := Lib.hid (show levelsOfL cs = (tmT cs 31).map Int.ofNat by simp [levelsOfL, hv])
    have EL := Lib.hid (tmT_len cs 31)
    have HV := Lib.hid hv
    have h6 := histB_len hv
    clear hv
    go_enter Try.func16, Try.ntmps16
    go_wp2_with (go_at_call 44; refine (implValid_calls cs A cap _ HR.out hl hcap true HV.out).mono ?_; rintro e w1 ⟨rfl, hb1⟩)
    refine (impllevels_calls cs A cap _ (HR.out.below hb1) h6).mono ?_
    rintro e w2 ⟨v, rfl, ho, hb2⟩
    go_wp2_with fail
    go_ret
    exact ⟨v, rfl, by unfold OwnInts; rw [E1.out, List.length_map, EL.out]; exact own_base ho hb1.size, (by repeat (first | exact Below.refl _ _ | assumption | refine below_alloc ?_ _ | refine below_trans' ?_ (by assumption) | refine Below.drew ?_))⟩
theorem specLevelsOf_calls (cs : List CallD) (A : Option Addr) (cap : Nat) (w : World) (hr : RowCalls w A cs) (hl : cs.length ≤ 1048576) :
    Calls Try.prog 14 #[.slice A cs.length cap] w fun e w' => ∃ v, e = .returned v ∧ OwnInts w' w.heap.size v (levelsOfL cs) ∧ Below w.heap.size w w' := by
  have HR := Lib.hid hr
  clear hr
  cases hv : histB cs
  · have E1 := Lib.hid (show levelsOfL cs = [] by simp [levelsOfL, hv])
    have HV := Lib.hid hv
    clear hv
    go_enter Try.func14, Try.ntmps14
    go_wp2_with (go_at_call 42; refine (specValid_calls cs A cap _ HR.out hl false HV.out).mono ?_; rintro e w1 ⟨rfl, hb1⟩)
    go_ret
    exact ⟨_, rfl, by unfold OwnInts; rw [E1.out]; exact World.ownsRow_nil _ _ _ _, hb1⟩
  · have E1 := Lib.hid (show levelsOfL cs = (lvR cs cs.length).map Int.ofNat by rw [lev_same hv]; simp [levelsOfL, hv])
    have EL := Lib.hid (lvR_len cs cs.length)
    have HV := Lib.hid hv
    have h6 := histB_len hv
    clear hv
    go_enter Try.func14, Try.ntmps14
    go_wp2_with (go_at_call 42; refine (specValid_calls cs A cap _ HR.out hl true HV.out).mono ?_; rintro e w1 ⟨rfl, hb1⟩)
    refine (speclevels_calls cs A cap _ (HR.out.below hb1) h6).mono ?_
    rintro e w2 ⟨v, rfl, ho, hb2⟩
    go_wp2_with fail
    go_ret
    exact ⟨v, rfl, by unfold OwnInts; rw [E1.out, List.length_map, EL.out]; exact own_base ho hb1.size, (by repeat (first | exact Below.refl _ _ | assumption | refine below_alloc ?_ _ | refine below_trans' ?_ (by assumption) | refine Below.drew ?_))⟩
end Go.Proofs.Ytoeecaeaobfhmaa
