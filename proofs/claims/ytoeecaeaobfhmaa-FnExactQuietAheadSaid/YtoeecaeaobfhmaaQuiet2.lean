/-
  Which calls are ahead of each one by a quiet time, of the reference. No condition but lengths of at most 2 to the 20.
-/
import Derived.Test.YtoeecaeaobfhmaaQuiet
import Derived.Test.YtoeecaeaobfhmaaHeldT
namespace Go.Proofs.Ytoeecaeaobfhmaa
open Go.RowKit
set_option maxRecDepth 100000

theorem openTo_some {cs : List CallD} {t : Int} {k : Nat} {c : CallD} (hc : cs[k]? = some c) : decide (0 < openTo cs t (k + 1)) = (decide (0 < openTo cs t k) || (decide (c.fr ≤ t) && decide (t < c.till))) := by
  rw [openTo_succ hc]
  cases h : openB t c
  · simp [openB] at h
    have : (decide (c.fr ≤ t) && decide (t < c.till)) = false := by simp; omega
    rw [this]; simp
  · simp only [openB] at h
    rw [h]; simp
set_option maxHeartbeats 4000000 in
theorem specquiet_calls (cs : List CallD) (A : Option Addr) (cap : Nat) (w : World) (hr : RowCalls w A cs) (hl : cs.length ≤ 6) :
    Calls Try.prog 53 #[.slice A cs.length cap] w fun e w' => ∃ v, e = .returned v ∧ w'.ownsRow w.heap.size 3 1 v cs.length ((sumsL (pquiet cs) cs.length).flatMap intVals) ∧ Below w.heap.size w w' := by
  obtain ⟨i0, hi0, hz0, hz1, hz2⟩ := info_parts ints_info
  have HR := Lib.hid hr
  have HL := Lib.hid (rowQ_len cs)
  have H0 := Lib.hid (rowQ_start (cs := cs))
  have HD := Lib.hid (rowQ_done (cs := cs))
  have HNX := Lib.hid (fun t i => rowQ_next (cs := cs) (t := t) (i := i))
  have HTM := Lib.hid (fun t => rowQ_time (cs := cs) (t := t))
  have HOP := Lib.hid (fun t h => rowQ_open (cs := cs) (t := t) h)
  have HNO := Lib.hid (fun t i k h => rowQ_no (cs := cs) (t := t) (i := i) (k := k) h)
  have HYES := Lib.hid (fun t i k hi hk h => rowQ_yes (cs := cs) (t := t) (i := i) (k := k) hi hk h)
  have HGET := Lib.hid (fun t i k hi => rowQ_get (cs := cs) (t := t) (i := i) (k := k) hi)
  have HLT := Lib.hid (fun t i k => rowQ_lt (cs := cs) (t := t) (i := i) (k := k))
  have HSL := Lib.hid (sumsL_len (pquiet cs) cs.length)
  have HOT := Lib.hid (fun t : Int => openTo_all (h := cs) (t := t) (n := cs.length) (Nat.le_refl _))
  clear hr
  generalize hn : cs.length = n at *
  have Hn := Lib.hid hn
  clear hn
  have hlen : (n : Int) ≤ 6 := by omega
  go_enter Try.func53, Try.ntmps53
  go_wp2_with (at_make; refine wpList_make_full _ rfl _ _ 24 rfl w.heap.size 3 i0 _ 1 Try.underlying24 hi0 hz0 hz1 _ _ _ _ n rfl rfl rfl rfl (by rw [hz2]; omega) (by unfold maxLen; omega) (Nat.le_refl _) ?_; intro w1 hown hgrow)
  have hb1 : Below w.heap.size w w1 := (Below.refl _ _).grown hgrow (Nat.le_refl _) (by simp)
  have hk1 : IntBlk w1 w.heap.size (rowQ cs 0 0 0) := by rw [H0.out]; exact IntBlk.made hown
  clear hown hgrow
  go_loopw [4, 5, 6, 7, 8] (fun i _ _ _ _ wr => ∃ k : Nat, k ≤ 31 ∧ i = .int .i64 k ∧ Below w.heap.size w wr ∧ IntBlk wr w.heap.size (rowQ cs k 0 0)) (fun i _ _ _ _ _ => 31 - (intOf i).toNat)
  case atStart => exact ⟨0, by omega, rfl, hb1, hk1⟩
  case round =>
    clear hb1 hk1
    obtain ⟨t, ht, rfl, hb, hk⟩ := hrel
    by_cases htl : t ≤ 30
    · have Hb := Lib.hid hb
      have Hk := Lib.hid hk
      clear hb hk
      have ht0 : (0 : Int) ≤ (t : Int) := by omega
      have ht1 : (t : Int) ≤ 30 := by omega
      go_wp2_with fail
      obtain ⟨wo, hwo⟩ : ∃ wo : World, wo = wr := ⟨_, rfl⟩
      go_loopw [5, 6] (fun o i wq => ∃ k : Nat, k ≤ n ∧ i = .int .i64 k ∧ o = .bool (decide (0 < openTo cs t k)) ∧ Below w.heap.size w wq ∧ IntBlk wq w.heap.size (rowQ cs t 0 0)) (fun _ i _ => n - (intOf i).toNat)
      case atStart => exact ⟨0, by omega, rfl, by simp [openTo], Hb.out, Hk.out⟩
      case round =>
        clear Hb Hk hwo
        obtain ⟨i, hi, rfl, rfl, hb, hk⟩ := hrel
        by_cases hil : i < n
        · obtain ⟨b0, off, rfl, hat⟩ := HR.out (by have := Hn.out; omega)
          obtain ⟨c, hc⟩ : ∃ c, cs[i]? = some c := ⟨cs[i]'(by have := Hn.out; omega), List.getElem?_eq_getElem _⟩
          obtain ⟨y0, y1, y2, y3, y4, y5, y6⟩ := (RowCalls.at7 hat hc).below hb
          have hbz : b0 < wr.heap.size := World.block_lt_of_cell? _ _ y0
          have Hst := Lib.hid (openTo_some (t := (t : Int)) hc)
          have Hb := Lib.hid hb
          have Hk := Lib.hid hk
          clear hat hc hb hk y0 y1 y2 y3 y4
          generalize decide (0 < openTo cs t i) = q at *
          have hi0' : (0 : Int) ≤ (i : Int) := by omega
          have hin : (i : Int) < (n : Int) := by omega
          cases q
          · by_cases h1 : c.fr ≤ (t : Int)
            · by_cases h2 : (t : Int) < c.till
              · go_wp2
                go_roundw
                case rel => exact ⟨i + 1, by omega, by go_num, by rw [Hst.out]; simp [h1, h2], Hb.out, Hk.out⟩
                case measure => simp [intOf]; omega
              · go_wp2
                go_roundw
                case rel => exact ⟨i + 1, by omega, by go_num, by rw [Hst.out]; simp [h1, h2], Hb.out, Hk.out⟩
                case measure => simp [intOf]; omega
            · go_wp2
              go_roundw
              case rel => exact ⟨i + 1, by omega, by go_num, by rw [Hst.out]; simp [h1], Hb.out, Hk.out⟩
              case measure => simp [intOf]; omega
          · go_wp2
            go_roundw
            case rel => exact ⟨i + 1, by omega, by go_num, by rw [Hst.out]; rfl, Hb.out, Hk.out⟩
            case measure => simp [intOf]; omega
        · have e1 : i = n := by omega
          subst e1
          have hge : ¬ ((i : Int) < (i : Int)) := by omega
          have HO := Lib.hid (HOT.out (t : Int))
          have Hb := Lib.hid hb
          have Hk := Lib.hid hk
          clear hb hk
          by_cases h0 : openN cs t = 0
          · have hq : decide (0 < openTo cs (t : Int) i) = false := by rw [HO.out]; simp [h0]
            rw [hq]
            have H0' := Lib.hid h0
            clear h0 hq
            go_wp2_with fail
            go_loopw [7, 8] (fun j _ wq => ∃ k : Nat, k ≤ i ∧ j = .int .i64 k ∧ Below w.heap.size w wq ∧ IntBlk wq w.heap.size (rowQ cs t k 0)) (fun j _ _ => i - (intOf j).toNat)
            case atStart => exact ⟨0, by omega, rfl, Hb.out, Hk.out⟩
            case round =>
              clear Hb Hk
              obtain ⟨a, ha, rfl, hb, hk⟩ := hrel
              by_cases hal : a < i
              · obtain ⟨b0, off, rfl, hat⟩ := HR.out (by have := Hn.out; omega)
                obtain ⟨c, hc⟩ : ∃ c, cs[a]? = some c := ⟨cs[a]'(by have := Hn.out; omega), List.getElem?_eq_getElem _⟩
                have Hat := Lib.hid hat
                have Hcc := Lib.hid hc
                have Hb := Lib.hid hb
                have Hk := Lib.hid hk
                clear hat hc hb hk
                have ha0 : (0 : Int) ≤ (a : Int) := by omega
                have hai : (a : Int) < (i : Int) := by omega
                go_wp2_with fail
                go_loopw [8] (fun j wq => ∃ k : Nat, k ≤ i ∧ j = .int .i64 k ∧ Below w.heap.size w wq ∧ IntBlk wq w.heap.size (rowQ cs t a k)) (fun j _ => i - (intOf j).toNat)
                case atStart => exact ⟨0, by omega, rfl, Hb.out, Hk.out⟩
                case round =>
                  clear Hb Hk
                  obtain ⟨k, hk', rfl, hb, hk⟩ := hrel
                  by_cases hkl : k < i
                  · obtain ⟨o, ho⟩ : ∃ o, cs[k]? = some o := ⟨cs[k]'(by have := Hn.out; omega), List.getElem?_eq_getElem _⟩
                    obtain ⟨z0, z1, z2, z3, z4, z5, z6⟩ := (RowCalls.at7 Hat.out ho).below hb
                    obtain ⟨y0, y1, y2, y3, y4, y5, y6⟩ := (RowCalls.at7 Hat.out Hcc.out).below hb
                    have hbz : b0 < wr.heap.size := World.block_lt_of_cell? _ _ y0
                    have hrel : relQ cs t a k = (decide (o.till ≤ (t : Int)) && decide ((t : Int) < c.fr)) := by
                      rw [relQ, hAt_eq ho, hAt_eq Hcc.out, H0'.out]; rfl
                    have Hrel := Lib.hid hrel
                    have hgz := hk.lt
                    have ca := hk.cell (HGET.out t a k hal)
                    have fa := hk.free (i := a)
                    have hlt := HLT.out t a k
                    have hl6 : 2 ^ i ≤ 2 ^ 6 := Nat.pow_le_pow_right (by omega) (by omega)
                    have hk6 : 2 ^ k ≤ 2 ^ 6 := Nat.pow_le_pow_right (by omega) (by omega)
                    have hpw : pw k = ((2 ^ k : Nat) : Int) := by rw [pw_eq k (by omega), two_cast]
                    have HPW := Lib.hid (fun (W : World) => power_calls k W (by omega))
                    rw [hpw] at HPW
                    have HY := Lib.hid (HYES.out t a k hal hkl)
                    have HN := Lib.hid (HNO.out t a k)
                    generalize sumTo (stQ cs t a k a) i = s at *
                    have hor := i64_or_nat s (2 ^ k) (by omega) (by omega)
                    have HB := Lib.hid hb
                    have HK := Lib.hid hk
                    clear hb hk hrel ho z0 z1 z2 z3 z4 z5 y0 y1 y2 y3 y4 y6 hlt hl6 hpw
                    generalize 2 ^ k = p2 at *
                    have hk0 : (0 : Int) ≤ (k : Int) := by omega
                    have hki : (k : Int) < (i : Int) := by omega
                    by_cases h1 : o.till ≤ (t : Int)
                    · by_cases h2 : (t : Int) < c.fr
                      · have HY1 := Lib.hid (HY.out (by rw [Hrel.out]; simp [h1, h2]))
                        go_wp2_with fail
                        refine tailed_start 9 (fun w' => w'.cell? ⟨w.heap.size, a, none⟩ = some (.int .i64 (s : Int))) (by kernel_rfl) ?_ (fun hHeld => ?_)
                        · exact ca
                        refine Tailed.pure (i := 0) (v := ?hv1) rfl (by kernel_rfl) (by kernel_rfl) (by kernel_rfl) (by omega) (by kernel_rfl) (by kernel_rfl) (fun _ _ _ h => h) (by assumption) (Or.inl ⟨by rfl, ?hy1⟩) ?hr1
                        case hy1 => (intro w' _hSw; go_simp; try with_reducible rfl)
                        (try simp only [Act.put, List.getElem_toArray, List.getElem_cons_zero, List.getElem_cons_succ, List.setIfInBounds_toArray, List.set_cons_zero, List.set_cons_succ])
                        refine Tailed.pure (i := 1) (v := ?hv2) rfl (by kernel_rfl) (by kernel_rfl) (by kernel_rfl) (by omega) (by kernel_rfl) (by kernel_rfl) (fun _ _ _ h => h) (by assumption) (Or.inl ⟨by rfl, ?hy2⟩) ?hr2
                        case hy2 => (intro w' _hSw; go_simp; try with_reducible rfl)
                        (try simp only [Act.put, List.getElem_toArray, List.getElem_cons_zero, List.getElem_cons_succ, List.setIfInBounds_toArray, List.set_cons_zero, List.set_cons_succ])
                        refine Tailed.pure (i := 2) (v := ?hv3) rfl (by kernel_rfl) (by kernel_rfl) (by kernel_rfl) (by omega) (by kernel_rfl) (by kernel_rfl) (fun _ _ _ h => h) (by assumption) (Or.inl ⟨by rfl, ?hy3⟩) ?hr3
                        case hy3 => (intro w' _hSw; go_simp; try with_reducible rfl)
                        (try simp only [Act.put, List.getElem_toArray, List.getElem_cons_zero, List.getElem_cons_succ, List.setIfInBounds_toArray, List.set_cons_zero, List.set_cons_succ])
                        refine Tailed.pure (i := 3) (v := ?hv4) rfl (by kernel_rfl) (by kernel_rfl) (by kernel_rfl) (by omega) (by kernel_rfl) (by kernel_rfl) (fun _ _ _ h => h) (by assumption) (Or.inl ⟨by rfl, ?hy4⟩) ?hr4
                        case hy4 => (intro w' _hSw; go_simp; try with_reducible rfl)
                        (try simp only [Act.put, List.getElem_toArray, List.getElem_cons_zero, List.getElem_cons_succ, List.setIfInBounds_toArray, List.set_cons_zero, List.set_cons_succ])
                        refine Tailed.pure (i := 4) (v := ?hv5) rfl (by kernel_rfl) (by kernel_rfl) (by kernel_rfl) (by omega) (by kernel_rfl) (by kernel_rfl) (fun _ _ _ h => h) (by assumption) (Or.inl ⟨by rfl, ?hy5⟩) ?hr5
                        case hy5 => (intro w' _hSw; go_simp; try with_reducible rfl)
                        (try simp only [Act.put, List.getElem_toArray, List.getElem_cons_zero, List.getElem_cons_succ, List.setIfInBounds_toArray, List.set_cons_zero, List.set_cons_succ])
                        refine Tailed.take (i := 5) (v := ?hv6) rfl (by kernel_rfl) (by kernel_rfl) (by kernel_rfl) (by kernel_rfl) (by kernel_rfl) (by kernel_rfl) (fun _ _ _ h => h) (by assumption) (Or.inl ⟨by rfl, ?hy6⟩) ?hr6
                        case hy6 => (intro w' hSw; (try dsimp only at hSw); go_simp; try with_reducible rfl)
                        (try simp only [Act.put, List.getElem_toArray, List.getElem_cons_zero, List.getElem_cons_succ, List.setIfInBounds_toArray, List.set_cons_zero, List.set_cons_succ])
                        refine Tailed.pure (i := 6) (v := ?hv7) rfl (by kernel_rfl) (by kernel_rfl) (by kernel_rfl) (by omega) (by kernel_rfl) (by kernel_rfl) (fun _ _ _ h => h) (by assumption) (Or.inl ⟨by rfl, ?hy7⟩) ?hr7
                        case hy7 => (intro w' _hSw; go_simp; try with_reducible rfl)
                        (try simp only [Act.put, List.getElem_toArray, List.getElem_cons_zero, List.getElem_cons_succ, List.setIfInBounds_toArray, List.set_cons_zero, List.set_cons_succ])
                        refine Tailed.ways (rs := [7]) (by kernel_rfl) (by simp) ?_
                        refine TailedAll.cons rfl (fun K hK => ?_) ?_
                        · skip
                          go_simp
                          go_at_call 75
                          refine (HPW.out _).mono ?_
                          rintro e w' ⟨rfl, rfl⟩
                          go_wp2_with fail
                          refine hK.out _ _ ?_ (fun hHeld => ?_)
                          · exact ca
                          clear hK K
                          (try simp only [Act.put, List.getElem_toArray, List.getElem_cons_zero, List.getElem_cons_succ, List.setIfInBounds_toArray, List.set_cons_zero, List.set_cons_succ])
                          refine Tailed.pure (i := 8) (v := ?hv8) rfl (by kernel_rfl) (by kernel_rfl) (by kernel_rfl) (by omega) (by kernel_rfl) (by kernel_rfl) (fun _ _ _ h => h) (by assumption) (Or.inl ⟨by rfl, ?hy8⟩) ?hr8
                          case hy8 => (intro w' _hSw; go_simp; try with_reducible rfl)
                          (try simp only [Act.put, List.getElem_toArray, List.getElem_cons_zero, List.getElem_cons_succ, List.setIfInBounds_toArray, List.set_cons_zero, List.set_cons_succ])
                          refine Tailed.ways (rs := [9]) (by kernel_rfl) (by simp) ?_
                          refine TailedAll.tail rfl (by kernel_rfl) (fun K hK => ?_) ?_
                          · skip
                            go_simp
                            refine hK.out _ _ ?_
                            clear hK K
                            (try simp only [Act.put, List.getElem_toArray, List.getElem_cons_zero, List.getElem_cons_succ, List.setIfInBounds_toArray, List.set_cons_zero, List.set_cons_succ])
                            refine Tailed.ways (rs := [10]) (by kernel_rfl) (by simp) ?_
                            refine TailedAll.tail rfl (by kernel_rfl) (fun K hK => ?_) ?_
                            · skip
                              go_simp
                              refine hK.out _ _ ?_
                              clear hK K
                              (try simp only [Act.put, List.getElem_toArray, List.getElem_cons_zero, List.getElem_cons_succ, List.setIfInBounds_toArray, List.set_cons_zero, List.set_cons_succ])
                              refine Tailed.done (by kernel_rfl) ?_
                              have hb6 := (HB.out.setCell (p := ⟨w.heap.size, a, none⟩) (Nat.le_refl _) (.int .i64 ((s ||| p2 : Nat) : Int))).drew
                              have K6 := HK.out.set_ (i := a) ((s ||| p2 : Nat) : Int)
                              go_wp2_with fail
                              go_roundw
                              case rel => exact ⟨k + 1, by omega, by go_num, hb6, by rw [← HY1.out]; exact K6⟩
                              case measure => simp [intOf]; omega
                            exact TailedAll.nil
                          exact TailedAll.nil
                        exact TailedAll.nil
                      · have HN1 := Lib.hid (HN.out (by rw [Hrel.out]; simp [h2]))
                        go_wp2
                        go_roundw
                        case rel => exact ⟨k + 1, by omega, by go_num, HB.out, by rw [HN1.out]; exact HK.out⟩
                        case measure => simp [intOf]; omega
                    · have HN1 := Lib.hid (HN.out (by rw [Hrel.out]; simp [h1]))
                      go_wp2
                      go_roundw
                      case rel => exact ⟨k + 1, by omega, by go_num, HB.out, by rw [HN1.out]; exact HK.out⟩
                      case measure => simp [intOf]; omega
                  · have e1 : k = i := by omega
                    subst e1
                    have hge : ¬ ((k : Int) < (k : Int)) := by omega
                    have e2 := HNX.out t a
                    go_wp2_with fail
                    go_roundw
                    case rel => exact ⟨a + 1, by omega, by go_num, hb, by rw [← e2]; exact hk⟩
                    case measure => simp [intOf]; omega
              · have e1 : a = i := by omega
                subst e1
                have hge : ¬ ((a : Int) < (a : Int)) := by omega
                have e2 := HTM.out t
                go_wp2_with fail
                go_roundw
                case rel => exact ⟨t + 1, by omega, by go_num, hb, by rw [← e2]; exact hk⟩
                case measure => simp [intOf]; omega
          · have hq : decide (0 < openTo cs (t : Int) i) = true := by rw [HO.out]; simp; omega
            rw [hq]
            have H0' := Lib.hid (HOP.out t h0)
            clear h0 hq
            have hi0 : (0 : Int) ≤ (i : Int) := by omega
            go_wp2_with fail
            go_loopw [7, 8] (fun j _ wq => j = .int .i64 0 ∧ Below w.heap.size w wq ∧ IntBlk wq w.heap.size (rowQ cs t 0 0)) (fun _ _ _ => 0)
            case atStart => exact ⟨rfl, Hb.out, Hk.out⟩
            case round =>
              clear Hb Hk
              obtain ⟨rfl, hb, hk⟩ := hrel
              by_cases hi1 : 0 < i
              · go_wp2_with fail
                go_roundw
                case rel => exact ⟨t + 1, by omega, by go_num, hb, by rw [← H0'.out]; exact hk⟩
                case measure => simp [intOf]; omega
              · go_wp2_with fail
                go_roundw
                case rel => exact ⟨t + 1, by omega, by go_num, hb, by rw [← H0'.out]; exact hk⟩
                case measure => simp [intOf]; omega
    · have e1 : t = 31 := by omega
      subst e1
      have HO := Lib.hid ((show IntBlk wr w.heap.size (sumsL (pquiet cs) n) by rw [← HD.out]; exact hk).own (base := w.heap.size) (n := n) HSL.out (Nat.le_refl _) (by unfold maxLen; omega))
      have Hb := Lib.hid hb
      clear hk hb
      go_wp2_with fail
      go_ret
      exact ⟨_, rfl, HO.out, Hb.out⟩

theorem specQuietAhead_calls (cs : List CallD) (A : Option Addr) (cap : Nat) (w : World) (hr : RowCalls w A cs) (hl : cs.length ≤ 1048576) :
    Calls Try.prog 26 #[.slice A cs.length cap] w fun e w' => ∃ v, e = .returned v ∧ OwnInts w' w.heap.size v (quietL cs) ∧ Below w.heap.size w w' := by
  have HR := Lib.hid hr
  clear hr
  cases hv : histB cs
  · have E1 := Lib.hid (show quietL cs = [] by simp [quietL, hv])
    have HV := Lib.hid hv
    clear hv
    go_enter Try.func26, Try.ntmps26
    go_wp2_with (go_at_call 42; refine (specValid_calls cs A cap _ HR.out hl false HV.out).mono ?_; rintro e w1 ⟨rfl, hb1⟩)
    go_ret
    exact ⟨_, rfl, by unfold OwnInts; rw [E1.out]; exact World.ownsRow_nil _ _ _ _, hb1⟩
  · have E1 := Lib.hid (show quietL cs = sumsL (pquiet cs) cs.length by simp [quietL, hv])
    have HV := Lib.hid hv
    have h6 := histB_len hv
    clear hv
    go_enter Try.func26, Try.ntmps26
    go_wp2_with (go_at_call 42; refine (specValid_calls cs A cap _ HR.out hl true HV.out).mono ?_; rintro e w1 ⟨rfl, hb1⟩)
    refine (specquiet_calls cs A cap _ (HR.out.below hb1) h6).mono ?_
    rintro e w2 ⟨v, rfl, ho, hb2⟩
    go_wp2_with fail
    go_ret
    exact ⟨v, rfl, by unfold OwnInts; rw [E1.out, sumsL_len]; exact own_base ho hb1.size, (by repeat (first | exact Below.refl _ _ | assumption | refine below_alloc ?_ _ | refine below_trans' ?_ (by assumption) | refine Below.drew ?_))⟩
end Go.Proofs.Ytoeecaeaobfhmaa
