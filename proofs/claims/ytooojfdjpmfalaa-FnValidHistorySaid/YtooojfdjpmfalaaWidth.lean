/-
  What the program and the reference answer on the width of calls: the same number. No condition but lengths of at most 2 to the 20.
-/
import Derived.Test.YtooojfdjpmfalaaHist
import Derived.Test.YtooojfdjpmfalaaWidthP
import Derived.Test.YtooojfdjpmfalaaWValidHistory
namespace Go.Proofs.Ytooojfdjpmfalaa
open Go.RowKit
set_option maxRecDepth 100000

set_option maxHeartbeats 1000000 in
theorem openAt_calls (cs : List CallD) (A : Option Addr) (cap : Nat) (t : Int) (w : World) (hr : RowCalls w A cs) (hl : cs.length ≤ 1048576) :
    Calls Try.prog 47 #[.slice A cs.length cap, .int .i64 t] w fun e w' => e = .returned (.int .i64 (openN cs t)) ∧ Below w.heap.size w w' := by
  have HR := Lib.hid hr
  clear hr
  generalize hn : cs.length = n at *
  have Hn := Lib.hid hn
  clear hn
  have hlen : (n : Int) ≤ 1048576 := by omega
  go_enter Try.func47, Try.ntmps47
  go_wp2
  go_loopw [5, 10] (fun m i wr => ∃ k : Nat, k ≤ n ∧ i = .int .i64 k ∧ m = .int .i64 (openTo cs t k) ∧ Below w.heap.size w wr) (fun _ i _ => n - (intOf i).toNat)
  case atStart => exact ⟨0, by omega, rfl, rfl, Below.refl _ _⟩
  case round =>
    obtain ⟨k, hk, rfl, rfl, hb⟩ := hrel
    have hle := openTo_le (h := cs) (t := t) (k := k)
    by_cases hlt : k < n
    · obtain ⟨b0, off, rfl, hat⟩ := HR.out (by have := Hn.out; omega)
      obtain ⟨c, hc⟩ : ∃ c, cs[k]? = some c := ⟨cs[k]'(by have := Hn.out; omega), List.getElem?_eq_getElem _⟩
      obtain ⟨x0, x1, x2, x3, x4, x5, x6⟩ := (RowCalls.at7 hat hc).below hb
      have hst := openTo_succ (t := t) hc
      generalize openTo cs t k = m at *
      have Hst := Lib.hid hst
      have Hb := Lib.hid hb
      clear HR hat hc hb hst
      have hk0 : (0 : Int) ≤ (k : Int) := by omega
      have hkn : (k : Int) < (n : Int) := by omega
      have hm : (m : Int) ≤ 1048576 := by omega
      have hm0 : (0 : Int) ≤ (m : Int) := by omega
      by_cases h1 : c.fr ≤ t
      · by_cases h2 : t < c.till
        · go_wp2
          go_roundw
          case rel => exact ⟨k + 1, by omega, by go_num, by rw [Hst.out, show openB t c = true by simp [openB, h1, h2], if_pos rfl]; go_num, below_alloc Hb.out _⟩
          case measure => simp [intOf]; omega
        · go_wp2
          go_roundw
          case rel => exact ⟨k + 1, by omega, by go_num, by rw [Hst.out, show openB t c = false by (simp [openB]; omega), if_neg (by simp)]; rfl, below_alloc Hb.out _⟩
          case measure => simp [intOf]; omega
      · go_wp2
        go_roundw
        case rel => exact ⟨k + 1, by omega, by go_num, by rw [Hst.out, show openB t c = false by (simp [openB]; omega), if_neg (by simp)]; rfl, below_alloc Hb.out _⟩
        case measure => simp [intOf]; omega
    · have hge : ¬ ((k : Int) < (n : Int)) := by omega
      have e1 := openTo_all (h := cs) (t := t) (n := k) (by rw [Hn.out]; omega)
      have E1 := Lib.hid e1
      clear e1
      go_wp2
      go_ret
      exact ⟨by rw [← E1.out]; rfl, hb⟩

set_option maxHeartbeats 1000000 in
theorem implWidthOf_calls (cs : List CallD) (A : Option Addr) (cap : Nat) (w : World) (hr : RowCalls w A cs) (hl : cs.length ≤ 1048576) (hcap : cs.length ≤ cap) (b : Int) (hb : widthI cs = b) :
    Calls Try.prog 30 #[.slice A cs.length cap] w fun e w' => e = .returned (.int .i64 b) ∧ Below w.heap.size w w' := by
  have HR := Lib.hid hr
  clear hr
  have HC := Lib.hid (fun (W : World) (t : Int) (hW : RowCalls W A cs) => openAt_calls cs A cap t W hW hl)
  cases hv : histB cs
  · have e1 : b = -1 := by rw [← hb, widthI, hv]; rfl
    subst e1
    clear hb
    have HV := Lib.hid hv
    clear hv
    go_enter Try.func30, Try.ntmps30
    go_wp2_with (go_at_call 25; refine (implValid_calls cs A cap _ HR.out hl hcap false HV.out).mono ?_; rintro e w1 ⟨rfl, hb1⟩)
    go_ret
    exact ⟨rfl, hb1⟩
  · have e1 : b = (widthTo cs 31 : Int) := by rw [← hb, widthI, hv, width_eq hv]; rfl
    have E1 := Lib.hid e1
    have HV := Lib.hid hv
    clear hb hv e1
    generalize hn : cs.length = n at *
    have Hn := Lib.hid hn
    clear hn
    go_enter Try.func30, Try.ntmps30
    go_wp2_with (go_at_call 25; refine ((by have := implValid_calls cs A cap w HR.out (by rw [Hn.out]; exact hl) (by rw [Hn.out]; exact hcap) true HV.out; rwa [Hn.out] at this : Calls Try.prog 25 #[.slice A n cap] w fun e w' => e = .returned (.bool true) ∧ Below w.heap.size w w')).mono ?_; rintro e w1 ⟨rfl, hb1⟩)
    go_loopw [3, 8] (fun m i wr => ∃ k : Nat, k ≤ 31 ∧ i = .int .i64 k ∧ m = .int .i64 (widthTo cs k) ∧ Below w.heap.size w wr) (fun _ i _ => 31 - (intOf i).toNat)
    case atStart => exact ⟨0, by omega, rfl, rfl, hb1⟩
    case round =>
      obtain ⟨k, hk, rfl, rfl, hb⟩ := hrel
      by_cases hlt : k < 31
      · have hkn : (k : Int) < 31 := by omega
        have hst : widthTo cs (k + 1) = max (widthTo cs k) (openN cs k) := rfl
        have Hst := Lib.hid hst
        have Hb := Lib.hid hb
        clear hst hb
        go_wp2_with (go_at_call 47; refine (HC.out _ _ (HR.out.below Hb.out)).mono ?_; rintro e w2 ⟨rfl, hb2⟩)
        have hb := Hb.out
        refine ⟨⟨k + 1, by omega, by go_num, ?_, (by repeat (first | exact Below.refl _ _ | assumption | refine below_alloc ?_ _ | refine below_trans' ?_ (by assumption) | refine Below.drew ?_))⟩, by simp [intOf]; omega⟩
        rw [Hst.out]
        congr 1
        split <;> omega
      · have hge : ¬ ((k : Int) < 31) := by omega
        have e2 : k = 31 := by omega
        subst e2
        go_wp2
        go_ret
        exact ⟨by rw [E1.out]; rfl, hb⟩

set_option maxHeartbeats 2000000 in
theorem specWidth_calls (cs : List CallD) (A : Option Addr) (cap : Nat) (w : World) (hr : RowCalls w A cs) (hl : cs.length ≤ 1048576) :
    Calls Try.prog 48 #[.slice A cs.length cap] w fun e w' => e = .returned (.int .i64 (widthAt cs cs.length)) ∧ Below w.heap.size w w' := by
  have HR := Lib.hid hr
  clear hr
  generalize hn : cs.length = n at *
  have Hn := Lib.hid hn
  clear hn
  have hlen : (n : Int) ≤ 1048576 := by omega
  go_enter Try.func48, Try.ntmps48
  go_wp2
  go_loopw [3, 4] (fun m i wr => ∃ k : Nat, k ≤ n ∧ i = .int .i64 k ∧ m = .int .i64 (widthAt cs k) ∧ Below w.heap.size w wr) (fun _ i _ => n - (intOf i).toNat)
  case atStart => exact ⟨0, by omega, rfl, rfl, Below.refl _ _⟩
  case round =>
    obtain ⟨i, hi, rfl, rfl, hb⟩ := hrel
    obtain ⟨wo, rfl⟩ : ∃ wo : World, wo = wr := ⟨_, rfl⟩
    by_cases hlt : i < n
    · obtain ⟨b0, off, rfl, hat⟩ := HR.out (by have := Hn.out; omega)
      obtain ⟨c, hc⟩ : ∃ c, cs[i]? = some c := ⟨cs[i]'(by have := Hn.out; omega), List.getElem?_eq_getElem _⟩
      have hst : widthAt cs (i + 1) = max (widthAt cs i) (openN cs c.fr) := by simp only [widthAt]; rw [hAt_eq hc]
      have Hst := Lib.hid hst
      have Hb := Lib.hid hb
      have Hat := Lib.hid hat
      have Hc := Lib.hid hc
      clear hst hb HR hat hc
      generalize widthAt cs i = mi at *
      have hi0 : (0 : Int) ≤ (i : Int) := by omega
      have hin : (i : Int) < (n : Int) := by omega
      go_wp2
      go_loopw [5, 6] (fun m j wq => ∃ k : Nat, k ≤ n ∧ j = .int .i64 k ∧ m = .int .i64 (openTo cs c.fr k) ∧ Below w.heap.size w wq) (fun _ j _ => n - (intOf j).toNat)
      case atStart => exact ⟨0, by omega, rfl, rfl, Hb.out⟩
      case round =>
        obtain ⟨j, hj, rfl, rfl, hb2⟩ := hrel
        have hle := openTo_le (h := cs) (t := c.fr) (k := j)
        by_cases hjlt : j < n
        · obtain ⟨o, ho⟩ : ∃ o, cs[j]? = some o := ⟨cs[j]'(by have := Hn.out; omega), List.getElem?_eq_getElem _⟩
          obtain ⟨x0, x1, x2, x3, x4, x5, x6⟩ := (RowCalls.at7 Hat.out Hc.out).below hb2
          obtain ⟨y0, y1, y2, y3, y4, y5, y6⟩ := (RowCalls.at7 Hat.out ho).below hb2
          have hbz : b0 < wr.heap.size := World.block_lt_of_cell? _ _ x0
          have hso := openTo_succ (t := c.fr) ho
          generalize openTo cs c.fr j = m at *
          have Hso := Lib.hid hso
          have Hb2 := Lib.hid hb2
          clear ho hb2 hso
          have hj0 : (0 : Int) ≤ (j : Int) := by omega
          have hjn : (j : Int) < (n : Int) := by omega
          have hm : (m : Int) ≤ 1048576 := by omega
          have hm0 : (0 : Int) ≤ (m : Int) := by omega
          by_cases h1 : o.fr ≤ c.fr
          · by_cases h2 : c.fr < o.till
            · go_wp2_with fail
              refine wp_region_grow (by kernel_rfl) (by kernel_rfl) ?_
              repeat (go_big_quiet_step (fail))
              refine wpQuiet_end ?_
              intro w3 hb3
              go_wp2_with fail
              go_roundw
              case rel =>
                have hb2 := Hb2.out
                exact ⟨j + 1, by omega, by go_num, by rw [Hso.out, show openB c.fr o = true by simp [openB, h1, h2], if_pos rfl]; go_num, (by repeat (first | exact Below.refl _ _ | assumption | refine below_alloc ?_ _ | refine below_trans' ?_ (by assumption) | refine Below.drew ?_))⟩
              case measure => simp [intOf]; omega
            · have h2' : decide (c.fr < o.till) = false := by simp; omega
              go_wp2_with fail
              refine wp_region_grow (by kernel_rfl) (by kernel_rfl) ?_
              repeat (go_big_quiet_step (fail))
              refine wpQuiet_end ?_
              intro w3 hb3
              go_wp2_with fail
              go_roundw
              case rel =>
                have hb2 := Hb2.out
                exact ⟨j + 1, by omega, by go_num, by rw [Hso.out, show openB c.fr o = false by (simp [openB]; omega), if_neg (by simp)]; rfl, (by repeat (first | exact Below.refl _ _ | assumption | refine below_alloc ?_ _ | refine below_trans' ?_ (by assumption) | refine Below.drew ?_))⟩
              case measure => simp [intOf]; omega
          · have h1' : decide (o.fr ≤ c.fr) = false := by simp; omega
            go_wp2_with fail
            refine wp_region_grow (by kernel_rfl) (by kernel_rfl) ?_
            repeat (go_big_quiet_step (fail))
            refine wpQuiet_end ?_
            intro w3 hb3
            go_wp2_with fail
            go_roundw
            case rel =>
              have hb2 := Hb2.out
              exact ⟨j + 1, by omega, by go_num, by rw [Hso.out, show openB c.fr o = false by (simp [openB]; omega), if_neg (by simp)]; rfl, (by repeat (first | exact Below.refl _ _ | assumption | refine below_alloc ?_ _ | refine below_trans' ?_ (by assumption) | refine Below.drew ?_))⟩
            case measure => simp [intOf]; omega
        · have hge : ¬ ((j : Int) < (n : Int)) := by omega
          have e1 := openTo_all (h := cs) (t := c.fr) (n := j) (by rw [Hn.out]; omega)
          have E1 := Lib.hid e1
          clear e1
          go_wp2
          refine ⟨⟨i + 1, by omega, by go_num, ?_, hb2⟩, by simp [intOf]; omega⟩
          rw [Hst.out, ← E1.out]
          congr 1
          split <;> omega
    · have hge : ¬ ((i : Int) < (n : Int)) := by omega
      have e2 : i = n := by omega
      subst e2
      go_wp2
      go_ret
      exact ⟨rfl, hb⟩

theorem specWidthOf_calls (cs : List CallD) (A : Option Addr) (cap : Nat) (w : World) (hr : RowCalls w A cs) (hl : cs.length ≤ 1048576) (b : Int) (hb : widthI cs = b) :
    Calls Try.prog 31 #[.slice A cs.length cap] w fun e w' => e = .returned (.int .i64 b) ∧ Below w.heap.size w w' := by
  have HR := Lib.hid hr
  clear hr
  cases hv : histB cs
  · have e1 : b = -1 := by rw [← hb, widthI, hv]; rfl
    subst e1
    clear hb
    have HV := Lib.hid hv
    clear hv
    go_enter Try.func31, Try.ntmps31
    go_wp2_with (go_at_call 42; refine (specValid_calls cs A cap _ HR.out hl false HV.out).mono ?_; rintro e w1 ⟨rfl, hb1⟩)
    go_ret
    exact ⟨rfl, hb1⟩
  · have e1 : b = (widthAt cs cs.length : Int) := by rw [← hb, widthI, hv]; rfl
    subst e1
    have HV := Lib.hid hv
    clear hv hb
    go_enter Try.func31, Try.ntmps31
    go_wp2_with (go_at_call 42; refine (specValid_calls cs A cap _ HR.out hl true HV.out).mono ?_; rintro e w1 ⟨rfl, hb1⟩)
    refine (specWidth_calls cs A cap _ (HR.out.below hb1) hl).mono ?_
    rintro e w2 ⟨rfl, hb2⟩
    go_wp2_with fail
    go_ret
    exact ⟨rfl, (by repeat (first | exact Below.refl _ _ | assumption | refine below_alloc ?_ _ | refine below_trans' ?_ (by assumption) | refine Below.drew ?_))⟩
end Go.Proofs.Ytooojfdjpmfalaa
