/-
  Which calls are ahead of each one by a quiet time, of the program and of the reference: the same list of sums. No condition but lengths of at most 2 to the 20.
-/
import Derived.Test.YtoeecaeaobfhmaaOpenAt
import Derived.Test.YtoeecaeaobfhmaaQuiP
import Derived.Test.YtoeecaeaobfhmaaLevI
import Derived.Test.YtoeecaeaobfhmaaIntS
namespace Go.Proofs.Ytoeecaeaobfhmaa
open Go.RowKit
set_option maxRecDepth 100000

theorem callFunc_quiet (args : Array Value) (W : World) : (callFunc 54 args).run Try.prog W = .ok (.enter 54 args) W := by kernel_rfl

set_option maxHeartbeats 1000000 in
theorem clo_quiet (cs : List CallD) (hh : histB cs = true) (A : Option Addr) (cap g i k : Nat) (w : World) (hr : RowCalls w A cs) (hg : w.cell? ⟨g, 0, none⟩ = some (.slice A cs.length cap)) (hl : cs.length ≤ 20) (hi : i < cs.length) (hk : k < cs.length) :
    Calls Try.prog 54 #[.int .i64 i, .int .i64 k, .pointer (some ⟨g, 0, none⟩)] w fun e w' => e = .returned (.bool (pquiet cs i k)) ∧ Below w.heap.size w w' := by
  have HR := Lib.hid hr
  obtain ⟨b0, off, rfl, hat⟩ := hr (by omega)
  obtain ⟨c, hc⟩ : ∃ c, cs[i]? = some c := ⟨cs[i], List.getElem?_eq_getElem _⟩
  obtain ⟨o, ho⟩ : ∃ o, cs[k]? = some o := ⟨cs[k], List.getElem?_eq_getElem _⟩
  have hbo := histB_call hh ho
  have hbc := histB_call hh hc
  simp only [callB, inB, Bool.and_eq_true, decide_eq_true_eq] at hbo hbc
  obtain ⟨T, hT⟩ : ∃ T : Nat, o.till = T := ⟨o.till.toNat, by omega⟩
  obtain ⟨F, hF⟩ : ∃ F : Nat, c.fr = F := ⟨c.fr.toNat, by omega⟩
  have hT30 : T ≤ 30 := by omega
  have hF30 : F ≤ 30 := by omega
  have HY := Lib.hid (fun (t : Nat) (h1 : T ≤ t) (h2 : t < F) (h0 : openN cs t = 0) => pquiet_yes hh (i := i) (k := k) hi (by rw [hAt_eq ho, hT]; omega) (by rw [hAt_eq hc, hF]; omega) h0)
  have HN := Lib.hid (fun (h : ∀ t : Nat, T ≤ t → t < F → openN cs t ≠ 0) => pquiet_no (cs := cs) (i := i) (k := k) (fun t h1 h2 => h t (by rw [hAt_eq ho, hT] at h1; omega) (by rw [hAt_eq hc, hF] at h2; omega)))
  have HC := Lib.hid (fun (W : World) (t : Int) (hW : RowCalls W (some ⟨b0, off, none⟩) cs) => openAt_calls cs (some ⟨b0, off, none⟩) cap t W hW (by omega))
  have Hat := Lib.hid hat
  have Hcc := Lib.hid hc
  have Hoo := Lib.hid ho
  have Hol := Lib.hid (fun t : Int => openN_le (h := cs) (t := t))
  clear hc ho hat hr hbo hbc
  generalize cs.length = n at *
  have hi0 : (0 : Int) ≤ (i : Int) := by omega
  have hk0 : (0 : Int) ≤ (k : Int) := by omega
  have hin : (i : Int) < (n : Int) := by omega
  have hkn : (k : Int) < (n : Int) := by omega
  obtain ⟨y0, y1, y2, y3, y4, y5, y6⟩ := RowCalls.at7 Hat.out Hoo.out
  rw [hT] at y6
  have hbz : b0 < w.heap.size := World.block_lt_of_cell? _ _ y0
  have hgz : g < w.heap.size := World.block_lt_of_cell? _ _ hg
  have Hg := Lib.hid hg
  go_enter Try.func54, Try.ntmps54
  go_wp2
  clear hg y0 y1 y2 y3 y4 y5 y6
  go_loopw [6] (fun t wr => ∃ m : Nat, T ≤ m ∧ t = .int .i64 m ∧ Below w.heap.size w wr ∧ Hid (∀ s : Nat, T ≤ s → s < m → s < F → openN cs s ≠ 0) ∧ (m ≤ F ∨ m = T)) (fun t _ => 31 - (intOf t).toNat)
  case atStart => exact ⟨T, Nat.le_refl _, rfl, by first | exact Below.refl _ _ | exact (Below.refl _ _).drew, (fun s h1 h2 => by omega), .inr rfl⟩
  case round =>
    obtain ⟨m, hm, rfl, hb, HG, hmF⟩ := hrel
    obtain ⟨x0, x1, x2, x3, x4, x5, x6⟩ := (RowCalls.at7 Hat.out Hcc.out).below hb
    rw [hF] at x5
    have hg1 := cell_below hb Hg.out
    have hbz1 : b0 < wr.heap.size := World.block_lt_of_cell? _ _ x0
    have hgz1 : g < wr.heap.size := World.block_lt_of_cell? _ _ hg1
    have hrw := HR.out.below hb
    have HRW := Lib.hid hrw
    have Hb := Lib.hid hb
    clear hb hrw x0 x1 x2 x3 x4 x6
    by_cases hlt : m < F
    · have hlt' : (m : Int) < (F : Int) := by omega
      have HCm := Lib.hid (fun (W : World) (hW : RowCalls W (some ⟨b0, off, none⟩) cs) => HC.out W (m : Int) hW)
      have hol := Hol.out (m : Int)
      cases hq : openN cs (m : Int) with
      | zero =>
        have HY1 := Lib.hid (HY.out m hm hlt hq)
        rw [hq] at HCm
        clear hq
        go_wp2_with (go_at_call 55; refine (HCm.out _ (HRW.out.below (by first | exact Below.refl _ _ | exact (Below.refl _ _).drew))).mono ?_; rintro e w2 ⟨rfl, hb2⟩)
        go_ret
        exact ⟨by rw [HY1.out]; rfl, below_trans' Hb.out (by first | exact hb2 | exact ⟨hb2.os, hb2.tape, hb2.output, hb2.size, hb2.block⟩)⟩
      | succ q =>
        have Hq := Lib.hid hq
        rw [hq] at HCm hol
        clear hq
        have hq0 : ¬ ((q : Int) + 1 = 0) := by omega
        have hq1 : (((q + 1 : Nat) : Int) == 0) = false := by simp; omega
        go_wp2_with (go_at_call 55; refine (HCm.out _ (HRW.out.below (by first | exact Below.refl _ _ | exact (Below.refl _ _).drew))).mono ?_; rintro e w2 ⟨rfl, hb2⟩)
        go_roundw
        case rel =>
          refine ⟨m + 1, by omega, by go_num, below_trans' Hb.out (by first | exact hb2 | exact ⟨hb2.os, hb2.tape, hb2.output, hb2.size, hb2.block⟩), ?_, .inl hlt⟩
          intro s h1 h2 h3
          by_cases e : s = m
          · subst e; rw [Hq.out]; omega
          · exact HG.out s h1 (by omega) h3
        case measure => simp [intOf]; omega
    · have hge : ¬ ((m : Int) < (F : Int)) := by omega
      have HN1 := Lib.hid (HN.out (fun t h1 h2 => HG.out t h1 (by omega) h2))
      go_wp2
      go_ret
      exact ⟨by rw [HN1.out]; rfl, by first | exact Hb.out | exact Hb.out.drew⟩

theorem implQuietAhead_calls (cs : List CallD) (A : Option Addr) (cap : Nat) (w : World) (hr : RowCalls w A cs) (hl : cs.length ≤ 1048576) (hcap : cs.length ≤ cap) :
    Calls Try.prog 27 #[.slice A cs.length cap] w fun e w' => ∃ v, e = .returned v ∧ OwnInts w' w.heap.size v (quietL cs) ∧ Below w.heap.size w w' := by
  have HR := Lib.hid hr
  clear hr
  cases hv : histB cs
  · have e1 : quietL cs = [] := by simp [quietL, hv]
    have E1 := Lib.hid e1
    have HV := Lib.hid hv
    clear hv e1
    go_enter Try.func27, Try.ntmps27
    go_wp2_with (go_at_call 44; refine (implValid_calls cs A cap _ (HR.out.below (below_alloc (Below.refl _ _) _)) hl hcap false HV.out).mono ?_; rintro e w1 ⟨rfl, hb1⟩)
    go_ret
    refine ⟨_, rfl, ?_, (by repeat (first | exact Below.refl _ _ | assumption | refine below_alloc ?_ _ | refine below_trans' ?_ (by assumption) | refine Below.drew ?_))⟩
    unfold OwnInts
    rw [E1.out]
    exact World.ownsRow_nil _ _ _ _
  · have e1 : quietL cs = sumsL (pquiet cs) cs.length := by simp [quietL, hv]
    have E1 := Lib.hid e1
    have HV := Lib.hid hv
    have h6 := histB_len hv
    clear hv e1
    go_enter Try.func27, Try.ntmps27
    go_wp2_with (go_at_call 44; refine (implValid_calls cs A cap _ (HR.out.below (below_alloc (Below.refl _ _) _)) hl hcap true HV.out).mono ?_; rintro e w1 ⟨rfl, hb1⟩; obtain ⟨hc1, _⟩ := bcell hb1; have hl0 : w.heap.size < w1.heap.size := by have := hb1.size; simp at this; omega)
    have hbw1 : Below w.heap.size w w1 := (by repeat (first | exact Below.refl _ _ | assumption | refine below_alloc ?_ _ | refine below_trans' ?_ (by assumption) | refine Below.drew ?_))
    have hcell : w1.cell? ⟨w.heap.size, 0, none⟩ = some (.slice A cs.length cap) := by rw [hc1 _ _ (by simp)]; simp
    refine (sums_calls 54 (.pointer (some ⟨w.heap.size, 0, none⟩)) (pquiet cs) cs.length _ (by omega) callFunc_quiet (fun W i k hW hi hk => clo_quiet cs HV.out A cap w.heap.size i k W (HR.out.below (below_trans' hbw1 hW)) (cell_below hW hcell) (by omega) hi hk)).mono ?_
    rintro e w2 ⟨v, rfl, ho, hb2⟩
    go_wp2_with fail
    go_ret
    refine ⟨v, rfl, ?_, (by repeat (first | exact Below.refl _ _ | assumption | refine below_alloc ?_ _ | refine below_trans' ?_ (by assumption) | refine Below.drew ?_))⟩
    unfold OwnInts
    rw [E1.out, sumsL_len]
    exact own_base ho hbw1.size
end Go.Proofs.Ytoeecaeaobfhmaa
