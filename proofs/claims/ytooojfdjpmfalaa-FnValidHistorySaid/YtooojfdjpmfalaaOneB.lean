/-
  What the program and the reference answer on whether no two calls overlap: the same Lean function. No condition but lengths of at most 2 to the 20.
-/
import Derived.Test.YtooojfdjpmfalaaHist
namespace Go.Proofs.Ytooojfdjpmfalaa
open Go.RowKit
set_option maxRecDepth 100000

def rowO (h : List CallD) (i : Nat) : Bool := (List.range i).all fun k => !lapB (hAt h i) (hAt h k)
def oneB (h : List CallD) : Bool := (List.range h.length).all (rowO h)
def oneHist (h : List CallD) : Bool := oneB h && histB h
theorem oneB_false {h : List CallD} {i k : Nat} (hi : i < h.length) (hk : k < i) (hp : lapB (hAt h i) (hAt h k) = true) : oneB h = false :=
  all_range_false hi (all_range_false hk (by simp [hp]))
theorem lapB_comm (c d : CallD) : lapB c d = lapB d c := by simp only [lapB]; exact Bool.and_comm _ _

set_option maxHeartbeats 2000000 in
theorem implIsOneByOne_calls (cs : List CallD) (A : Option Addr) (cap : Nat) (w : World) (hr : RowCalls w A cs) (hl : cs.length ≤ 1048576) (hcap : cs.length ≤ cap) (b : Bool) (hb : oneHist cs = b) :
    Calls Try.prog 28 #[.slice A cs.length cap] w fun e w' => e = .returned (.bool b) ∧ Below w.heap.size w w' := by
  have HR := Lib.hid hr
  have HV := Lib.hid hb
  clear hr hb
  have HC := Lib.hid (fun (W : World) (B : Option Addr) (hW : RowCalls W B cs) => implValid_calls cs B cap W hW hl hcap _ rfl)
  generalize hn : cs.length = n at *
  have Hn := Lib.hid hn
  clear hn
  have hlen : (n : Int) ≤ 1048576 := by omega
  go_enter Try.func28, Try.ntmps28
  go_wp2
  go_loopw [9] (fun i wr => ∃ k : Nat, k ≤ n ∧ i = .int .i64 k ∧ Below w.heap.size w wr ∧ Hid ((List.range k).all (rowO cs) = true)) (fun i _ => n - (intOf i).toNat)
  case atStart => exact ⟨0, by omega, rfl, Below.refl _ _, rfl⟩
  case round =>
    obtain ⟨i, hi, rfl, hb, HG⟩ := hrel
    obtain ⟨wo, rfl⟩ : ∃ wo : World, wo = wr := ⟨_, rfl⟩
    by_cases hlt : i < n
    · obtain ⟨b0, off, rfl, hat⟩ := HR.out (by have := Hn.out; omega)
      obtain ⟨c, hc⟩ : ∃ c, cs[i]? = some c := ⟨cs[i]'(by have := Hn.out; omega), List.getElem?_eq_getElem _⟩
      obtain ⟨x0, x1, x2, x3, x4, x5, x6⟩ := (RowCalls.at7 hat hc).below hb
      have Hat := Lib.hid hat
      have Hc := Lib.hid (hAt_eq hc)
      have Hb := Lib.hid hb
      clear HR hat hc hb
      have hi0 : (0 : Int) ≤ (i : Int) := by omega
      have hin : (i : Int) < (n : Int) := by omega
      have hic : (i : Int) ≤ (cap : Int) := by omega
      go_wp2
      clear x0 x1 x2 x3 x4 x5 x6
      go_loopw [18] (fun j wq => ∃ k : Nat, k ≤ i ∧ j = .int .i64 k ∧ Below (wo.heap.size + 1) (wo.alloc (.cells #[.int .i64 c.proc, .int .i64 c.obj, .int .i64 c.kind, .int .i64 c.arg, .int .i64 c.ret, .int .i64 c.fr, .int .i64 c.till] 26)) wq ∧ Hid ((List.range k).all (fun k => !lapB (hAt cs i) (hAt cs k)) = true)) (fun j _ => i - (intOf j).toNat)
      case atStart => exact ⟨0, by omega, rfl, Below.refl _ _, rfl⟩
      case round =>
        obtain ⟨j, hj, rfl, hb2, HP⟩ := hrel
        have hz2 : wo.heap.size < wr.heap.size := by have := hb2.size; simp at this; omega
        have hbw2 : Below w.heap.size w wr := by
          have hb := Hb.out
          exact ((below_alloc hb _).trans (hb2.mono (by have := hb.size; omega)))
        by_cases hjlt : j < i
        · obtain ⟨o, ho⟩ : ∃ o, cs[j]? = some o := ⟨cs[j]'(by have := Hn.out; omega), List.getElem?_eq_getElem _⟩
          obtain ⟨hc2, _⟩ := bcell (W := wo.alloc (.cells #[.int .i64 c.proc, .int .i64 c.obj, .int .i64 c.kind, .int .i64 c.arg, .int .i64 c.ret, .int .i64 c.fr, .int .i64 c.till] 26)) (by simpa using hb2)
          have hcc : At7 wr wo.heap.size 0 c := by
            refine ⟨?_, ?_, ?_, ?_, ?_, ?_, ?_⟩ <;> (rw [hc2 _ _ (by simp)]; simp)
          obtain ⟨x0, x1, x2, x3, x4, x5, x6⟩ := hcc
          obtain ⟨y0, y1, y2, y3, y4, y5, y6⟩ := (RowCalls.at7 Hat.out ho).below hbw2
          have Ho := Lib.hid (hAt_eq ho)
          have Hb2 := Lib.hid hb2
          have Hbw2 := Lib.hid hbw2
          clear ho hb2 hbw2 hc2
          have hj0 : (0 : Int) ≤ (j : Int) := by omega
          have hji : (j : Int) < (i : Int) := by omega
          cases hlap : lapB c o
          · have hlap := Lib.hid hlap
            go_wp2_with (go_at_call 19; refine (implDoOverlap_calls c o false hlap.out _).mono ?_; rintro e w3 ⟨rfl, hb3⟩)
            go_roundw
            case rel =>
              refine ⟨j + 1, by omega, by go_num, (Hb2.out.trans ((below_trans' (below_alloc (Below.refl _ _) _) hb3).mono (by have := Hb2.out.size; simp at this; omega))), ?_⟩
              show _ = true
              rw [all_range_succ, HP.out, Ho.out, Hc.out, hlap.out]; rfl
            case measure => simp [intOf]; omega
          · have hlap := Lib.hid hlap
            have e1 : b = false := by rw [← HV.out, oneHist, oneB_false (i := i) (by rw [Hn.out]; exact hlt) hjlt (by rw [Ho.out, Hc.out]; exact hlap.out)]; rfl
            subst e1
            go_wp2_with (go_at_call 19; refine (implDoOverlap_calls c o true hlap.out _).mono ?_; rintro e w3 ⟨rfl, hb3⟩)
            go_ret
            have hbw2 := Hbw2.out
            exact ⟨rfl, (by repeat (first | exact Below.refl _ _ | assumption | refine below_alloc ?_ _ | refine below_trans' ?_ (by assumption) | refine Below.drew ?_))⟩
        · have hji : j = i := by omega
          subst hji
          have hlt' : ¬ ((j : Int) < (j : Int)) := by omega
          go_wp2
          go_roundw
          case rel =>
            refine ⟨j + 1, by omega, by go_num, hbw2, ?_⟩
            show _ = true
            rw [all_range_succ, HG.out, show rowO cs j = true from HP.out]; rfl
          case measure => simp [intOf]; omega
    · have e1 : histB cs = b := by rw [← HV.out, oneHist, show oneB cs = true by rw [oneB, Hn.out, show n = i by omega]; exact HG.out]; rfl
      have H1 := Lib.hid e1
      clear e1
      have hge : ¬ ((i : Int) < (n : Int)) := by omega
      go_wp2_with fail
      refine (HC.out _ _ (HR.out.below hb)).mono ?_
      rintro e w3 ⟨rfl, hb3⟩
      go_wp2_with fail
      go_ret
      exact ⟨by first | rfl | (rw [H1.out]; rfl), (by repeat (first | exact Below.refl _ _ | assumption | refine below_alloc ?_ _ | refine below_trans' ?_ (by assumption) | refine Below.drew ?_))⟩

set_option maxHeartbeats 2000000 in
theorem specOne_calls (cs : List CallD) (A : Option Addr) (cap : Nat) (w : World) (hr : RowCalls w A cs) (hl : cs.length ≤ 1048576) (b : Bool) (hb : oneB cs = b) :
    Calls Try.prog 45 #[.slice A cs.length cap] w fun e w' => e = .returned (.bool b) ∧ Below w.heap.size w w' := by
  have HR := Lib.hid hr
  have HV := Lib.hid hb
  clear hr hb
  generalize hn : cs.length = n at *
  have Hn := Lib.hid hn
  clear hn
  have hlen : (n : Int) ≤ 1048576 := by omega
  go_enter Try.func45, Try.ntmps45
  go_wp2
  go_loopw [3] (fun i wr => ∃ k : Nat, k ≤ n ∧ i = .int .i64 k ∧ Below w.heap.size w wr ∧ Hid ((List.range k).all (rowO cs) = true)) (fun i _ => n - (intOf i).toNat)
  case atStart => exact ⟨0, by omega, rfl, Below.refl _ _, rfl⟩
  case round =>
    obtain ⟨i, hi, rfl, hb, HG⟩ := hrel
    obtain ⟨wo, rfl⟩ : ∃ wo : World, wo = wr := ⟨_, rfl⟩
    by_cases hlt : i < n
    · have Hb := Lib.hid hb
      clear hb
      have hi0 : (0 : Int) ≤ (i : Int) := by omega
      have hin : (i : Int) < (n : Int) := by omega
      go_wp2
      go_loopw [4] (fun j wq => ∃ k : Nat, k ≤ i ∧ j = .int .i64 k ∧ Below w.heap.size w wq ∧ Hid ((List.range k).all (fun k => !lapB (hAt cs i) (hAt cs k)) = true)) (fun j _ => i - (intOf j).toNat)
      case atStart => exact ⟨0, by omega, rfl, Hb.out, rfl⟩
      case round =>
        obtain ⟨j, hj, rfl, hb2, HP⟩ := hrel
        by_cases hjlt : j < i
        · obtain ⟨b0, off, rfl, hat⟩ := HR.out (by have := Hn.out; omega)
          obtain ⟨c, hc⟩ : ∃ c, cs[i]? = some c := ⟨cs[i]'(by have := Hn.out; omega), List.getElem?_eq_getElem _⟩
          obtain ⟨o, ho⟩ : ∃ o, cs[j]? = some o := ⟨cs[j]'(by have := Hn.out; omega), List.getElem?_eq_getElem _⟩
          obtain ⟨x0, x1, x2, x3, x4, x5, x6⟩ := (RowCalls.at7 hat hc).below hb2
          obtain ⟨y0, y1, y2, y3, y4, y5, y6⟩ := (RowCalls.at7 hat ho).below hb2
          have hbz : b0 < wr.heap.size := World.block_lt_of_cell? _ _ x0
          have Hc := Lib.hid (hAt_eq hc)
          have Ho := Lib.hid (hAt_eq ho)
          have Hb2 := Lib.hid hb2
          clear hc ho hb2 HR hat
          have hj0 : (0 : Int) ≤ (j : Int) := by omega
          have hjn : (j : Int) < (n : Int) := by omega
          have hji : (j : Int) < (i : Int) := by omega
          cases h1 : befB o c
          · cases h2 : befB c o
            · have h1 := Lib.hid h1
              have h2 := Lib.hid h2
              have e1 : b = false := by rw [← HV.out, oneB_false (i := i) (by rw [Hn.out]; exact hlt) hjlt (by rw [Ho.out, Hc.out, lapB, h1.out, h2.out]; rfl)]
              subst e1
              go_wp2_with fail
              refine wp_region_grow (by kernel_rfl) (by kernel_rfl) ?_
              repeat (go_big_quiet_step ((first | (go_at_call 39; exact Calls.ext_of (Nat.le_refl _) (before_calls o c false h1.out _)) | (go_at_call 39; exact Calls.ext_of (Nat.le_refl _) (before_calls c o false h2.out _)))))
              refine wpQuiet_end ?_
              intro w3 hb3
              go_wp2_with fail
              go_ret
              have hb2 := Hb2.out
              exact ⟨rfl, (by repeat (first | exact Below.refl _ _ | assumption | refine below_alloc ?_ _ | refine below_trans' ?_ (by assumption) | refine Below.drew ?_))⟩
            · have h1 := Lib.hid h1
              have h2 := Lib.hid h2
              go_wp2_with fail
              refine wp_region_grow (by kernel_rfl) (by kernel_rfl) ?_
              repeat (go_big_quiet_step ((first | (go_at_call 39; exact Calls.ext_of (Nat.le_refl _) (before_calls o c false h1.out _)) | (go_at_call 39; exact Calls.ext_of (Nat.le_refl _) (before_calls c o true h2.out _)))))
              refine wpQuiet_end ?_
              intro w3 hb3
              go_wp2_with fail
              go_roundw
              case rel =>
                have hb2 := Hb2.out
                refine ⟨j + 1, by omega, by go_num, (by repeat (first | exact Below.refl _ _ | assumption | refine below_alloc ?_ _ | refine below_trans' ?_ (by assumption) | refine Below.drew ?_)), ?_⟩
                show _ = true
                rw [all_range_succ, HP.out, Ho.out, Hc.out, lapB, h2.out]; rfl
              case measure => simp [intOf]; omega
          · have h1 := Lib.hid h1
            go_wp2_with fail
            refine wp_region_grow (by kernel_rfl) (by kernel_rfl) ?_
            repeat (go_big_quiet_step ((go_at_call 39; exact Calls.ext_of (Nat.le_refl _) (before_calls o c true h1.out _))))
            refine wpQuiet_end ?_
            intro w3 hb3
            go_wp2_with fail
            go_roundw
            case rel =>
              have hb2 := Hb2.out
              refine ⟨j + 1, by omega, by go_num, (by repeat (first | exact Below.refl _ _ | assumption | refine below_alloc ?_ _ | refine below_trans' ?_ (by assumption) | refine Below.drew ?_)), ?_⟩
              show _ = true
              rw [all_range_succ, HP.out, Ho.out, Hc.out, lapB, h1.out, Bool.not_true, Bool.and_false]; rfl
            case measure => simp [intOf]; omega
        · have hji : j = i := by omega
          subst hji
          have hlt' : ¬ ((j : Int) < (j : Int)) := by omega
          go_wp2
          go_roundw
          case rel =>
            refine ⟨j + 1, by omega, by go_num, hb2, ?_⟩
            show _ = true
            rw [all_range_succ, HG.out, show rowO cs j = true from HP.out]; rfl
          case measure => simp [intOf]; omega
    · have hin : i = n := by omega
      subst hin
      have hlt' : ¬ ((i : Int) < (i : Int)) := by omega
      have e1 : b = true := by rw [← HV.out, oneB, Hn.out]; exact HG.out
      subst e1
      go_wp2
      go_ret
      exact ⟨rfl, hb⟩

theorem specIsOneByOne_calls (cs : List CallD) (A : Option Addr) (cap : Nat) (w : World) (hr : RowCalls w A cs) (hl : cs.length ≤ 1048576) (b : Bool) (hb : oneHist cs = b) :
    Calls Try.prog 27 #[.slice A cs.length cap] w fun e w' => e = .returned (.bool b) ∧ Below w.heap.size w w' := by
  have HR := Lib.hid hr
  clear hr
  cases h1 : histB cs
  · have e1 : b = false := by rw [← hb, oneHist, h1, Bool.and_false]
    subst e1
    have h1 := Lib.hid h1
    clear hb
    go_enter Try.func27, Try.ntmps27
    go_wp2_with (go_at_call 42; refine (specValid_calls cs A cap _ HR.out hl false h1.out).mono ?_; rintro e w1 ⟨rfl, hb1⟩)
    go_ret
    exact ⟨rfl, hb1⟩
  · have e1 : oneB cs = b := by rw [← hb, oneHist, h1, Bool.and_true]
    have h1 := Lib.hid h1
    have e1 := Lib.hid e1
    clear hb
    go_enter Try.func27, Try.ntmps27
    go_wp2_with (go_at_call 42; refine (specValid_calls cs A cap _ HR.out hl true h1.out).mono ?_; rintro e w1 ⟨rfl, hb1⟩)
    refine (specOne_calls cs A cap _ (HR.out.below hb1) hl b e1.out).mono ?_
    rintro e w2 ⟨rfl, hb2⟩
    go_wp2_with fail
    go_ret
    exact ⟨rfl, (by repeat (first | exact Below.refl _ _ | assumption | refine below_alloc ?_ _ | refine below_trans' ?_ (by assumption) | refine Below.drew ?_))⟩
end Go.Proofs.Ytooojfdjpmfalaa
