/-
  The walks of the laws that no call is before one that is before it, and that calls overlap both ways: each returns true. No condition.
-/
import Derived.Test.YtooojfdjpmfalaaDrawBef
import Derived.Test.YtooojfdjpmfalaaSmall2
namespace Go.Proofs.Ytooojfdjpmfalaa
open Go.RowKit
set_option maxRecDepth 100000

set_option maxHeartbeats 2000000 in
theorem walk_FnIsBefore (bs : List Int) (A : Option Addr) (cap : Nat) (w : World) (hlc : bs.length ≤ cap) (hcm : cap ≤ maxLen) (hr : RowOf byteVals 1 w A bs) (hg : ∀ d ∈ bs, isByte d) (_hn : A = none → bs.length = 0 ∧ cap = 0) :
    Calls Try.prog 6 #[.slice A bs.length cap] w fun e w' => e = .returned (.bool true) ∧ Below w.heap.size w w' := by
  have hM := hcm
  unfold maxLen at hM
  have HD := Lib.hid (fun (W : World) (hW : RowOf byteVals 1 W A bs) => IsBeforeDraw_calls bs A cap W hW hg hlc hcm)
  have HR := Lib.hid hr
  clear hr hg _hn
  generalize bs.length = n at *
  by_cases hbig : 1048576 < n
  · have hI : (1048576 : Int) < (n : Int) := by omega
    go_enter Try.func6, Try.ntmps6
    go_wp2_with fail
    go_ret
    exact ⟨rfl, Below.refl _ _⟩
  have hI : ¬ ((1048576 : Int) < (n : Int)) := by omega
  go_enter Try.func6, Try.ntmps6
  go_wp2_with fail
  refine (HD.out _ HR.out).mono ?_
  intro e w1 hd
  obtain ⟨x1, y1, x2, y2, hx1, hy1, hx2, hy2, rfl, hb1⟩ := hd
  obtain ⟨c1, hc1⟩ : ∃ c, callFT x1 y1 = c := ⟨_, rfl⟩
  obtain ⟨c2, hc2⟩ : ∃ c, callFT x2 y2 = c := ⟨_, rfl⟩
  have o1 : c1.fr ≤ c1.till := by rw [← hc1]; simp only [callFT]; omega
  have o2 : c2.fr ≤ c2.till := by rw [← hc2]; simp only [callFT]; omega
  rw [hc1, hc2]
  clear hc1 hc2
  have hs1 := hb1.size
  have Hb1 := Lib.hid hb1
  clear hb1
  cases hb : befB c1 c2
  · have H := Lib.hid hb
    have hlt : ¬ (c1.till < c2.fr) := by simpa [befB] using hb
    have hlt2 : decide (c1.till < c2.fr) = false := by simpa [befB] using hb
    clear hb
    go_wp2_with fail
    refine (implIsBefore_calls c1 c2 false H.out _).mono ?_
    rintro e w2 ⟨rfl, hb2⟩
    obtain ⟨hc2, _⟩ := bcell hb2
    have hs2 := hb2.size
    simp only [World.size_alloc] at hs2
    have l0 : w1.heap.size < w2.heap.size := by omega
    have l1 : w1.heap.size + 1 < w2.heap.size := by omega
    go_wp2_with fail
    refine (specIsBefore_calls c1 c2 false H.out _).mono ?_
    rintro e w3 ⟨rfl, hb3⟩
    obtain ⟨hc3, _⟩ := bcell hb3
    have hs3 := hb3.size
    go_wp2_with fail
    go_ret
    have hb1 := Hb1.out
    exact ⟨rfl, (by repeat (first | exact Below.refl _ _ | assumption | refine below_alloc ?_ _ | refine below_trans' ?_ (by assumption) | refine Below.drew ?_))⟩
  · have H := Lib.hid hb
    have hlt : c1.till < c2.fr := by simpa [befB] using hb
    have hlt2 : decide (c1.till < c2.fr) = true := by simpa [befB] using hb
    have H2 := Lib.hid (show befB c2 c1 = false by simp [befB]; omega)
    clear hb
    go_wp2_with fail
    refine (implIsBefore_calls c1 c2 true H.out _).mono ?_
    rintro e w2 ⟨rfl, hb2⟩
    obtain ⟨hc2, _⟩ := bcell hb2
    have hs2 := hb2.size
    simp only [World.size_alloc] at hs2
    have l0 : w1.heap.size < w2.heap.size := by omega
    have l1 : w1.heap.size + 1 < w2.heap.size := by omega
    go_wp2_with fail
    refine (specIsBefore_calls c1 c2 true H.out _).mono ?_
    rintro e w3 ⟨rfl, hb3⟩
    obtain ⟨hc3, _⟩ := bcell hb3
    have hs3 := hb3.size
    have l2 : w1.heap.size < w3.heap.size := by omega
    have l3 : w1.heap.size + 1 < w3.heap.size := by omega
    go_wp2_with fail
    refine (implIsBefore_calls c2 c1 false H2.out _).mono ?_
    rintro e w4 ⟨rfl, hb4⟩
    go_wp2_with fail
    go_ret
    have hb1 := Hb1.out
    exact ⟨rfl, (by repeat (first | exact Below.refl _ _ | assumption | refine below_alloc ?_ _ | refine below_trans' ?_ (by assumption) | refine Below.drew ?_))⟩

set_option maxHeartbeats 2000000 in
theorem walk_FnDoOverlap (bs : List Int) (A : Option Addr) (cap : Nat) (w : World) (hlc : bs.length ≤ cap) (hcm : cap ≤ maxLen) (hr : RowOf byteVals 1 w A bs) (hg : ∀ d ∈ bs, isByte d) (_hn : A = none → bs.length = 0 ∧ cap = 0) :
    Calls Try.prog 7 #[.slice A bs.length cap] w fun e w' => e = .returned (.bool true) ∧ Below w.heap.size w w' := by
  have hM := hcm
  unfold maxLen at hM
  have HD := Lib.hid (fun (W : World) (hW : RowOf byteVals 1 W A bs) => DoOverlapDraw_calls bs A cap W hW hg hlc hcm)
  have HR := Lib.hid hr
  clear hr hg _hn
  generalize bs.length = n at *
  by_cases hbig : 1048576 < n
  · have hI : (1048576 : Int) < (n : Int) := by omega
    go_enter Try.func7, Try.ntmps7
    go_wp2_with fail
    go_ret
    exact ⟨rfl, Below.refl _ _⟩
  have hI : ¬ ((1048576 : Int) < (n : Int)) := by omega
  go_enter Try.func7, Try.ntmps7
  go_wp2_with fail
  refine (HD.out _ HR.out).mono ?_
  intro e w1 hd
  obtain ⟨x1, y1, x2, y2, hx1, hy1, hx2, hy2, rfl, hb1⟩ := hd
  obtain ⟨c1, hc1⟩ : ∃ c, callFT x1 y1 = c := ⟨_, rfl⟩
  obtain ⟨c2, hc2⟩ : ∃ c, callFT x2 y2 = c := ⟨_, rfl⟩
  have o1 : c1.fr ≤ c1.till := by rw [← hc1]; simp only [callFT]; omega
  rw [hc1, hc2]
  clear hc1 hc2
  have hs1 := hb1.size
  have Hb1 := Lib.hid hb1
  clear hb1
  obtain ⟨b, hb⟩ : ∃ b, lapB c1 c2 = b := ⟨_, rfl⟩
  have H := Lib.hid hb
  have H2 := Lib.hid (show lapB c2 c1 = b by rw [← hb]; simp only [lapB]; exact Bool.and_comm _ _)
  have H3 := Lib.hid (show lapB c1 c1 = true by
    have : befB c1 c1 = false := by simp [befB]; omega
    simp [lapB, this])
  clear hb
  cases b
  all_goals
    go_wp2_with fail
    refine (implDoOverlap_calls c1 c2 _ H.out _).mono ?_
    rintro e w2 ⟨rfl, hb2⟩
    obtain ⟨hc2, _⟩ := bcell hb2
    have hs2 := hb2.size
    simp only [World.size_alloc] at hs2
    have l0 : w1.heap.size < w2.heap.size := by omega
    have l1 : w1.heap.size + 1 < w2.heap.size := by omega
    go_wp2_with fail
    refine (specDoOverlap_calls c1 c2 _ H.out _).mono ?_
    rintro e w3 ⟨rfl, hb3⟩
    obtain ⟨hc3, _⟩ := bcell hb3
    have hs3 := hb3.size
    have l2 : w1.heap.size < w3.heap.size := by omega
    have l3 : w1.heap.size + 1 < w3.heap.size := by omega
    go_wp2_with fail
    refine (implDoOverlap_calls c2 c1 _ H2.out _).mono ?_
    rintro e w4 ⟨rfl, hb4⟩
    obtain ⟨hc4, _⟩ := bcell hb4
    have hs4 := hb4.size
    have l4 : w1.heap.size < w4.heap.size := by omega
    have l5 : w1.heap.size + 1 < w4.heap.size := by omega
    go_wp2_with fail
    refine (implDoOverlap_calls c1 c1 true H3.out _).mono ?_
    rintro e w5 ⟨rfl, hb5⟩
    go_wp2_with fail
    go_ret
    have hb1 := Hb1.out
    exact ⟨rfl, (by repeat (first | exact Below.refl _ _ | assumption | refine below_alloc ?_ _ | refine below_trans' ?_ (by assumption) | refine Below.drew ?_))⟩
end Go.Proofs.Ytooojfdjpmfalaa
