/-
  The marked cuts, of the program and of the reference, in memory of their own: the same list. No condition but lengths of at most 2 to the 20.
-/
import Derived.Test.YtmeehfiekhdbkaaDel
import Derived.Test.YtmeehfiekhdbkaaCuts2
import Derived.Test.YtmeehfiekhdbkaaWaysOf
namespace Go.Proofs.Ytmeehfiekhdbkaa
open Go.RowKit
set_option maxRecDepth 100000

def mkP (cs : List EventD) (m : Nat) (c : Int) : Bool := markB cs m c.toNat
def markedL (cs : List EventD) (x : Int) : List Int := if evB cs && inB x 0 (2 ^ cs.length - 1) then (cutsTo cs cs.length (2 ^ cs.length)).filter (mkP cs x.toNat) else []
theorem markedL_len (cs : List EventD) (x : Int) : (markedL cs x).length ≤ 1048576 := by
  unfold markedL
  split
  · next h =>
    simp only [Bool.and_eq_true] at h
    have h7 := evB_len h.1
    have h1 := cutsTo_len cs cs.length (2 ^ cs.length)
    have h2 : 2 ^ cs.length ≤ 2 ^ 7 := Nat.pow_le_pow_right (by omega) h7
    have h3 := List.length_filter_le (mkP cs x.toNat) (cutsTo cs cs.length (2 ^ cs.length))
    omega
  · simp

theorem callFunc_marked (args : Array Value) (W : World) : (callFunc 32 args).run Try.prog W = .ok (.enter 32 args) W := by kernel_rfl
theorem clo_marked (cs : List EventD) (A : Option Addr) (cap g h m S : Nat) (w : World) (hr : RowEvents w A cs) (hg : w.cell? ⟨g, 0, none⟩ = some (.slice A cs.length cap)) (hh : w.cell? ⟨h, 0, none⟩ = some (.int .i64 m)) (hl : cs.length ≤ 20) (hS : S < 2 ^ 20) (hm : m < 2 ^ 20) :
    Calls Try.prog 32 #[.int .i64 S, .pointer (some ⟨g, 0, none⟩), .pointer (some ⟨h, 0, none⟩)] w fun e w' => e = .returned (.bool (!markB cs m S)) ∧ Below w.heap.size w w' := by
  have HC := Lib.hid (isMarked_calls cs S m A cap w hr hl hS hm _ rfl)
  have hgz : g < w.heap.size := World.block_lt_of_cell? _ _ hg
  have hhz : h < w.heap.size := World.block_lt_of_cell? _ _ hh
  clear hr hl hS hm
  generalize markB cs m S = q at *
  generalize cs.length = n at *
  go_enter Try.func32, Try.ntmps32
  go_wp2_with (go_at_call 33; with_reducible refine (HC.out).mono ?_; rintro e w1 ⟨rfl, hb1⟩)
  go_ret
  exact ⟨rfl, hb1⟩

/-- A row of the call's own as a block of numbers and what stands behind them. -/
theorem own_row {w : World} {base n : Nat} {v : Value} {L : List Int} (h : w.ownsRow base 3 1 v n (L.flatMap intVals)) (hn : L.length = n) : (v = .slice none 0 0 ∧ L = []) ∨ ∃ g c R, v = .slice (some ⟨g, 0, none⟩) n c ∧ base ≤ g ∧ RowB w g L R ∧ c = L.length + R.length ∧ c ≤ maxLen := by
  rcases h.2 with ⟨h0, h1⟩ | ⟨g, cap, cur, hv, hb, hg, hc, hm, hs, ht⟩
  · exact .inl ⟨h0, List.length_eq_zero_iff.1 (by omega)⟩
  · refine .inr ⟨g, cap, cur.toList.drop n, hv, hb, ?_, ?_, hm⟩
    · unfold RowB
      rw [hg]
      rw [flat_intsB, Nat.mul_one] at ht
      congr 2
      apply Array.ext'
      show cur.toList = _
      rw [← ht, List.take_append_drop]
    · simp; omega

set_option maxHeartbeats 2000000 in
theorem implMarkedCuts_calls (cs : List EventD) (A : Option Addr) (cap : Nat) (x : Int) (w : World) (hr : RowEvents w A cs) (hl : cs.length ≤ 1048576) (hcap : cs.length ≤ cap) :
    Calls Try.prog 10 #[.slice A cs.length cap, .int .i64 x] w fun e w' => ∃ v, e = .returned v ∧ OwnInts w' w.heap.size v (markedL cs x) ∧ Below w.heap.size w w' := by
  have HR := Lib.hid hr
  clear hr
  cases hv : (evB cs && inB x 0 (2 ^ cs.length - 1))
  · have HV := Lib.hid hv
    have E1 := Lib.hid (show markedL cs x = [] by simp [markedL, hv])
    clear hv
    go_enter Try.func10, Try.ntmps10
    go_wp2_with (go_at_call 29; refine (isSet_calls cs x A cap _ (HR.out.below (below_alloc (below_alloc (Below.refl _ _) _) _)) hl hcap false HV.out).mono ?_; rintro e w1 ⟨rfl, hb1⟩)
    go_ret
    exact ⟨_, rfl, by unfold OwnInts; rw [E1.out]; exact World.ownsRow_nil _ _ _ _, (by repeat (first | exact Below.refl _ _ | assumption | refine below_alloc ?_ _ | refine below_trans' ?_ (by assumption) | refine Below.drew ?_))⟩
  · have HV := Lib.hid hv
    have E1 := Lib.hid (show markedL cs x = (cutsTo cs cs.length (2 ^ cs.length)).filter (mkP cs x.toNat) by simp [markedL, hv])
    simp only [Bool.and_eq_true] at hv
    have h7 := evB_len hv.1
    have HCO := Lib.hid (show cutsOfL cs = cutsTo cs cs.length (2 ^ cs.length) by simp [cutsOfL, hv.1])
    obtain ⟨m, rfl, hs⟩ := inB_two hv.2
    rw [Int.toNat_natCast] at E1
    have hp : 2 ^ cs.length ≤ 2 ^ 20 := Nat.pow_le_pow_right (by omega) (by omega)
    have hm : m < 2 ^ 20 := by omega
    have Hp := Lib.hid hp
    clear hv hs hp
    go_enter Try.func10, Try.ntmps10
    go_wp2_with fail
    refine (isSet_calls cs m A cap _ (HR.out.below (below_alloc (below_alloc (Below.refl _ _) _) _)) hl hcap true HV.out).mono ?_
    rintro e w1 ⟨rfl, hb1⟩
    obtain ⟨hc1, _⟩ := bcell hb1
    have hl0 : w.heap.size + 1 < w1.heap.size := by have := hb1.size; simp at this; omega
    have hcel1 : (w.alloc (.cells #[.slice A cs.length cap] 26)).cell? ⟨w.heap.size, 0, none⟩ = some (.slice A cs.length cap) := by simp
    have hcell := cell_below hb1 (cell_below (below_alloc (Below.refl _ _) (.cells #[.int .i64 m] 3)) hcel1)
    have hcel2 : w1.cell? ⟨w.heap.size + 1, 0, none⟩ = some (.int .i64 m) := by
      rw [hc1 _ _ (by simp)]
      have e : w.heap.size + 1 = (w.alloc (.cells #[.slice A cs.length cap] 26)).heap.size := by simp
      rw [e, World.cell?_alloc_new]; rfl
    have hbw1 : Below w.heap.size w w1 := (by repeat (first | exact Below.refl _ _ | assumption | refine below_alloc ?_ _ | refine below_trans' ?_ (by assumption) | refine Below.drew ?_))
    clear hc1 hcel1 hb1
    go_wp2_with fail
    refine (implCutsOf_calls cs A cap _ (HR.out.below hbw1) hl hcap).mono ?_
    rintro e w2 ⟨v, rfl, ho, hb2⟩
    unfold OwnInts at ho
    rw [HCO.out] at ho
    have hbw2 := below_trans' hbw1 hb2
    have hc1' := cell_below hb2 hcell
    have hc2' := cell_below hb2 hcel2
    have hz2 := hb2.size
    clear hcell hcel2
    rcases own_row ho rfl with ⟨rfl, hnil⟩ | ⟨g, c, R, rfl, hbg, hrow, hcl, hcm⟩
    · exfalso
      have h0 : (0 : Int) ∈ cutsTo cs cs.length (2 ^ cs.length) := cutsTo_mem.2 ⟨0, Nat.two_pow_pos _, cutB_head cs cs.length 0, rfl⟩
      rw [hnil] at h0
      simp at h0
    · have hA : Asks (fun W => Below w.heap.size w W ∧ W.cell? ⟨w.heap.size, 0, none⟩ = some (.slice A cs.length cap) ∧ W.cell? ⟨w.heap.size + 1, 0, none⟩ = some (.int .i64 m)) 32 #[.pointer (some ⟨w.heap.size, 0, none⟩), .pointer (some ⟨w.heap.size + 1, 0, none⟩)] (mkP cs m) (cutsTo cs cs.length (2 ^ cs.length)) g := by
        refine ⟨fun _ _ => callFunc_marked _ _, ?_, ?_, ?_⟩
        · rintro W y ⟨q1, q2, q3⟩ hy
          obtain ⟨S, hS, _, rfl⟩ := cutsTo_mem.1 hy
          have h := clo_marked cs A cap w.heap.size (w.heap.size + 1) m S W (HR.out.below q1) q2 q3 (by omega) (by have := Hp.out; omega) hm
          rw [mkP, Int.toNat_natCast]
          exact h
        · rintro W W' ⟨q1, q2, q3⟩ hb
          exact ⟨below_trans' q1 hb, cell_below hb q2, cell_below hb q3⟩
        · rintro W i v ⟨q1, q2, q3⟩
          have n1 : g ≠ w.heap.size := by omega
          have n2 : g ≠ w.heap.size + 1 := by omega
          refine ⟨q1.setCell (by show w.heap.size ≤ g; omega) _, ?_, ?_⟩
          · rw [← q2]; simp [World.cell?, World.setCell, Array.getElem?_modify, n1]
          · rw [← q3]; simp [World.cell?, World.setCell, Array.getElem?_modify, n2]
      have hll := cutsTo_len cs cs.length (2 ^ cs.length)
      have HDC := Lib.hid (delete_calls _ _ _ (mkP cs m) (cutsTo cs cs.length (2 ^ cs.length)) R w1.heap.size g _ c w2 hA hrow ⟨hbw2, hc1', hc2'⟩ rfl (by have := Hp.out; omega) hcl hcm hbg)
      have hl1 : w1.heap.size ≤ w2.heap.size := hz2
      clear hA hrow ho hll hcl hcm
      go_wp2_with fail
      refine HDC.out.mono ?_
      rintro e w3 ⟨v', rfl, ho', hG⟩
      have HO := Lib.hid ho'
      have HGG := Lib.hid hG.1
      clear ho' hG HDC
      go_wp2_with fail
      go_ret
      exact ⟨v', rfl, by unfold OwnInts; rw [E1.out]; exact own_base HO.out (by omega), HGG.out⟩
end Go.Proofs.Ytmeehfiekhdbkaa
