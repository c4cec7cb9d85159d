/-
  Making a reader of bytes, and one of some numbers that are picked. Asked: at most a million picks.
-/
import Derived.Test.YtooojfdjpmfalaaRdr
namespace Go.Proofs.Ytooojfdjpmfalaa
open Go.RowKit
set_option maxRecDepth 100000

def OnePost (w w' : World) (g p : Nat) (L : List Int) (e : Ending) : Prop := ∃ x : Int, x ∈ L ∧ e = .returned (.int .i64 x) ∧ Rdr w' g (p + 1) ∧ w.grownBy w' (some g)
set_option maxHeartbeats 1000000 in
theorem one_calls (g p b : Nat) (L : List Int) (n : Nat) (w : World) (h : Rdr w g p) (hp : p ≤ 1000000) (hb : w.heap[b]? = some (.cells (L.map (Value.int .i64)).toArray 3 (0, 0))) (hn : L.length = n) (hne : b ≠ g) (h1 : 1 ≤ n) (h2 : n ≤ 1000000) :
    Calls Try.prog 50 #[.pointer (some ⟨g, 0, none⟩), .slice (some ⟨b, 0, none⟩) n n] w fun e w' => OnePost w w' g p L e := by
  have HB := Lib.hid hb
  have HH := Lib.hid h
  have HN := Lib.hid hn
  clear hb h hn
  have h1' : (1 : Int) ≤ (n : Int) := by omega
  have h2' : (n : Int) ≤ 1000000 := by omega
  go_enter Try.func50, Try.ntmps50
  go_wp2_with fail
  refine (pick_calls g p n _ HH.out hp h1 h2).mono ?_
  intro e w1 hpk
  obtain ⟨x, hx, rfl, hr, hg⟩ := hpk
  have hget : L[x]? = some (L[x]'(by have := HN.out; omega)) := List.getElem?_eq_getElem _
  have hc : w1.cell? ⟨b, x, none⟩ = some (.int .i64 (L[x]'(by have := HN.out; omega))) := by
    refine hg.cell (a := ⟨b, x, none⟩) ?_ (fun e => by injection e with e; exact hne e)
    rw [cell_of_row w b x _ _ _ HB.out]
    simp [hget]
  have hmem := List.mem_of_getElem? hget
  generalize (L[x]'(by have := HN.out; omega)) = y at *
  have HM := Lib.hid hmem
  have HR := Lib.hid hr
  have HG := Lib.hid hg
  clear hmem hr hg hget
  have hx0 : (0 : Int) ≤ (x : Int) := by omega
  have hxn : (x : Int) < (n : Int) := by omega
  go_wp2_with fail
  go_ret
  exact ⟨y, HM.out, rfl, HR.out, HG.out⟩

theorem newReader_calls (bs : List Int) (A : Option Addr) (n c : Nat) (w : World) (hr : RowOf byteVals 1 w A bs) (hb : ∀ b ∈ bs, isByte b) (hn : bs.length = n) (hc : n ≤ c) (hm : c ≤ maxLen) :
    Calls Try.prog 40 #[.slice A n c] w fun e w' => e = .returned (.pointer (some ⟨w.heap.size, 0, none⟩)) ∧ Rdr w' w.heap.size 0 ∧ Below w.heap.size w w' := by
  unfold maxLen at hm
  have hx : 0 < bs.length → ∀ x, A = some x → x.block < w.heap.size := by
    intro h0 x ex
    obtain ⟨b, off, e, hat⟩ := hr h0
    have hc := hat 0 _ (List.getElem?_eq_getElem h0) 0 _ rfl
    have := World.block_lt_of_cell? _ _ hc
    rw [ex] at e
    cases e
    exact this
  have hmk : ∀ (B : Option Addr) (k : Nat) (cs : List Int), cs.length = k → k ≤ 2000 → k ≤ c → RowOf byteVals 1 w B cs → (∀ b ∈ cs, isByte b) → (0 < cs.length → ∀ x, B = some x → x.block < w.heap.size) → Rdr (w.alloc (.cells #[.slice B k c, .int .i64 0] 55)) w.heap.size 0 := by
    intro B k cs h1 h2 h3 h4 h5 h6
    exact ⟨B, k, c, cs, heap_alloc_new w _, h1, h2, h3, h4.below (below_alloc (Below.refl _ _) _), h5, h6⟩
  have HMK := Lib.hid hmk
  have HR := Lib.hid hr
  have HB := Lib.hid hb
  have HN := Lib.hid hn
  have HX := Lib.hid hx
  clear hr hb hn hx hmk
  have hn0 : (0 : Int) ≤ (n : Int) := by omega
  have hnc : (n : Int) ≤ (c : Int) := by omega
  have hcm : (c : Int) ≤ 9223372036854775807 := by omega
  by_cases hbig : 2000 < n
  · have hI : (2000 : Int) < (n : Int) := by omega
    have hI2 : (2000 : Int) ≤ (c : Int) := by omega
    have h20 : 2000 ≤ c := by omega
    have hR2 : Rdr (w.alloc (.cells #[.slice A 2000 c, .int .i64 0] 55)) w.heap.size 0 := by
      refine HMK.out A 2000 (bs.take 2000) (by rw [List.length_take]; have := HN.out; omega) (by omega) h20 (HR.out.take _) (fun b hb => HB.out b (List.mem_of_mem_take hb)) (fun _ => HX.out (by have := HN.out; omega))
    have HR2 := Lib.hid hR2
    clear hR2
    go_enter Try.func40, Try.ntmps40
    go_wp2_with fail
    go_ret
    exact ⟨rfl, HR2.out, (by repeat (first | exact Below.refl _ _ | assumption | refine below_alloc ?_ _ | refine below_trans' ?_ (by assumption) | refine Below.drew ?_))⟩
  · have hI : ¬ ((2000 : Int) < (n : Int)) := by omega
    have hR2 : Rdr (w.alloc (.cells #[.slice A n c, .int .i64 0] 55)) w.heap.size 0 := HMK.out A n bs HN.out (by omega) hc HR.out HB.out HX.out
    have HR2 := Lib.hid hR2
    clear hR2
    go_enter Try.func40, Try.ntmps40
    go_wp2_with fail
    go_ret
    exact ⟨rfl, HR2.out, (by repeat (first | exact Below.refl _ _ | assumption | refine below_alloc ?_ _ | refine below_trans' ?_ (by assumption) | refine Below.drew ?_))⟩
end Go.Proofs.Ytooojfdjpmfalaa
