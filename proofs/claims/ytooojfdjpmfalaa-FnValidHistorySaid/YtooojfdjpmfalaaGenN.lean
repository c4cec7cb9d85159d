/-
  A name that the reader of a draw picks: some text; the reader has moved by one. Asked: at most a million picks.
-/
import Derived.Test.YtooojfdjpmfalaaRdr2
namespace Go.Proofs.Ytooojfdjpmfalaa
open Go.RowKit
set_option maxRecDepth 100000

def OfPost (w w' : World) (g p : Nat) (L : List Value) (e : Ending) : Prop := ∃ v : Value, v ∈ L ∧ e = .returned v ∧ Rdr w' g (p + 1) ∧ w.grownBy w' (some g)
set_option maxHeartbeats 1000000 in
theorem of_calls (g p b : Nat) (L : List Value) (n : Nat) (w : World) (h : Rdr w g p) (hp : p ≤ 1000000) (hb : w.heap[b]? = some (.cells L.toArray 9 (0, 0))) (hn : L.length = n) (hne : b ≠ g) (h1 : 1 ≤ n) (h2 : n ≤ 1000000) (hs : ∀ v ∈ L, ∃ s, v = .string s) :
    Calls Try.prog 59 #[.pointer (some ⟨g, 0, none⟩), .slice (some ⟨b, 0, none⟩) n n] w fun e w' => OfPost w w' g p L e := by
  have HB := Lib.hid hb
  have HH := Lib.hid h
  have HN := Lib.hid hn
  have HS := Lib.hid hs
  clear hb h hn hs
  have h1' : (1 : Int) ≤ (n : Int) := by omega
  have h2' : (n : Int) ≤ 1000000 := by omega
  go_enter Try.func59, Try.ntmps59
  go_wp2_with fail
  refine (pick_calls g p n _ HH.out hp h1 h2).mono ?_
  intro e w1 hpk
  obtain ⟨x, hx, rfl, hr, hg⟩ := hpk
  have hget : L[x]? = some (L[x]'(by have := HN.out; omega)) := List.getElem?_eq_getElem _
  have hc : w1.cell? ⟨b, x, none⟩ = some (L[x]'(by have := HN.out; omega)) := by
    refine hg.cell (a := ⟨b, x, none⟩) ?_ (fun e => by injection e with e; exact hne e)
    rw [cell_of_row w b x _ _ _ HB.out]
    simp [hget]
  have hmem := List.mem_of_getElem? hget
  generalize (L[x]'(by have := HN.out; omega)) = y at *
  obtain ⟨s, rfl⟩ := HS.out y hmem
  have HM := Lib.hid hmem
  have HR := Lib.hid hr
  have HG := Lib.hid hg
  clear hmem hr hg hget
  have hx0 : (0 : Int) ≤ (x : Int) := by omega
  have hxn : (x : Int) < (n : Int) := by omega
  go_wp2_with fail
  go_ret
  exact ⟨_, HM.out, rfl, HR.out, HG.out⟩
end Go.Proofs.Ytooojfdjpmfalaa
