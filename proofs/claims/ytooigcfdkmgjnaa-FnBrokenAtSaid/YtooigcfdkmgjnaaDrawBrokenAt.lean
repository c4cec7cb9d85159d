/-
  The promise and the accesses that the generator draws for BrokenAt: at most ten accesses, in memory of the call's own. Asked: a slice of bytes.
-/
import Derived.Test.YtooigcfdkmgjnaaDrawAc
namespace Go.Proofs.Ytooigcfdkmgjnaa
open Go.RowKit
set_option maxRecDepth 100000

def StrPost (w w' : World) (g p : Nat) (e : Ending) : Prop := ∃ s : ByteArray, e = .returned (.string s) ∧ Rdr w' g (p + 1) ∧ w.grownBy w' (some g)
set_option maxHeartbeats 1000000 in
theorem of_calls (g p b : Nat) (L : List ByteArray) (n : Nat) (w : World) (h : Rdr w g p) (hp : p ≤ 1000000) (hb : w.heap[b]? = some (.cells (L.map Value.string).toArray 9 (0, 0))) (hn : L.length = n) (hne : b ≠ g) (h1 : 1 ≤ n) (h2 : n ≤ 1000000) :
    Calls Try.prog 55 #[.pointer (some ⟨g, 0, none⟩), .slice (some ⟨b, 0, none⟩) n n] w fun e w' => StrPost w w' g p e := by
  have HB := Lib.hid hb
  have HH := Lib.hid h
  have HN := Lib.hid hn
  clear hb h hn
  have h1' : (1 : Int) ≤ (n : Int) := by omega
  have h2' : (n : Int) ≤ 1000000 := by omega
  go_enter Try.func55, Try.ntmps55
  go_wp2_with fail
  refine (pick_calls g p n _ HH.out hp h1 h2).mono ?_
  intro e w1 hpk
  obtain ⟨x, hx, rfl, hr, hg⟩ := hpk
  have hget : L[x]? = some (L[x]'(by have := HN.out; omega)) := List.getElem?_eq_getElem _
  have hc : w1.cell? ⟨b, x, none⟩ = some (.string (L[x]'(by have := HN.out; omega))) := by
    refine hg.cell (a := ⟨b, x, none⟩) ?_ (fun e => by injection e with e; exact hne e)
    rw [cell_of_row w b x _ _ _ HB.out]
    simp [hget]
  generalize (L[x]'(by have := HN.out; omega)) = y at *
  have HR := Lib.hid hr
  have HG := Lib.hid hg
  clear hr hg hget
  have hx0 : (0 : Int) ≤ (x : Int) := by omega
  have hxn : (x : Int) < (n : Int) := by omega
  go_wp2_with fail
  go_ret
  exact ⟨y, rfl, HR.out, HG.out⟩

def DrewBr (w w' : World) (e : Ending) : Prop := ∃ (s : ByteArray) (v : Value) (cs : List AccessD), e = .returned (.tuple #[.string s, v]) ∧ OwnAccesss w' w.heap.size v cs ∧ cs.length ≤ 10 ∧ Below w.heap.size w w'
set_option maxHeartbeats 1000000 in
theorem drawBrokenAt_calls (bs : List Int) (A : Option Addr) (n c : Nat) (w : World) (hr : RowOf byteVals 1 w A bs) (hb : ∀ b ∈ bs, isByte b) (hn : bs.length = n) (hc : n ≤ c) (hm : c ≤ maxLen) :
    Calls Try.prog 32 #[.slice A n c] w fun e w' => DrewBr w w' e := by
  have HRd := Lib.hid (newReader_calls bs A n c w hr hb hn hc hm)
  clear hr hb hn
  go_enter Try.func32, Try.ntmps32
  go_wp2_with fail
  refine HRd.out.mono ?_
  rintro e w1 ⟨rfl, hr1, hb1⟩
  have hs1 := hb1.size
  go_wp2_with fail
  refine (of_calls w.heap.size 0 w1.heap.size [{ data := #[111, 119, 110] }, { data := #[115, 116, 101, 97, 100, 121] }, { data := #[114, 111, 119] }, { data := #[102, 111, 108, 108, 111, 119] }, { data := #[114, 111, 119] }, { data := #[102, 111, 108, 108, 111, 119] }, { data := #[] }] 7 _ (hr1.below (below_alloc (Below.refl _ _) _)) (by omega) (heap_alloc_new w1 _) rfl (by have := hr1.lt; omega) (by omega) (by omega)).mono ?_
  intro e w2 hd
  obtain ⟨s, rfl, hr2, hg2⟩ := hd
  have hb2 : Below w.heap.size w w2 := (below_alloc hb1 _).grown hg2 (by simp; omega) (fun k hk => by injection hk with hk; omega)
  have HB2 := Lib.hid hb2
  clear hr1 hb1 hg2 hb2
  go_wp2_with fail
  refine (someAccesses_calls w.heap.size 1 _ hr2 (by omega)).mono ?_
  intro e w3 hd
  have hd' := drew_ac HB2.out hd
  obtain ⟨v, cs, rfl, ho, hl, hbel⟩ := hd'
  have HO := Lib.hid ho
  have HB := Lib.hid hbel
  clear ho hd hbel hr2
  go_wp2_with fail
  go_ret2
  exact ⟨s, v, cs, rfl, HO.out, hl, HB.out⟩
end Go.Proofs.Ytooigcfdkmgjnaa
