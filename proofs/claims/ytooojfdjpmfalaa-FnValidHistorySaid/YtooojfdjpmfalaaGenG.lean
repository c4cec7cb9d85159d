/-
  The good history of a draw, given what its calls and its stretching leave: a row of at most six calls of the call's own. Asked: what these two leave.
-/
import Derived.Test.YtooojfdjpmfalaaGenD
namespace Go.Proofs.Ytooojfdjpmfalaa
open Go.RowKit
set_option maxRecDepth 100000

/-- What is asked of the calls that are right. -/
def RightCalls : Prop := ∀ (s : ByteArray) (g p : Nat) (W : World), Rdr W g p → p ≤ 10 → Calls Try.prog 58 #[.pointer (some ⟨g, 0, none⟩), .string s, .int .i64 6] W fun e w' => HistTo W g 400 6 w' e
/-- What is asked of the stretching: the row may be the one that came in, or a copy. -/
def Stretched : Prop := ∀ (w0 : World) (g p : Nat) (cs : List CallD) (v : Value) (w : World), w.ownsRow w0.heap.size 26 7 v cs.length (cs.flatMap CallD.vals) → cs.length ≤ 6 → But g w0 w → Rdr w g p → p ≤ 400 → g < w0.heap.size →
  Calls Try.prog 57 #[.pointer (some ⟨g, 0, none⟩), v] w fun e w' => HistTo w0 g 900 6 w' e
theorem goodHist_of (HA : RightCalls) (HB : Stretched) : GoodHist := by
  intro s g p w h hp
  have HR := Lib.hid h
  have hgz := h.lt
  have HRC := Lib.hid (show RightCalls from HA)
  have HST := Lib.hid (show Stretched from HB)
  clear h HA HB
  go_enter Try.func54, Try.ntmps54
  go_wp2_with fail
  refine (HRC.out s g p w HR.out hp).mono ?_
  intro e w1 hd
  obtain ⟨v, cs, rfl, ho, hl, hb1, p1, hp1, hr1⟩ := hd
  have HO1 := Lib.hid ho
  have HB1 := Lib.hid hb1
  have HR1 := Lib.hid hr1
  clear ho hb1 hr1
  go_wp2_with fail
  refine (HST.out w g p1 cs v w1 HO1.out hl HB1.out HR1.out hp1 hgz).mono ?_
  intro e w2 hd
  obtain ⟨v2, cs2, rfl, ho, hl2, hb2, p2, hp2, hr2⟩ := hd
  have HH := Lib.hid (show HistTo w g 900 6 w2 (.returned v2) from ⟨v2, cs2, rfl, ho, hl2, hb2, p2, hp2, hr2⟩)
  clear ho hb2 hr2
  go_wp2_with fail
  go_ret
  exact HH.out
end Go.Proofs.Ytooojfdjpmfalaa
