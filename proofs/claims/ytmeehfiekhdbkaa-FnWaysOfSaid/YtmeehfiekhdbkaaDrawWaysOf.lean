/-
  The events that the generator draws for WaysOf: at most seven, in memory of the call's own. Asked: a slice of bytes.
-/
import Derived.Test.YtmeehfiekhdbkaaDrawEv
namespace Go.Proofs.Ytmeehfiekhdbkaa
open Go.RowKit
set_option maxRecDepth 100000

set_option maxHeartbeats 1000000 in
theorem drawWaysOf_calls (bs : List Int) (A : Option Addr) (n c : Nat) (w : World) (hr : RowOf byteVals 1 w A bs) (hb : ∀ b ∈ bs, isByte b) (hn : bs.length = n) (hc : n ≤ c) (hm : c ≤ maxLen) :
    Calls Try.prog 20 #[.slice A n c] w fun e w' => DrewEv w w' e := by
  have HRd := Lib.hid (newReader_calls bs A n c w hr hb hn hc hm)
  clear hr hb hn
  go_enter Try.func20, Try.ntmps20
  go_wp2_with fail
  refine HRd.out.mono ?_
  rintro e w1 ⟨rfl, hr1, hb1⟩
  go_wp2_with fail
  refine (someEvents_calls w.heap.size 0 _ hr1 (by omega)).mono ?_
  intro e w2 hd
  have hd' := drew_ev hb1 hd
  obtain ⟨v, cs, rfl, ho, hg, hl, hbel⟩ := hd'
  have HO := Lib.hid ho
  have HG := Lib.hid hg
  have HB := Lib.hid hbel
  clear ho hg hd hbel hb1 hr1
  go_wp2_with fail
  go_ret
  exact ⟨v, cs, rfl, HO.out, HG.out, hl, HB.out⟩
end Go.Proofs.Ytmeehfiekhdbkaa
