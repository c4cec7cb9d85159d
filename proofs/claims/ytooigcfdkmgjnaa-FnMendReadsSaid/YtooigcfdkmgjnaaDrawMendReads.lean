/-
  The accesses that the generator draws for MendReads: at most ten, in memory of the call's own. Asked: a slice of bytes.
-/
import Derived.Test.YtooigcfdkmgjnaaDrawAc
namespace Go.Proofs.Ytooigcfdkmgjnaa
open Go.RowKit
set_option maxRecDepth 100000

set_option maxHeartbeats 1000000 in
theorem drawMendReads_calls (bs : List Int) (A : Option Addr) (n c : Nat) (w : World) (hr : RowOf byteVals 1 w A bs) (hb : ∀ b ∈ bs, isByte b) (hn : bs.length = n) (hc : n ≤ c) (hm : c ≤ maxLen) :
    Calls Try.prog 36 #[.slice A n c] w fun e w' => DrewAc w w' e := by
  have HRd := Lib.hid (newReader_calls bs A n c w hr hb hn hc hm)
  clear hr hb hn
  go_enter Try.func36, Try.ntmps36
  go_wp2_with fail
  refine HRd.out.mono ?_
  rintro e w1 ⟨rfl, hr1, hb1⟩
  go_wp2_with fail
  refine (someAccesses_calls w.heap.size 0 _ hr1 (by omega)).mono ?_
  intro e w2 hd
  have hd' := drew_ac hb1 hd
  obtain ⟨v, cs, rfl, ho, hl, hbel⟩ := hd'
  have HO := Lib.hid ho
  have HB := Lib.hid hbel
  clear ho hd hbel hb1 hr1
  go_wp2_with fail
  go_ret
  exact ⟨v, cs, rfl, HO.out, hl, HB.out⟩
end Go.Proofs.Ytooigcfdkmgjnaa
