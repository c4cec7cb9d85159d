/-
  The events and the set that the generator draws for IsCut: at most seven events, in memory of the call's own, and a small number. Asked: a slice of bytes.
-/
import Derived.Test.YtcmecgnlhgjciaaDrawEv
import Derived.Test.YtcmecgnlhgjciaaCutP
import Derived.OwnWalk
namespace Go.Proofs.Ytcmecgnlhgjciaa
open Go.RowKit
set_option maxRecDepth 100000

structure CutS (w1 : World) (g : Nat) (v : Value) (cs : List EventD) (p : Nat) (wk : World) : Prop where
  ho : OwnEvents wk w1.heap.size v cs
  but : But g w1 wk
  rdr : Rdr wk g p
theorem CutS.step {w1 wk w' : World} {g p : Nat} {v : Value} {cs : List EventD} (h : CutS w1 g v cs p wk) (hr : Rdr w' g (p + 1)) (hg : wk.grownBy w' (some g)) (hgl : g < w1.heap.size) : CutS w1 g v cs (p + 1) w' :=
  ⟨kept_ne h.ho hg (fun k hk e => by have := (World.ownsRow.lt h.ho k hk).1; injection e with e; omega), h.but.trans hg, hr⟩
def DrewCut (w w' : World) (e : Ending) : Prop := ∃ v cs x, e = .returned (.tuple #[v, .int .i64 x]) ∧ OwnEvents w' w.heap.size v cs ∧ (∀ c ∈ cs, c.good) ∧ cs.length ≤ 7 ∧ Below w.heap.size w w' ∧ -1 ≤ x ∧ x ≤ 200

set_option maxHeartbeats 4000000 in
theorem drawIsCut_calls (bs : List Int) (A : Option Addr) (n c : Nat) (w : World) (hr : RowOf byteVals 1 w A bs) (hb : ∀ b ∈ bs, isByte b) (hn : bs.length = n) (hc : n ≤ c) (hm : c ≤ maxLen) :
    Calls Try.prog 35 #[.slice A n c] w fun e w' => DrewCut w w' e := by
  have HRd := Lib.hid (newReader_calls bs A n c w hr hb hn hc hm)
  clear hr hb hn
  go_enter Try.func35, Try.ntmps35
  go_wp2_with fail
  refine HRd.out.mono ?_
  rintro e w1 ⟨rfl, hr1, hb1⟩
  go_wp2_with fail
  refine (someEvents_calls w.heap.size 0 _ hr1 (by omega)).mono ?_
  intro e w2 hd
  obtain ⟨v, cs, rfl, ho, hg, hl, hbut, p, hp, hr2⟩ := hd
  have hgl : w.heap.size < w1.heap.size := hr1.lt
  have hS : CutS w1 w.heap.size v cs p w2 := ⟨ho, hbut, hr2⟩
  have hgl1 := hgl
  obtain ⟨Ao, co, rfl, hoc, hom, _⟩ := own_form (show w2.ownsRow w1.heap.size 50 3 v cs.length (cs.flatMap EventD.vals) from ho)
  have HS := Lib.hid hS
  have HG := Lib.hid hg
  have HB := Lib.hid hb1
  have HFin := Lib.hid (fun (p : Nat) (wk : World) (h : CutS w1 w.heap.size (.slice Ao cs.length co) cs p wk) => (⟨own_base h.ho hb1.size, hb1.grown h.but hb1.size (fun k hk => by injection hk with hk; omega)⟩ : OwnEvents wk w.heap.size (.slice Ao cs.length co) cs ∧ Below w.heap.size w wk))
  obtain ⟨l, hll⟩ : ∃ l, cs.length = l := ⟨_, rfl⟩
  have Hll := Lib.hid hll
  rw [hll] at HS HFin hl hoc ⊢
  have hpw : pw l = ((2 ^ l : Nat) : Int) := by rw [pw_eq l (by omega), two_cast]
  have h128 : 2 ^ l ≤ 2 ^ 7 := Nat.pow_le_pow_right (by omega) hl
  obtain ⟨f, hf⟩ : ∃ f, 2 ^ l = f + 1 := ⟨2 ^ l - 1, by have := Nat.two_pow_pos l; omega⟩
  have HPW := Lib.hid (fun (W : World) => power_calls l W (by omega))
  rw [hpw, hf] at HPW
  clear ho hg hbut hr2 hS hb1 hr1 hll hpw
  have hl7 : (l : Int) ≤ 7 := by omega
  have hl0 : (0 : Int) ≤ (l : Int) := by omega
  have hf1 : (f : Int) ≤ 127 := by omega
  have hf0 : (0 : Int) ≤ (f : Int) := by omega
  clear hf
  generalize hgg : w.heap.size = g at *
  have Hgg := Lib.hid hgg
  clear hgg
  go_wp2_with (go_at_call 62; refine (HPW.out _).mono ?_; rintro e w3 ⟨rfl, rfl⟩)
  refine (pick_at g p (f + 1) _ _ HS.out.rdr (by omega) (by omega) (by omega) (by omega)).mono ?_
  intro e w3 hpk
  obtain ⟨x1, hx1, rfl, hr3, hg3⟩ := hpk
  have HS3 := Lib.hid (HS.out.step hr3 hg3 hgl)
  clear hr3 hg3 HS
  go_wp2_with fail
  refine (pick_at g (p + 1) 256 _ _ HS3.out.rdr (by omega) (by omega) (by omega) (by omega)).mono ?_
  intro e w4 hpk
  obtain ⟨x2, hx2, rfl, hr4, hg4⟩ := hpk
  have HS4 := Lib.hid (HS3.out.step hr4 hg4 hgl)
  have e1 := i64_and_nat f x2 (by omega) (by omega)
  clear hr4 hg4 HS3
  go_wp2_with fail
  refine (pick_at g (p + 1 + 1) 256 _ _ HS4.out.rdr (by omega) (by omega) (by omega) (by omega)).mono ?_
  intro e w5 hpk
  obtain ⟨x3, hx3, rfl, hr5, hg5⟩ := hpk
  have HS5 := Lib.hid (HS4.out.step hr5 hg5 hgl)
  clear hr5 hg5 HS4 e1
  go_wp2_with fail
  refine (pick_at g (p + 1 + 1 + 1) 256 _ _ HS5.out.rdr (by omega) (by omega) (by omega) (by omega)).mono ?_
  intro e w6 hpk
  obtain ⟨x4, hx4, rfl, hr6, hg6⟩ := hpk
  have HS6 := Lib.hid (HS5.out.step hr6 hg6 hgl)
  clear hr6 hg6 HS5
  have h34 : x3 ||| x4 < 2 ^ 8 := Nat.or_lt_two_pow (by omega) (by omega)
  have h2 : f &&& x2 ≤ f := Nat.and_le_left
  have h5 : f &&& (x3 ||| x4) ≤ f := Nat.and_le_left
  have e1 := i64_or_nat x3 x4 (by omega) (by omega)
  have e2 := i64_and_nat f (x3 ||| x4) (by omega) (by omega)
  generalize x3 ||| x4 = y at *
  generalize f &&& y = z at *
  generalize f &&& x2 = z2 at *
  go_wp2_with fail
  refine (one_at g (p + 1 + 1 + 1 + 1) [(x1 : Int), (f : Int), (z2 : Int), (z : Int), -1, (f : Int) + 1] 6 _ _ _ HS6.out.rdr rfl (by omega) (by rfl) rfl (by omega) (by omega)).mono ?_
  intro e w7 ho
  obtain ⟨x, hx, rfl, hr7, hg7⟩ := ho
  have HS7 := Lib.hid (HS6.out.step hr7 hg7 hgl)
  have hxb : -1 ≤ x ∧ x ≤ 200 := by
    simp only [List.mem_cons, List.not_mem_nil, or_false] at hx
    omega
  clear hr7 hg7 HS6 hx e1 e2
  have HF := Lib.hid (HFin.out _ _ HS7.out)
  clear HFin
  go_wp2_with fail
  go_ret2
  exact ⟨_, cs, x, rfl, by rw [Hgg.out]; exact HF.out.1, HG.out, by have := Hll.out; omega, by have := HF.out.2; rw [← Hgg.out] at this; exact this, hxb.1, hxb.2⟩
end Go.Proofs.Ytcmecgnlhgjciaa
