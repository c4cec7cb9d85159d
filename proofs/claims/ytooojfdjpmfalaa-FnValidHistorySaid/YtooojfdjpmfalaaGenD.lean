/-
  The draws of a history, given what the good history leaves: a row of calls of the call's own. Asked: what the good history leaves.
-/
import Derived.Test.YtooojfdjpmfalaaGenH
import Derived.Test.YtooojfdjpmfalaaGenN
import Derived.Test.YtooojfdjpmfalaaDrewV
namespace Go.Proofs.Ytooojfdjpmfalaa
open Go.RowKit
set_option maxRecDepth 100000

theorem of_at (g p n : Nat) (lits : Array Value) (w : World) (b : Nat) (h : Rdr w g p) (hb : w.heap.size = b) (hp : p ≤ 1000000) (hn : lits.size = n) (h1 : 1 ≤ n) (h2 : n ≤ 1000000) (hs : ∀ v ∈ lits.toList, ∃ s, v = .string s) :
    Calls Try.prog 59 #[.pointer (some ⟨g, 0, none⟩), .slice (some ⟨b, 0, none⟩) n n] (w.alloc (.cells lits 9)) fun e w' => ∃ s, e = .returned (.string s) ∧ Rdr w' g (p + 1) ∧ But g w w' := by
  subst hb
  refine (of_calls g p w.heap.size lits.toList n _ (h.below (below_alloc (Below.refl _ _) _)) hp (by simpa using heap_alloc_new w (.cells lits 9)) (by simpa using hn) (Nat.ne_of_gt h.lt) h1 h2 hs).mono fun e w' hd => ?_
  obtain ⟨v, hv, he, hr, hg⟩ := hd
  obtain ⟨s, rfl⟩ := hs v hv
  exact ⟨s, he, hr, ((But.refl g w).alloc _).trans hg⟩

theorem aName_calls (g p : Nat) (w : World) (h : Rdr w g p) (hp : p ≤ 1000) :
    Calls Try.prog 55 #[.pointer (some ⟨g, 0, none⟩)] w fun e w' => ∃ s, e = .returned (.string s) ∧ Rdr w' g (p + 1) ∧ But g w w' := by
  have HR := Lib.hid h
  clear h
  go_enter Try.func55, Try.ntmps55
  go_wp2_with fail
  refine (of_at g p 12 _ w _ HR.out rfl (by omega) rfl (by omega) (by omega) (by
    intro v hv
    simp only [List.mem_cons, List.not_mem_nil, or_false] at hv
    rcases hv with rfl | rfl | rfl | rfl | rfl | rfl | rfl | rfl | rfl | rfl | rfl | rfl <;> exact ⟨_, rfl⟩)).mono ?_
  rintro e w1 ⟨s, rfl, hr1, hb1⟩
  go_wp2_with fail
  go_ret
  exact ⟨s, rfl, hr1, hb1⟩

/-- What is asked of the good history. -/
def GoodHist : Prop := ∀ (s : ByteArray) (g p : Nat) (W : World), Rdr W g p → p ≤ 10 → Calls Try.prog 54 #[.pointer (some ⟨g, 0, none⟩), .string s] W fun e w' => HistTo W g 900 6 w' e

theorem someHistory_of (HG : GoodHist) (g p : Nat) (w : World) (h : Rdr w g p) (hp : p ≤ 5) :
    Calls Try.prog 46 #[.pointer (some ⟨g, 0, none⟩)] w fun e w' => HistTo w g 910 6 w' e := by
  have HR := Lib.hid h
  have hgz := h.lt
  have HGG := Lib.hid (show GoodHist from HG)
  clear h HG
  go_enter Try.func46, Try.ntmps46
  go_wp2_with fail
  refine (aName_calls g p w HR.out (by omega)).mono ?_
  rintro e w1 ⟨s, rfl, hr1, hb1⟩
  have HR1 := Lib.hid hr1
  have HB1 := Lib.hid hb1
  clear hr1 hb1
  go_wp2_with fail
  refine (HGG.out s g (p + 1) w1 HR1.out (by omega)).mono ?_
  intro e w2 hd
  obtain ⟨v, cs, rfl, ho, hl, hb2, p2, hp2, hr2⟩ := hd
  have HO2 := Lib.hid (own_base ho HB1.out.size)
  have HB2 := Lib.hid (HB1.out.trans hb2)
  have HR2 := Lib.hid hr2
  clear ho hb2 hr2
  go_wp2_with fail
  refine (bent_calls w g p2 6 cs v w2 HO2.out hl (by omega) HB2.out HR2.out (by omega) hgz).mono ?_
  intro e w3 hd
  obtain ⟨v3, cs3, rfl, ho3, hl3, hb3, p3, hp3, hr3⟩ := hd
  have HO3 := Lib.hid ho3
  have HB3 := Lib.hid hb3
  have HR3 := Lib.hid hr3
  clear ho3 hb3 hr3
  go_wp2_with fail
  go_ret
  exact ⟨v3, cs3, rfl, HO3.out, hl3, HB3.out, p3, by omega, HR3.out⟩

theorem drew_of {w w1 w2 : World} {q l : Nat} {e : Ending} (hl : l ≤ 20) (hb : Below w.heap.size w w1) (h : HistTo w1 w.heap.size q l w2 e) : ∃ (v : Value) (cs : List CallD), e = .returned v ∧ DrewCalls w w2 v cs := by
  obtain ⟨v, cs, he, ho, hll, hbut, _⟩ := h
  exact ⟨v, cs, he, own_base ho hb.size, by omega, hb.grown hbut hb.size (fun k hk => by injection hk with hk; omega)⟩

theorem drawOne_of (HG : GoodHist) (bs : List Int) (A : Option Addr) (n c : Nat) (w : World) (hr : RowOf byteVals 1 w A bs) (hb : ∀ b ∈ bs, isByte b) (hn : bs.length = n) (hc : n ≤ c) (hm : c ≤ maxLen) :
    Calls Try.prog 29 #[.slice A n c] w fun e w' => ∃ (v : Value) (cs : List CallD), e = .returned v ∧ DrewCalls w w' v cs := by
  have HRd := Lib.hid (newReader_calls bs A n c w hr hb hn hc hm)
  clear hr hb hn
  go_enter Try.func29, Try.ntmps29
  go_wp2_with fail
  refine HRd.out.mono ?_
  rintro e w1 ⟨rfl, hr1, hb1⟩
  go_wp2_with fail
  refine (someHistory_of HG w.heap.size 0 _ hr1 (by omega)).mono ?_
  intro e w2 hd
  obtain ⟨v, cs, rfl, hd2⟩ := drew_of (by omega) hb1 hd
  have HD := Lib.hid hd2
  clear hd hd2 hb1 hr1
  go_wp2_with fail
  go_ret
  exact ⟨v, cs, rfl, HD.out⟩
theorem drawValid_of (HG : GoodHist) (bs : List Int) (A : Option Addr) (n c : Nat) (w : World) (hr : RowOf byteVals 1 w A bs) (hb : ∀ b ∈ bs, isByte b) (hn : bs.length = n) (hc : n ≤ c) (hm : c ≤ maxLen) :
    Calls Try.prog 38 #[.slice A n c] w fun e w' => ∃ (v : Value) (cs : List CallD), e = .returned v ∧ DrewCalls w w' v cs := by
  have HRd := Lib.hid (newReader_calls bs A n c w hr hb hn hc hm)
  clear hr hb hn
  go_enter Try.func38, Try.ntmps38
  go_wp2_with fail
  refine HRd.out.mono ?_
  rintro e w1 ⟨rfl, hr1, hb1⟩
  go_wp2_with fail
  refine (someHistory_of HG w.heap.size 0 _ hr1 (by omega)).mono ?_
  intro e w2 hd
  obtain ⟨v, cs, rfl, hd2⟩ := drew_of (by omega) hb1 hd
  have HD := Lib.hid hd2
  clear hd hd2 hb1 hr1
  go_wp2_with fail
  go_ret
  exact ⟨v, cs, rfl, HD.out⟩
theorem drawPart_of (HG : GoodHist) (bs : List Int) (A : Option Addr) (n c : Nat) (w : World) (hr : RowOf byteVals 1 w A bs) (hb : ∀ b ∈ bs, isByte b) (hn : bs.length = n) (hc : n ≤ c) (hm : c ≤ maxLen) :
    Calls Try.prog 36 #[.slice A n c] w fun e w' => ∃ (v : Value) (x : Int) (cs : List CallD), e = .returned (.tuple #[v, .int .i64 x]) ∧ DrewCalls w w' v cs := by
  have HRd := Lib.hid (newReader_calls bs A n c w hr hb hn hc hm)
  clear hr hb hn
  go_enter Try.func36, Try.ntmps36
  go_wp2_with fail
  refine HRd.out.mono ?_
  rintro e w1 ⟨rfl, hr1, hb1⟩
  have HB1 := Lib.hid hb1
  have hgz := hr1.lt
  go_wp2_with fail
  refine (someHistory_of HG w.heap.size 0 _ hr1 (by omega)).mono ?_
  intro e w2 hd
  obtain ⟨v, cs, rfl, ho, hl, hbut, p', hp', hr2⟩ := hd
  have HO := Lib.hid ho
  have HBut := Lib.hid hbut
  have HR2 := Lib.hid hr2
  clear ho hbut hr2 hb1 hr1
  go_wp2_with fail
  refine (one_at w.heap.size p' [0, 1, 0, 1, 2, -1] 6 #[.int .i64 0, .int .i64 1, .int .i64 0, .int .i64 1, .int .i64 2, .int .i64 (-1)] w2 _ HR2.out rfl (by omega) rfl rfl (by omega) (by omega)).mono ?_
  intro e w3 hone
  obtain ⟨x, hx, rfl, hr3, hg3⟩ := hone
  have HO3 := Lib.hid (own_high HO.out hg3 (fun k hk => by injection hk with hk; omega))
  have HB3 := Lib.hid (HB1.out.grown (HBut.out.trans hg3) HB1.out.size (fun k hk => by injection hk with hk; omega))
  clear hr3 hg3 hx
  go_wp2_with fail
  exact bodyPost_ret (v := .tuple #[v, .int .i64 x]) (by simp [results, Try.results36, go_sem]) rfl ⟨v, x, cs, rfl, own_base HO3.out HB1.out.size, by omega, HB3.out⟩
end Go.Proofs.Ytooojfdjpmfalaa
