/-
  A drawn history is bent at one call at most: it stays a row of the call's own, as long as it was. Asked: at most a thousand picks before, at most twenty calls.
-/
import Derived.Test.YtooojfdjpmfalaaGenB
import Derived.Test.YtooojfdjpmfalaaCallS
namespace Go.Proofs.Ytooojfdjpmfalaa
open Go.RowKit
set_option maxRecDepth 100000

/-- What a step of the draw leaves: a row of calls in memory made since w0; else only new blocks and the reader's own. -/
def HistTo (w0 : World) (g q l : Nat) (w' : World) (e : Ending) : Prop := ∃ (v : Value) (cs : List CallD), e = .returned v ∧ w'.ownsRow w0.heap.size 26 7 v cs.length (cs.flatMap CallD.vals) ∧ cs.length ≤ l ∧ But g w0 w' ∧ ∃ p', p' ≤ q ∧ Rdr w' g p'
theorem hbend_end {w0 w1 : World} {g q p' go cap k f l : Nat} {cs : List CallD} {c c' : CallD} {x : Int} (hc : cs[k]? = some c) (hf : f < 7) (he : CallD.vals c' = (CallD.vals c).set f (.int .i64 x)) (ho : w1.ownsRow w0.heap.size 26 7 (.slice (some ⟨go, 0, none⟩) cs.length cap) cs.length (cs.flatMap CallD.vals))
    (hl : cs.length ≤ l) (hb : But g w0 w1) (hp : p' ≤ q) (hr : Rdr w1 g p') (hgz : g < w0.heap.size) :
    HistTo w0 g q l (w1.setCell ⟨go, k * 7 + f, none⟩ (.int .i64 x)) (.returned (.slice (some ⟨go, 0, none⟩) cs.length cap)) := by
  have hk : k < cs.length := (List.getElem?_eq_some_iff.1 hc).1
  have hlt := ho.lt go rfl
  refine ⟨_, cs.set k c', rfl, ?_, by simpa using hl, hb.own (gset_grown w1 go _ _) (fun i hi => by injection hi with hi; omega), p', hp, hr.grown (gset_grown w1 go _ _) (fun i hi => by injection hi with hi; omega)⟩
  rw [List.length_set, ← flat_set (fun c => CallD.vals_len c) cs k f c c' _ hc hf he]
  exact own_set ho (by omega) _

set_option maxHeartbeats 8000000 in
theorem bent_calls (w0 : World) (g p l : Nat) (cs : List CallD) (v : Value) (w : World) (ho : w.ownsRow w0.heap.size 26 7 v cs.length (cs.flatMap CallD.vals)) (hl : cs.length ≤ l) (hl2 : l ≤ 20) (hb : But g w0 w) (hr : Rdr w g p) (hp : p ≤ 1000) (hgz : g < w0.heap.size) :
    Calls Try.prog 53 #[.pointer (some ⟨g, 0, none⟩), v] w fun e w' => HistTo w0 g (p + 4) l w' e := by
  by_cases h0 : cs.length = 0
  · obtain ⟨Ao, co, rfl, hoc, hom, _⟩ := own_form ho
    have HO := Lib.hid ho
    have HB := Lib.hid hb
    have HR := Lib.hid hr
    have HZ := Lib.hid h0
    clear ho hb hr
    rw [h0]
    clear h0
    go_enter Try.func53, Try.ntmps53
    go_wp2_with fail
    go_ret
    have h := HO.out
    rw [HZ.out] at h
    exact ⟨_, cs, rfl, by rw [HZ.out]; exact h, by rw [HZ.out]; omega, HB.out, p, by omega, HR.out⟩
  obtain ⟨go, co, rfl, hgo, hgl⟩ := World.ownsRow.form ho (by omega)
  have hoc : cs.length ≤ co := by
    obtain ⟨_, _, e1, h2, _⟩ := own_form ho
    cases e1; exact h2
  have HO := Lib.hid ho
  have HB := Lib.hid hb
  have HR := Lib.hid hr
  clear ho hb hr
  have hl0 : (0 : Int) < (cs.length : Int) := by omega
  have hl7 : (cs.length : Int) ≤ 20 := by omega
  have hlz : ((cs.length : Int) == 0) = false := by rw [beq_eq_false_iff_ne]; omega
  clear h0
  go_enter Try.func53, Try.ntmps53
  go_wp2_with fail
  with_reducible refine (pick_at g p 12 12 _ HR.out rfl (by omega) (by omega) (by omega)).mono ?_
  intro e w7 hpk
  obtain ⟨x, hx, rfl, hr7, hg7⟩ := hpk
  have HB7 := Lib.hid (HB.out.trans hg7)
  have HO7 := Lib.hid (own_high HO.out hg7 (fun k hk => by injection hk with hk; omega))
  have HR7 := Lib.hid hr7
  clear hr7 hg7 HB HO HR
  by_cases hx0 : x = 0
  case neg =>
    have hx1 : (0 : Int) < (x : Int) := by omega
    go_wp2_with fail
    go_ret
    exact ⟨_, cs, rfl, HO7.out, by omega, HB7.out, p + 1, by omega, HR7.out⟩
  subst hx0
  go_wp2_with fail
  with_reducible refine (pick_calls g (p + 1) cs.length _ HR7.out (by omega) (by omega) (by omega)).mono ?_
  intro e w8 hpk
  obtain ⟨k, hk, rfl, hr8, hg8⟩ := hpk
  have HB8 := Lib.hid (HB7.out.trans hg8)
  have HO8 := Lib.hid (own_high HO7.out hg8 (fun k hk => by injection hk with hk; omega))
  have HR8 := Lib.hid hr8
  clear hr8 hg8 HB7 HO7 HR7
  go_wp2_with fail
  with_reducible refine (pick_at g (p + 2) 6 6 _ HR8.out rfl (by omega) (by omega) (by omega)).mono ?_
  intro e w9 hpk
  obtain ⟨y, hy, rfl, hr9, hg9⟩ := hpk
  have HB9 := Lib.hid (HB8.out.trans hg9)
  have HO9 := Lib.hid (own_high HO8.out hg9 (fun k hk => by injection hk with hk; omega))
  have HR9 := Lib.hid (show Rdr w9 g (p + 3) from hr9)
  clear hr9 hg9 HB8 HO8 HR8
  obtain ⟨c, hc⟩ : ∃ c, cs[k]? = some c := ⟨cs[k], List.getElem?_eq_getElem _⟩
  have Hc := Lib.hid hc
  clear hc
  have hk0 : (0 : Int) ≤ (k : Int) := by omega
  have hkl : (k : Int) < (cs.length : Int) := by omega
  have hlt9 := HO9.out.lt go rfl
  have hyy : y = 0 ∨ y = 1 ∨ y = 2 ∨ y = 3 ∨ y = 4 ∨ y = 5 := by omega
  rcases hyy with rfl | rfl | rfl | rfl | rfl | rfl
  · skip
    go_wp2_with fail
    with_reducible refine (one_at g (p + 3) [3, -1, 0] 3 #[.int .i64 3, .int .i64 (-1), .int .i64 0] w9 _ HR9.out rfl (by omega) rfl rfl (by omega) (by omega)).mono ?_
    intro e w10 hone
    obtain ⟨z, hz, rfl, hr10, hg10⟩ := hone
    have HB10 := Lib.hid (HB9.out.trans hg10)
    have oo10 := own_high HO9.out hg10 (fun k hk => by injection hk with hk; omega)
    have hcell := own_cell oo10 (flat_at cs (fun c _ => CallD.vals_len c) k c Hc.out 0 _ rfl)
    have hfree := own_free oo10 (k * 7 + 0)
    rw [Nat.add_zero] at hcell hfree
    have HR10 := Lib.hid hr10
    have OO10 := Lib.hid oo10
    have hlt10 := oo10.lt go rfl
    clear hr10 hg10 oo10 hz
    go_wp2_with fail
    go_ret
    exact hbend_end (f := 0) (p' := p + 3 + 1) (c' := ⟨z, c.obj, c.kind, c.arg, c.ret, c.fr, c.till⟩) Hc.out (by omega) rfl OO10.out (by omega) HB10.out (by omega) HR10.out hgz
  · skip
    have hfr := own_cell HO9.out (flat_at cs (fun c _ => CallD.vals_len c) k c Hc.out 5 _ rfl)
    go_wp2_with fail
    with_reducible refine (one_at g (p + 3) [31, c.fr, 1] 3 #[.int .i64 31, .int .i64 c.fr, .int .i64 1] w9 _ HR9.out rfl (by omega) rfl rfl (by omega) (by omega)).mono ?_
    intro e w10 hone
    obtain ⟨z, hz, rfl, hr10, hg10⟩ := hone
    have HB10 := Lib.hid (HB9.out.trans hg10)
    have oo10 := own_high HO9.out hg10 (fun k hk => by injection hk with hk; omega)
    have hcell := own_cell oo10 (flat_at cs (fun c _ => CallD.vals_len c) k c Hc.out 6 _ rfl)
    have hfree := own_free oo10 (k * 7 + 6)
    have HR10 := Lib.hid hr10
    have OO10 := Lib.hid oo10
    have hlt10 := oo10.lt go rfl
    clear hr10 hg10 oo10 hz
    go_wp2_with fail
    go_ret
    exact hbend_end (f := 6) (p' := p + 3 + 1) (c' := ⟨c.proc, c.obj, c.kind, c.arg, c.ret, c.fr, z⟩) Hc.out (by omega) rfl OO10.out (by omega) HB10.out (by omega) HR10.out hgz
  · skip
    go_wp2_with fail
    with_reducible refine (one_at g (p + 3) [-2, 21, 3] 3 #[.int .i64 (-2), .int .i64 21, .int .i64 3] w9 _ HR9.out rfl (by omega) rfl rfl (by omega) (by omega)).mono ?_
    intro e w10 hone
    obtain ⟨z, hz, rfl, hr10, hg10⟩ := hone
    have HB10 := Lib.hid (HB9.out.trans hg10)
    have oo10 := own_high HO9.out hg10 (fun k hk => by injection hk with hk; omega)
    have hcell := own_cell oo10 (flat_at cs (fun c _ => CallD.vals_len c) k c Hc.out 4 _ rfl)
    have hfree := own_free oo10 (k * 7 + 4)
    have HR10 := Lib.hid hr10
    have OO10 := Lib.hid oo10
    have hlt10 := oo10.lt go rfl
    clear hr10 hg10 oo10 hz
    go_wp2_with fail
    go_ret
    exact hbend_end (f := 4) (p' := p + 3 + 1) (c' := ⟨c.proc, c.obj, c.kind, c.arg, z, c.fr, c.till⟩) Hc.out (by omega) rfl OO10.out (by omega) HB10.out (by omega) HR10.out hgz
  · skip
    go_wp2_with fail
    with_reducible refine (one_at g (p + 3) [-1, 4] 2 #[.int .i64 (-1), .int .i64 4] w9 _ HR9.out rfl (by omega) rfl rfl (by omega) (by omega)).mono ?_
    intro e w10 hone
    obtain ⟨z, hz, rfl, hr10, hg10⟩ := hone
    have HB10 := Lib.hid (HB9.out.trans hg10)
    have oo10 := own_high HO9.out hg10 (fun k hk => by injection hk with hk; omega)
    have hcell := own_cell oo10 (flat_at cs (fun c _ => CallD.vals_len c) k c Hc.out 3 _ rfl)
    have hfree := own_free oo10 (k * 7 + 3)
    have HR10 := Lib.hid hr10
    have OO10 := Lib.hid oo10
    have hlt10 := oo10.lt go rfl
    clear hr10 hg10 oo10 hz
    go_wp2_with fail
    go_ret
    exact hbend_end (f := 3) (p' := p + 3 + 1) (c' := ⟨c.proc, c.obj, c.kind, z, c.ret, c.fr, c.till⟩) Hc.out (by omega) rfl OO10.out (by omega) HB10.out (by omega) HR10.out hgz
  · skip
    go_wp2_with fail
    with_reducible refine (one_at g (p + 3) [2, -1, 1] 3 #[.int .i64 2, .int .i64 (-1), .int .i64 1] w9 _ HR9.out rfl (by omega) rfl rfl (by omega) (by omega)).mono ?_
    intro e w10 hone
    obtain ⟨z, hz, rfl, hr10, hg10⟩ := hone
    have HB10 := Lib.hid (HB9.out.trans hg10)
    have oo10 := own_high HO9.out hg10 (fun k hk => by injection hk with hk; omega)
    have hcell := own_cell oo10 (flat_at cs (fun c _ => CallD.vals_len c) k c Hc.out 1 _ rfl)
    have hfree := own_free oo10 (k * 7 + 1)
    have HR10 := Lib.hid hr10
    have OO10 := Lib.hid oo10
    have hlt10 := oo10.lt go rfl
    clear hr10 hg10 oo10 hz
    go_wp2_with fail
    go_ret
    exact hbend_end (f := 1) (p' := p + 3 + 1) (c' := ⟨c.proc, z, c.kind, c.arg, c.ret, c.fr, c.till⟩) Hc.out (by omega) rfl OO10.out (by omega) HB10.out (by omega) HR10.out hgz
  · skip
    go_wp2_with fail
    with_reducible refine (one_at g (p + 3) [3, -1, 0] 3 #[.int .i64 3, .int .i64 (-1), .int .i64 0] w9 _ HR9.out rfl (by omega) rfl rfl (by omega) (by omega)).mono ?_
    intro e w10 hone
    obtain ⟨z, hz, rfl, hr10, hg10⟩ := hone
    have HB10 := Lib.hid (HB9.out.trans hg10)
    have oo10 := own_high HO9.out hg10 (fun k hk => by injection hk with hk; omega)
    have hcell := own_cell oo10 (flat_at cs (fun c _ => CallD.vals_len c) k c Hc.out 2 _ rfl)
    have hfree := own_free oo10 (k * 7 + 2)
    have HR10 := Lib.hid hr10
    have OO10 := Lib.hid oo10
    have hlt10 := oo10.lt go rfl
    clear hr10 hg10 oo10 hz
    go_wp2_with fail
    go_ret
    exact hbend_end (f := 2) (p' := p + 3 + 1) (c' := ⟨c.proc, c.obj, z, c.arg, c.ret, c.fr, c.till⟩) Hc.out (by omega) rfl OO10.out (by omega) HB10.out (by omega) HR10.out hgz
end Go.Proofs.Ytooojfdjpmfalaa
