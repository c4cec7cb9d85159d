/-
  The generator's reader of bytes: what making one and one pick do, as far as the laws need it: a pick of n is less than n. Asked: at most a million picks.
-/
import Derived.Test.YtooojfdjpmfalaaData
import Derived.Test.YtooojfdjpmfalaaRows
import Derived.BigGuardPart
namespace Go.Proofs.Ytooojfdjpmfalaa
open Go.RowKit
set_option maxRecDepth 100000

/-- A reader behind g that has picked p times. -/
def Rdr (w : World) (g p : Nat) : Prop := ∃ (A : Option Addr) (n c : Nat) (bs : List Int), w.heap[g]? = some (.cells #[.slice A n c, .int .i64 p] 55 (0, 0)) ∧ bs.length = n ∧ n ≤ 2000 ∧ n ≤ c ∧ RowOf byteVals 1 w A bs ∧ (∀ b ∈ bs, isByte b) ∧ (0 < bs.length → ∀ x, A = some x → x.block < g)
theorem Rdr.lt {w : World} {g p : Nat} (h : Rdr w g p) : g < w.heap.size := by
  obtain ⟨A, n, c, bs, h, _⟩ := h
  exact (Array.getElem?_eq_some_iff.1 h).1
theorem Rdr.kept {w w' : World} {g p : Nat} (h : Rdr w g p) (hk : ∀ k, k ≤ g → w'.heap[k]? = w.heap[k]?) : Rdr w' g p := by
  obtain ⟨A, n, c, bs, h, hl, hn, hc, hr, hb, hx⟩ := h
  refine ⟨A, n, c, bs, (hk g (Nat.le_refl _)).trans h, hl, hn, hc, fun h0 => ?_, hb, hx⟩
  obtain ⟨b, off, e, hat⟩ := hr h0
  have hlt := hx h0 _ e
  exact ⟨b, off, e, fun i c hi j u hu => (World.cell?_of_block (hk b (Nat.le_of_lt hlt))).trans (hat i c hi j u hu)⟩
theorem Rdr.below {w w' : World} {g p : Nat} (h : Rdr w g p) (hb : Below w.heap.size w w') : Rdr w' g p := h.kept fun k hk => hb.block k (Nat.lt_of_le_of_lt hk h.lt)
theorem Rdr.grown {w w' : World} {g p : Nat} {row : Option Nat} (h : Rdr w g p) (hg : w.grownBy w' row) (hr : ∀ k, row = some k → g < k) : Rdr w' g p :=
  h.kept fun k hk => hg.block k (Nat.lt_of_le_of_lt hk h.lt) (fun e => by have := hr k e.symm; omega)

def PickPost (w w' : World) (g p n : Nat) (e : Ending) : Prop := ∃ x : Nat, x < n ∧ e = .returned (.int .i64 x) ∧ Rdr w' g (p + 1) ∧ w.grownBy w' (some g)
theorem pick_post {w wf : World} {g p n : Nat} {A : Option Addr} {m c : Nat} {bs : List Int} (h : w.heap[g]? = some (.cells #[.slice A m c, .int .i64 p] 55 (0, 0))) (hl : bs.length = m) (hn : m ≤ 2000) (hc : m ≤ c) (hr : RowOf byteVals 1 w A bs) (hb : ∀ b ∈ bs, isByte b) (hx : 0 < bs.length → ∀ x, A = some x → x.block < g)
    (hbf : Below w.heap.size (w.setCell ⟨g, 1, none⟩ (.int .i64 ((p + 1 : Nat) : Int))) wf) {x : Nat} (hlt : x < n) {e : Ending} (he : e = .returned (.int .i64 x)) : PickPost w wf g p n e := by
  have hg : w.grownBy (w.setCell ⟨g, 1, none⟩ (.int .i64 ((p + 1 : Nat) : Int))) (some g) := by
    refine ⟨rfl, rfl, rfl, by simp [World.setCell], fun j hj hne => ?_⟩
    have hgj : g ≠ j := fun e => hne (by rw [e])
    simp [World.setCell, Array.getElem?_modify, hgj]
  have hgf : w.grownBy wf (some g) := ⟨hbf.os, hbf.tape, hbf.output, Nat.le_trans hg.size hbf.size, fun k hk hne => (hbf.block k hk).trans (hg.block k hk hne)⟩
  refine ⟨x, hlt, he, ⟨A, m, c, bs, ?_, hl, hn, hc, ?_, hb, hx⟩, hgf⟩
  · rw [hbf.block g (Array.getElem?_eq_some_iff.1 h).1, heap_setCell_same w g 1 _ _ _ h]; rfl
  · intro h0
    obtain ⟨b, off, e, hat⟩ := hr h0
    have hlt := hx h0 _ e
    exact ⟨b, off, e, fun i c hi j u hu => hgf.cell (hat i c hi j u hu) (fun e' => by injection e' with e'; exact absurd e' (Nat.ne_of_lt hlt))⟩
theorem tmod_nat (a b : Nat) : Int.tmod (a : Int) (b : Int) = ((a % b : Nat) : Int) := by rw [Int.ofNat_tmod]
theorem xor_small (a b : Nat) (ha : a < 9223372036854775808) (hb : b < 9223372036854775808) : bits .xor .i64 (a : Int) (b : Int) = ((a ^^^ b : Nat) : Int) := by
  have hx : a ^^^ b < 2 ^ 63 := Nat.xor_lt_two_pow (by omega) (by omega)
  have e : ∀ t : Nat, t < 9223372036854775808 → (BitVec.ofInt 64 (t : Int)).toNat = t := fun t ht => by
    rw [BitVec.ofInt_natCast, BitVec.toNat_ofNat]; exact Nat.mod_eq_of_lt (by omega)
  show IntKind.i64.wrap ((BitVec.ofInt 64 (a : Int) ^^^ BitVec.ofInt 64 (b : Int)).toNat : Int) = _
  rw [BitVec.toNat_xor, e a ha, e b hb, IntKind.wrap_i64]
  omega

theorem rand_eq (v1 v2 p q n : Nat) (h1 : v1 ≤ 255) (h2 : v2 ≤ 255) (h3 : p ≤ 1000000) (h4 : q ≤ 1000000) :
    (bits .xor .i64 ((v1 : Int) * 131 + (v2 : Int) * 1117 + (p : Int) * 29 + (q : Int) * 53) (((v1 : Int) * 131 + (v2 : Int) * 1117 + (p : Int) * 29 + (q : Int) * 53) / 64)).tmod (n : Int) =
      (((v1 * 131 + v2 * 1117 + p * 29 + q * 53 ^^^ (v1 * 131 + v2 * 1117 + p * 29 + q * 53) / 64) % n : Nat) : Int) := by
  obtain ⟨s, hs⟩ : ∃ s, v1 * 131 + v2 * 1117 + p * 29 + q * 53 = s := ⟨_, rfl⟩
  have e1 : (v1 : Int) * 131 + (v2 : Int) * 1117 + (p : Int) * 29 + (q : Int) * 53 = (s : Int) := by omega
  have e2 : (s : Int) / 64 = ((s / 64 : Nat) : Int) := by omega
  rw [hs, e1, e2, xor_small s (s / 64) (by omega) (by omega), tmod_nat]
set_option maxHeartbeats 2000000 in
theorem pick_calls (g p n : Nat) (w : World) (h : Rdr w g p) (hp : p ≤ 1000000) (hn : 1 ≤ n) (hn2 : n ≤ 1000000) :
    Calls Try.prog 41 #[.pointer (some ⟨g, 0, none⟩), .int .i64 n] w fun e w' => PickPost w w' g p n e := by
  obtain ⟨A, m, c, bs, h, hl, hm, hc, hr, hb, hx⟩ := h
  have hgz : g < w.heap.size := (Array.getElem?_eq_some_iff.1 h).1
  have c0 : w.cell? ⟨g, 0, none⟩ = some (.slice A m c) := by rw [cell_of_row w g 0 _ _ _ h]; rfl
  have c1 : w.cell? ⟨g, 1, none⟩ = some (.int .i64 p) := by rw [cell_of_row w g 1 _ _ _ h]; rfl
  have f1 : w.frozen? ⟨g, 1, none⟩ = false := frozen_of_row w g 1 _ _ h
  have HP := Lib.hid (fun (wf : World) => @pick_post w wf g p n A m c bs h hl hm hc hr hb hx)
  have hp0 : (0 : Int) ≤ (p : Int) := by omega
  have hpm : (p : Int) ≤ 1000000 := by omega
  have hn1 : (1 : Int) ≤ (n : Int) := by omega
  have hn2' : (n : Int) ≤ 1000000 := by omega
  have hm0 : (0 : Int) ≤ (m : Int) := by omega
  have hmm : (m : Int) ≤ 2000 := by omega
  by_cases hz : m = 0
  · subst hz
    clear h hl hr hb hx
    go_enter Try.func41, Try.ntmps41
    go_wp2_with fail
    go_ret
    exact HP.out _ (Below.refl _ _) (x := 0) (by omega) rfl
  · obtain ⟨b0, off, rfl, hat⟩ := hr (by omega)
    have hbg : b0 < g := hx (by omega) _ rfl
    have hne : b0 ≠ g := by omega
    have hbz : b0 < w.heap.size := by omega
    have hbyte : ∀ i, i < m → ∃ v : Nat, v ≤ 255 ∧ w.cell? ⟨b0, off + i, none⟩ = some (.int .u8 v) := by
      intro i hi
      have hgi : bs[i]? = some (bs[i]'(by omega)) := List.getElem?_eq_getElem _
      have h1 := hat i _ hgi 0 _ rfl
      have h2 := hb _ (List.mem_of_getElem? hgi)
      refine ⟨(bs[i]'(by omega)).toNat, ?_, ?_⟩
      · unfold isByte at h2; omega
      · have e : (((bs[i]'(by omega)).toNat : Nat) : Int) = bs[i]'(by omega) := by unfold isByte at h2; omega
        rw [e]; simpa using h1
    have HB := Lib.hid hbyte
    clear h hl hr hb hx hat hbyte
    have hm1 : (1 : Int) ≤ (m : Int) := by omega
    have hmz : ((m : Int) == 0) = false := by simp; omega
    by_cases hk : p < m
    · obtain ⟨v, hv, cv⟩ := HB.out p hk
      have hkI : (p : Int) < (m : Int) := by omega
      have hv0 : (0 : Int) ≤ (v : Int) := by omega
      have hv1 : (v : Int) ≤ 255 := by omega
      go_enter Try.func41, Try.ntmps41
      go_wp2_with fail
      go_ret
      exact HP.out _ (Below.refl _ _) (x := v % n) (Nat.mod_lt _ (by omega)) (congrArg (fun t => Ending.returned (.int .i64 t)) (Int.natCast_emod v n).symm)
    · have hkI : ¬ ((p : Int) < (m : Int)) := by omega
      obtain ⟨v1, hv1, cv1⟩ := HB.out (p % m) (Nat.mod_lt _ (by omega))
      obtain ⟨v2, hv2, cv2⟩ := HB.out ((p * 7 + 3) % m) (Nat.mod_lt _ (by omega))
      obtain ⟨i1, hi1⟩ : ∃ i1, p % m = i1 := ⟨_, rfl⟩
      obtain ⟨i2, hi2⟩ : ∃ i2, (p * 7 + 3) % m = i2 := ⟨_, rfl⟩
      obtain ⟨q, hq⟩ : ∃ q, p / m = q := ⟨_, rfl⟩
      have l1 : i1 < m := by rw [← hi1]; exact Nat.mod_lt _ (by omega)
      have l2 : i2 < m := by rw [← hi2]; exact Nat.mod_lt _ (by omega)
      have lq : q ≤ p := by rw [← hq]; exact Nat.div_le_self _ _
      have e1 : (p : Int) % (m : Int) = (i1 : Int) := by rw [← Int.natCast_emod, hi1]
      have e2 : ((p : Int) * 7 + 3) % (m : Int) = (i2 : Int) := by rw [← hi2, Int.natCast_emod]; simp
      have e3 : (p : Int) / (m : Int) = (q : Int) := by rw [← Int.natCast_ediv, hq]
      rw [hi1] at cv1
      rw [hi2] at cv2
      clear hi1 hi2 hq
      have l1' : (i1 : Int) < (m : Int) := by omega
      have l2' : (i2 : Int) < (m : Int) := by omega
      have z1 : (0 : Int) ≤ (i1 : Int) := by omega
      have z2 : (0 : Int) ≤ (i2 : Int) := by omega
      have z3 : (0 : Int) ≤ (q : Int) := by omega
      have z4 : (q : Int) ≤ 1000000 := by omega
      have z5 : (0 : Int) ≤ (v1 : Int) := by omega
      have z6 : (v1 : Int) ≤ 255 := by omega
      have z7 : (0 : Int) ≤ (v2 : Int) := by omega
      have z8 : (v2 : Int) ≤ 255 := by omega
      go_enter Try.func41, Try.ntmps41
      go_wp2_with fail
      refine wp_region_grow (by kernel_rfl) (by kernel_rfl) ?_
      repeat (go_big_quiet_step (fail))
      refine wpQuiet_end ?_
      intro w3 hb3
      clear e1 e2 e3
      go_wp2_with fail
      go_ret
      exact HP.out _ (by simpa using hb3) (x := (v1 * 131 + v2 * 1117 + p * 29 + q * 53 ^^^ (v1 * 131 + v2 * 1117 + p * 29 + q * 53) / 64) % n) (Nat.mod_lt _ (by omega)) (congrArg (fun t => Ending.returned (.int .i64 t)) (rand_eq v1 v2 p q n hv1 hv2 hp (by omega)))
end Go.Proofs.Ytooojfdjpmfalaa
