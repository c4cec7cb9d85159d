/-
  The walk of the law that the four promises are causes: it returns true. No condition.
-/
import Derived.Test.YtooigcfdkmgjnaaDrawIsCausal
import Derived.Test.YtooigcfdkmgjnaaIsCausal
import Derived.Test.YtooigcfdkmgjnaaBrokenAt
import Derived.Test.YtooigcfdkmgjnaaBrkQ
namespace Go.Proofs.Ytooigcfdkmgjnaa
open Go.RowKit
set_option maxRecDepth 100000

def prs4 : List Pr := [.own, .steady, .row, .follow]
def keepsTo (cs : List AccessD) (k : Nat) : Bool := (prs4.take k).all fun p => (firstB p cs).isNone
theorem pr4_at {k : Nat} (h : k < 4) : ∃ s q, pr4[k]? = some s ∧ prs4[k]? = some q ∧ prOf s = some q := by
  have : k = 0 ∨ k = 1 ∨ k = 2 ∨ k = 3 := by omega
  rcases this with rfl | rfl | rfl | rfl
  · exact ⟨_, _, rfl, rfl, by simp [prOf]⟩
  · exact ⟨_, _, rfl, rfl, by simp [prOf]⟩
  · exact ⟨_, _, rfl, rfl, by simp [prOf]⟩
  · exact ⟨_, _, rfl, rfl, by simp [prOf]⟩
theorem keepsTo_succ {cs : List AccessD} {k : Nat} {q : Pr} (h : prs4[k]? = some q) : keepsTo cs (k + 1) = (keepsTo cs k && (firstB q cs).isNone) := by
  rw [keepsTo, List.take_add_one, h, List.all_append]; simp [keepsTo]
theorem keepsTo_all {cs : List AccessD} (hv : accB cs = true) : keepsTo cs 4 = causalB cs := by
  rw [causal_four hv]
  simp [keepsTo, prs4, Bool.and_assoc]

set_option maxHeartbeats 4000000 in
theorem walk_FnIsCausal (bs : List Int) (A : Option Addr) (cap : Nat) (w : World) (hlc : bs.length ≤ cap) (hcm : cap ≤ maxLen) (hr : RowOf byteVals 1 w A bs) (hg : ∀ d ∈ bs, isByte d) (_hn : A = none → bs.length = 0 ∧ cap = 0) :
    Calls Try.prog 12 #[.slice A bs.length cap] w fun e w' => e = .returned (.bool true) ∧ Below w.heap.size w w' := by
  have hM := hcm
  unfold maxLen at hM
  have HD := Lib.hid (fun (W : World) (hW : RowOf byteVals 1 W A bs) => drawIsCausal_calls bs A bs.length cap W hW hg rfl hlc hcm)
  have HR := Lib.hid hr
  clear hr hg _hn
  generalize bs.length = n at *
  by_cases hbig : 1048576 < n
  · have hI : (1048576 : Int) < (n : Int) := by omega
    go_enter Try.func12, Try.ntmps12
    go_wp2_with fail
    go_ret
    exact ⟨rfl, Below.refl _ _⟩
  have hI : ¬ ((1048576 : Int) < (n : Int)) := by omega
  go_enter Try.func12, Try.ntmps12
  go_wp2_with fail
  refine (HD.out _ HR.out).mono ?_
  intro e w1 hd
  obtain ⟨v, cs, rfl, ho, hl, hb1⟩ := hd
  obtain ⟨Ao, co, rfl, hoc, hom, _⟩ := own_form ho
  have hrow : RowAccesss w1 Ao cs := RowOf.of_own rfl (fun c _ => c.vals_len) ho
  have HRow := Lib.hid hrow
  have HB1 := Lib.hid hb1
  obtain ⟨b, hb⟩ : ∃ b, accB cs = b := ⟨_, rfl⟩
  obtain ⟨q, hq⟩ : ∃ q, causalB cs = q := ⟨_, rfl⟩
  have HV := Lib.hid hb
  have HQ := Lib.hid hq
  clear ho hrow hb1 hb hq
  unfold maxLen at hom
  have HI := Lib.hid (fun (W : World) (hW : RowAccesss W Ao cs) => implIsCausal_calls cs Ao co W hW (by omega) hoc q HQ.out)
  have HS := Lib.hid (fun (W : World) (hW : RowAccesss W Ao cs) => specIsCausal_calls cs Ao co W hW (by omega) q HQ.out)
  have HVE := Lib.hid (fun (W : World) (hW : RowAccesss W Ao cs) => implValidAccesses_calls cs Ao co W hW (by omega) hoc b HV.out)
  have HBr := Lib.hid (fun (s : ByteArray) (p : Pr) (hp : prOf s = some p) (x : Int) (hx : brokeV (some p) cs = (x, true)) (W : World) (hW : RowAccesss W Ao cs) => implBrokenAt_calls s cs Ao cs.length co W hW rfl (by omega) hoc (x, true) (by rw [hp]; exact hx))
  simp only [pairV] at HBr
  obtain ⟨l, hll⟩ : ∃ l, cs.length = l := ⟨_, rfl⟩
  rw [hll] at HI HS HVE HBr hl hoc ⊢
  clear hll
  have hqq : (q != q) = false := by cases q <;> rfl
  have hqe : (q == q) = true := by cases q <;> rfl
  go_wp2_with fail
  refine (HI.out _ HRow.out).mono ?_
  rintro e w2 ⟨rfl, hb2⟩
  have HB2 := Lib.hid hb2
  clear hb2
  go_wp2_with fail
  refine (HS.out _ (HRow.out.below HB2.out)).mono ?_
  rintro e w3 ⟨rfl, hb3⟩
  have HB3 := Lib.hid (below_trans' HB2.out hb3)
  clear hb3
  go_wp2_with fail
  refine (HVE.out _ (HRow.out.below HB3.out)).mono ?_
  rintro e w4 ⟨rfl, hb4⟩
  have HB4 := Lib.hid (below_trans' HB3.out hb4)
  clear hb4
  cases b
  · go_wp2_with fail
    refine (HS.out _ (HRow.out.below HB4.out)).mono ?_
    rintro e w5 ⟨rfl, hb5⟩
    go_wp2_with fail
    go_ret
    exact ⟨rfl, below_trans' HB1.out (below_trans' HB4.out hb5)⟩
  · have hv : accB cs = true := HV.out
    have HNeg := Lib.hid (fun p : Pr => broke_neg (p := p) hv)
    have HAll := Lib.hid (keepsTo_all hv)
    have HCell := Lib.hid (pr4_cells w4)
    clear hv
    go_wp2_with fail
    have hbn : Below w4.heap.size w4 (w4.alloc (.cells #[.string { data := #[111, 119, 110] }, .string { data := #[115, 116, 101, 97, 100, 121] }, .string { data := #[114, 111, 119] }, .string { data := #[102, 111, 108, 108, 111, 119] }] 9)) := below_alloc (Below.refl _ _) _
    obtain ⟨g, hgz⟩ : ∃ g, w4.heap.size = g := ⟨_, rfl⟩
    generalize w4.alloc (.cells #[.string { data := #[111, 119, 110] }, .string { data := #[115, 116, 101, 97, 100, 121] }, .string { data := #[114, 111, 119] }, .string { data := #[102, 111, 108, 108, 111, 119] }] 9) = wn at *
    have HB5 := Lib.hid (below_trans' HB4.out hbn)
    rw [hgz] at HCell ⊢
    clear hbn hgz
    go_loopw [5, 7, 8, 9] (fun al i _ _ wr => ∃ k : Nat, k ≤ 4 ∧ i = .int .i64 k ∧ al = .bool (keepsTo cs k) ∧ Below wn.heap.size wn wr) (fun _ i _ _ _ => 4 - (intOf i).toNat)
    case atStart => exact ⟨0, by omega, rfl, rfl, Below.refl _ _⟩
    case round =>
      obtain ⟨k, hk, rfl, rfl, hb⟩ := hrel
      by_cases hlt : k < 4
      · obtain ⟨s, p, hs, hp, hsp⟩ := pr4_at hlt
        obtain ⟨x, hx, hneg⟩ := HNeg.out p
        have hc := cell_below hb (HCell.out k s hs)
        have hgz : g < wr.heap.size := World.block_lt_of_cell? _ _ hc
        have hsu := keepsTo_succ (cs := cs) hp
        rw [← hneg] at hsu
        have HC := Lib.hid (fun (W : World) (hW : RowAccesss W Ao cs) => HBr.out s p hsp x hx W hW)
        have Hsu := Lib.hid hsu
        have Hb := Lib.hid hb
        clear hs hp hsp hx hneg hb hsu
        generalize keepsTo cs k = f at *
        obtain ⟨m, hm⟩ : ∃ m, decide (x < 0) = m := ⟨_, rfl⟩
        rw [hm] at Hsu
        have hk0 : (0 : Int) ≤ (k : Int) := by omega
        have hk4 : (k : Int) < 4 := by omega
        go_wp2_with fail
        refine (HC.out _ (HRow.out.below (HB5.out.trans (Hb.out.mono HB5.out.size)))).mono ?_
        rintro e w6 ⟨rfl, hb6⟩
        have Hb6 := Lib.hid (below_trans' Hb.out hb6)
        clear hb6
        cases f
        · go_wp2_with fail
          go_roundw
          case rel => exact ⟨k + 1, by omega, by go_num, by rw [Hsu.out]; rfl, Hb6.out⟩
          case measure => simp [intOf]; omega
        · go_wp2_with fail
          go_roundw
          case rel => exact ⟨k + 1, by omega, by go_num, by rw [Hsu.out]; rfl, Hb6.out⟩
          case measure => simp [intOf]; omega
      · have e1 : k = 4 := by omega
        subst e1
        have e2 := HAll.out.trans HQ.out
        rw [e2]
        have Hb := Lib.hid hb
        clear hb e2
        go_wp2_with fail
        go_ret
        exact ⟨rfl, below_trans' HB1.out (below_trans' HB5.out Hb.out)⟩
end Go.Proofs.Ytooigcfdkmgjnaa
