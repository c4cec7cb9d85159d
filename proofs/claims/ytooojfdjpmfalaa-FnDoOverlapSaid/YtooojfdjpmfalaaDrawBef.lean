/-
  The two calls that the generator draws for IsBefore and DoOverlap: small times, each call's end not before its beginning. Asked: at most 2 to the 20 bytes.
-/
import Derived.Test.YtooojfdjpmfalaaSmall
import Derived.Test.YtooojfdjpmfalaaRdr2
import Derived.Test.YtooojfdjpmfalaaHeldT
import Derived.Test.YtooojfdjpmfalaaOwn
import Derived.Deep.DrawnRows
import Derived.IntWalk
namespace Go.Proofs.Ytooojfdjpmfalaa
open Go.RowKit
set_option maxRecDepth 100000
attribute [local go_sem ↓] Go.wp_at_zero Go.wp_at_succ

def CallBlk (w : World) (b : Nat) (c : CallD) : Prop := w.heap[b]? = some (.cells c.vals.toArray 26 (0, 0))
theorem CallBlk.lt {w : World} {b : Nat} {c : CallD} (h : CallBlk w b c) : b < w.heap.size := (Array.getElem?_eq_some_iff.1 h).1
theorem CallBlk.cell {w : World} {b i : Nat} {c : CallD} {v : Value} (h : CallBlk w b c) (hi : c.vals[i]? = some v) : w.cell? ⟨b, i, none⟩ = some v := by
  rw [cell_of_row w b i _ _ _ h]; simpa using hi
theorem CallBlk.free {w : World} {b i : Nat} {c : CallD} (h : CallBlk w b c) : w.frozen? ⟨b, i, none⟩ = false := frozen_of_row w b i _ _ h
theorem CallBlk.grown {w w' : World} {b : Nat} {c : CallD} {row : Option Nat} (h : CallBlk w b c) (hg : w.grownBy w' row) (hne : some b ≠ row) : CallBlk w' b c := (hg.block b h.lt hne).trans h
theorem CallBlk.below {w w' : World} {b : Nat} {c : CallD} (h : CallBlk w b c) (hb : Below w.heap.size w w') : CallBlk w' b c := (hb.block b h.lt).trans h
theorem CallBlk.till {w : World} {b : Nat} {c : CallD} (h : CallBlk w b c) (t : Int) : CallBlk (w.setCell ⟨b, 6, none⟩ (.int .i64 t)) b ⟨c.proc, c.obj, c.kind, c.arg, c.ret, c.fr, t⟩ := by
  have := heap_setCell_same w b 6 _ _ (.int .i64 t) h
  unfold CallBlk
  rw [this]; rfl
theorem set_grown (w : World) (b i : Nat) (v : Value) : w.grownBy (w.setCell ⟨b, i, none⟩ v) (some b) := by
  refine ⟨rfl, rfl, rfl, by simp [World.setCell], fun j hj hne => ?_⟩
  have hgj : b ≠ j := fun e => hne (by rw [e])
  simp [World.setCell, Array.getElem?_modify, hgj]
theorem newReader_at (bs : List Int) (A : Option Addr) (n c : Nat) (w : World) (H : Nat) (hH : w.heap.size = H) (hr : RowOf byteVals 1 w A bs) (hb : ∀ b ∈ bs, isByte b) (hn : bs.length = n) (hc : n ≤ c) (hm : c ≤ maxLen) :
    Calls Try.prog 40 #[.slice A n c] w fun e w' => e = .returned (.pointer (some ⟨H, 0, none⟩)) ∧ Rdr w' H 0 ∧ Below H w w' := by
  subst hH
  exact newReader_calls bs A n c w hr hb hn hc hm
/-- A store of whole cells in a region that draws. -/
theorem step_store_fill {P : Program} {ops : Array Oper} {o : Oper} {a : Act} {w : World} {K : Act → World → Prop} {Q : Exit → Act → World → Prop} {F : Prop} (hgd : o.guard = none) (ty : TypeId) (x y : Operand) (ho : o.op = .store ty x y)
    (g off : Nat) (E : TypeId) (N : Nat) (l vs : List Value) (hx : a.eval x = .pointer (some ⟨g, off, none⟩)) (hv : (a.eval y).cells.toList = vs) (hi : (P.info? ty).map (·.size) = some vs.length) (h1 : ∀ u ∈ vs, u.oneCell' = true)
    (hf : Fill w g E N l) (hoff : off = l.length) (hfit : off + vs.length ≤ N)
    (h : ∀ w', Fill w' g E N (l ++ vs) → w.grownBy w' (some g) → K (a.put o.dst undef) w') : if Region.wanted o (yielded ops a.tmps) = true then Oper.wp P o a w K Q else F := by
  have hw : Region.wanted o (yielded ops a.tmps) = true := by simp [Region.wanted, hgd]
  rw [if_pos hw]
  obtain ⟨w', hr, h2, h3⟩ := run_store_fill (P := P) hv hi h1 hf hoff hfit
  unfold Oper.wp execOp
  simp only [ho, hx, Instr.storeAt, Instr.sureAddr, Sem.run_bind, Sem.run_pure, Result.andThen_ok, hr, Oper.upon]
  exact h w' h2 h3
theorem callvals_one (c : CallD) : ∀ u ∈ c.vals, u.oneCell' = true := by
  intro u hu
  simp only [CallD.vals, List.mem_cons, List.not_mem_nil, or_false] at hu
  rcases hu with rfl | rfl | rfl | rfl | rfl | rfl | rfl <;> rfl
theorem call_size : (Try.prog.info? 26).map (·.size) = some 7 := by kernel_rfl
theorem CallBlk.start {w : World} {b : Nat} {c : CallD} (h : CallBlk w b c) : Fill w b 26 7 [] := ⟨_, h, rfl, rfl⟩
theorem CallBlk.of_fill {w : World} {b : Nat} {c : CallD} (h : Fill w b 26 7 ([] ++ c.vals)) : CallBlk w b c := by
  obtain ⟨cur, hg, hs, ht⟩ := h
  unfold CallBlk
  rw [hg]
  have e : cur.toList = c.vals := by
    have h2 := ht
    rw [List.nil_append, List.take_of_length_le (by simp [hs, CallD.vals])] at h2
    exact h2
  have e2 : cur = c.vals.toArray := by apply Array.ext'; rw [e]
  rw [e2]
def call00 : CallD := ⟨0, 0, 0, 0, 0, 0, 0⟩
def callF (x : Nat) : CallD := ⟨0, 0, 0, 0, 0, (x : Int), 0⟩
def callFT (x y : Nat) : CallD := ⟨0, 0, 0, 0, 0, (x : Int), ((x + y : Nat) : Int)⟩
def DrewTwo (w w' : World) (e : Ending) : Prop := ∃ x1 y1 x2 y2 : Nat, x1 < 8 ∧ y1 < 5 ∧ x2 < 8 ∧ y2 < 5 ∧ e = .returned (.tuple #[(callFT x1 y1).val, (callFT x2 y2).val]) ∧ Below w.heap.size w w'

set_option maxHeartbeats 4000000 in
theorem IsBeforeDraw_calls (bs : List Int) (A : Option Addr) (c : Nat) (w : World) (hr : RowOf byteVals 1 w A bs) (hb : ∀ b ∈ bs, isByte b) (hc : bs.length ≤ c) (hm : c ≤ maxLen) :
    Calls Try.prog 20 #[.slice A bs.length c] w fun e w' => DrewTwo w w' e := by
  have HR := Lib.hid hr
  have HB := Lib.hid hb
  clear hr hb
  generalize hn : bs.length = n at *
  have Hn := Lib.hid hn
  clear hn
  go_enter Try.func20, Try.ntmps20
  go_wp2_with fail
  refine (newReader_at bs A n c _ (w.heap.size + 2) (by simp) (HR.out.below (below_alloc (below_alloc (Below.refl _ _) _) _)) HB.out Hn.out hc hm).mono ?_
  rintro e w1 ⟨rfl, hr1, hb1⟩
  have K0 : CallBlk w1 w.heap.size call00 := (hb1.block _ (by omega)).trans ((heap_alloc_old _ _ (by simp)).trans (heap_alloc_new w _))
  have K1 : CallBlk w1 (w.heap.size + 1) call00 := (hb1.block _ (by omega)).trans (heap_alloc2_new w _ _)
  have hW1 : Below w.heap.size w w1 := (below_alloc (below_alloc (Below.refl _ _) _) _).trans (hb1.mono (by omega))
  have hs1 : w.heap.size + 2 < w1.heap.size := hr1.lt
  have Hr1 := Lib.hid hr1
  have HK0 := Lib.hid K0
  have HK1 := Lib.hid K1
  have HW1 := Lib.hid hW1
  clear hr1 K0 K1 hW1 hb1
  go_wp2_with fail
  refine (pick_calls (w.heap.size + 2) 0 8 _ Hr1.out (by omega) (by omega) (by omega)).mono ?_
  intro e w2 hpk
  obtain ⟨x1, hx1, rfl, hr2, hg2⟩ := hpk
  have hs2 := hg2.size
  have K0 := HK0.out.grown hg2 (by simp <;> omega)
  have K1 := HK1.out.grown hg2 (by simp <;> omega)
  have hW2 : Below w.heap.size w w2 := HW1.out.grown hg2 HW1.out.size (by intro k hk; injection hk with hk; omega)
  have Hr2 := Lib.hid hr2
  have HK0 := Lib.hid K0
  have HK1 := Lib.hid K1
  have HW2 := Lib.hid hW2
  clear hr2 K0 K1 hW2 hg2
  go_wp2_with fail
  have ba0 : CallBlk (w2.alloc (.cells (callF x1).vals.toArray 26)) w2.heap.size (callF x1) := heap_alloc_new _ _
  refine (pick_calls (w.heap.size + 2) 1 8 _ (Hr2.out.below (below_alloc (Below.refl _ _) _)) (by omega) (by omega) (by omega)).mono ?_
  intro e w3 hpk
  obtain ⟨x2, hx2, rfl, hr3, hg3⟩ := hpk
  have hs3 := hg3.size
  simp only [World.size_alloc] at hs3
  have ba := ba0.grown hg3 (by simp <;> omega)
  have K0 := (HK0.out.below (below_alloc (Below.refl _ _) _)).grown hg3 (by simp <;> omega)
  have K1 := (HK1.out.below (below_alloc (Below.refl _ _) _)).grown hg3 (by simp <;> omega)
  have hW3 : Below w.heap.size w w3 := (below_alloc HW2.out _).grown hg3 (Nat.le_trans HW2.out.size (by simp)) (by intro k hk; injection hk with hk; omega)
  obtain ⟨a, ha⟩ : ∃ a, w2.heap.size = a := ⟨_, rfl⟩
  rw [ha] at ba hs3
  have hal : w.heap.size + 2 < a := by omega
  have Ha := Lib.hid ha
  have Hr3 := Lib.hid hr3
  have HK0 := Lib.hid K0
  have HK1 := Lib.hid K1
  have HW3 := Lib.hid hW3
  have HBA := Lib.hid ba
  clear hr3 K0 K1 hW3 hg3 ba0 ba
  go_wp2_with fail
  try rw [ha]
  clear ha
  have bb0 : CallBlk (w3.alloc (.cells #[.int .i64 0, .int .i64 0, .int .i64 0, .int .i64 0, .int .i64 0, .int .i64 x2, .int .i64 0] 26)) w3.heap.size (callF x2) := heap_alloc_new _ _
  generalize hw4 : w3.alloc _ = w4 at *
  have hb4 : Below w3.heap.size w3 w4 := by rw [← hw4]; exact below_alloc (Below.refl _ _) _
  have hs4 : w3.heap.size < w4.heap.size := bb0.lt
  have ba := HBA.out.below hb4
  have K0 := HK0.out.below hb4
  have K1 := HK1.out.below hb4
  have hr4 := Hr3.out.below hb4
  have hW4 : Below w.heap.size w w4 := below_trans' HW3.out hb4
  obtain ⟨b, hbb⟩ : ∃ b, w3.heap.size = b := ⟨_, rfl⟩
  have hbl : a < b := by omega
  rw [hbb] at bb0 hs4 ⊢
  clear hw4 hbb hb4
  have ca : w4.cell? ⟨a, 5, none⟩ = some (.int .i64 x1) := ba.cell (i := 5) rfl
  have Hr4 := Lib.hid hr4
  have HK0 := Lib.hid K0
  have HK1 := Lib.hid K1
  have HW4 := Lib.hid hW4
  have HBA := Lib.hid ba
  have HBB := Lib.hid bb0
  clear hr4 K0 K1 hW4 ba bb0
  have hx1' : (x1 : Int) ≤ 8 := by omega
  have hx2' : (x2 : Int) ≤ 8 := by omega
  have hx10 : (0 : Int) ≤ (x1 : Int) := by omega
  have hx20 : (0 : Int) ≤ (x2 : Int) := by omega
  refine tailed_start 5 (fun w' => w'.cell? ⟨a, 5, none⟩ = some (.int .i64 x1)) (by kernel_rfl) ?_ (fun hHeld => ?_)
  · exact ca
  refine Tailed.pure (i := 0) (v := ?hv1) rfl (by kernel_rfl) (by kernel_rfl) (by kernel_rfl) (by omega) (by kernel_rfl) (by kernel_rfl) (fun _ _ _ h => h) (by assumption) (Or.inl ⟨by rfl, ?hy1⟩) ?hr1
  case hy1 => (intro w' _hSw; go_simp; try with_reducible rfl)
  (try simp only [Act.put, List.getElem_toArray, List.getElem_cons_zero, List.setIfInBounds_toArray, List.set_cons_zero, List.set_cons_succ])
  refine Tailed.take (i := 1) (v := ?hv2) rfl (by kernel_rfl) (by kernel_rfl) (by kernel_rfl) (by kernel_rfl) (by kernel_rfl) (by kernel_rfl) (fun _ _ _ h => h) (by assumption) (Or.inl ⟨by rfl, ?hy2⟩) ?hr2
  case hy2 => (intro w' hSw; (try dsimp only at hSw); go_simp; try with_reducible rfl)
  (try simp only [Act.put, List.getElem_toArray, List.getElem_cons_zero, List.getElem_cons_succ, List.setIfInBounds_toArray, List.set_cons_zero, List.set_cons_succ])
  refine Tailed.pure (i := 2) (v := ?hv3) rfl (by kernel_rfl) (by kernel_rfl) (by kernel_rfl) (by omega) (by kernel_rfl) (by kernel_rfl) (fun _ _ _ h => h) (by assumption) (Or.inl ⟨by rfl, ?hy3⟩) ?hr3
  case hy3 => (intro w' _hSw; go_simp; try with_reducible rfl)
  (try simp only [Act.put, List.getElem_toArray, List.getElem_cons_zero, List.getElem_cons_succ, List.setIfInBounds_toArray, List.set_cons_zero, List.set_cons_succ])
  refine Tailed.ways (rs := [3]) (by kernel_rfl) (by simp) ?_
  refine TailedAll.cons rfl (fun K hK => ?_) ?_
  · skip
    go_simp
    refine (pick_calls (w.heap.size + 2) 2 5 _ (show Rdr w4.drew _ _ from Hr4.out) (by omega) (by omega) (by omega)).mono ?_
    intro e w5 hpk
    obtain ⟨y1, hy1, rfl, hr5', hg5'⟩ := hpk
    have hg5 : w4.grownBy w5 (some (w.heap.size + 2)) := ⟨hg5'.os, hg5'.tape, hg5'.output, hg5'.size, hg5'.block⟩
    have hs5 := hg5.size
    have ba5 := Lib.hid (HBA.out.grown hg5 (by simp <;> omega))
    have bb5 := Lib.hid (HBB.out.grown hg5 (by simp <;> omega))
    have K05 := Lib.hid (HK0.out.grown hg5 (by simp <;> omega))
    have K15 := Lib.hid (HK1.out.grown hg5 (by simp <;> omega))
    have HW5 := Lib.hid (HW4.out.grown hg5 HW4.out.size (by intro k hk; injection hk with hk; omega))
    have hr5 := Lib.hid hr5'
    have ca5 := ba5.out.cell (i := 5) rfl
    have hy1' : (y1 : Int) ≤ 5 := by omega
    have hy10 : (0 : Int) ≤ (y1 : Int) := by omega
    have ew : IntKind.i64.wrap ((x1 : Int) + (y1 : Int)) = (x1 : Int) + (y1 : Int) := IntWalk.i64_in _ (by omega)
    clear hr5' hg5' hg5
    go_wp2_with fail
    refine hK.out _ _ ?_ (fun hHeld => ?_)
    · exact ca5
    clear hK K
    (try simp only [Act.put, List.getElem_toArray, List.getElem_cons_zero, List.getElem_cons_succ, List.setIfInBounds_toArray, List.set_cons_zero, List.set_cons_succ])
    refine Tailed.pure (i := 4) (v := ?hv4) rfl (by kernel_rfl) (by kernel_rfl) (by kernel_rfl) (by omega) (by kernel_rfl) (by kernel_rfl) (fun _ _ _ h => h) (by assumption) (Or.inl ⟨by rfl, ?hy4⟩) ?hr4
    case hy4 => (intro w' _hSw; go_simp; try with_reducible rfl)
    (try simp only [Act.put, List.getElem_toArray, List.getElem_cons_zero, List.getElem_cons_succ, List.setIfInBounds_toArray, List.set_cons_zero, List.set_cons_succ])
    refine Tailed.ways (rs := [5]) (by kernel_rfl) (by simp) ?_
    refine TailedAll.tail rfl (by kernel_rfl) (fun K hK => ?_) ?_
    · skip
      go_simp
      refine hK.out _ _ ?_
      clear hK K
      (try simp only [Act.put, List.getElem_toArray, List.getElem_cons_zero, List.getElem_cons_succ, List.setIfInBounds_toArray, List.set_cons_zero, List.set_cons_succ])
      refine Tailed.ways (rs := [6]) (by kernel_rfl) (by simp) ?_
      refine TailedAll.tail rfl (by kernel_rfl) (fun K hK => ?_) ?_
      · skip
        have f6 := ba5.out.free (i := 6)
        have c6 := ba5.out.cell (i := 6) rfl
        go_simp
        refine hK.out _ _ ?_
        clear hK K
        (try simp only [Act.put, List.getElem_toArray, List.getElem_cons_zero, List.getElem_cons_succ, List.setIfInBounds_toArray, List.set_cons_zero, List.set_cons_succ])
        refine Tailed.done (by kernel_rfl) ?_
        go_wp2_with fail
        have hst : Below w.heap.size w (w5.setCell ⟨a, 6, none⟩ (.int .i64 ((x1 + y1 : Nat) : Int))) := HW5.out.grown (set_grown w5 a 6 _) HW5.out.size (by intro k hk; injection hk with hk; omega)
        have ba : CallBlk (w5.setCell ⟨a, 6, none⟩ (.int .i64 ((x1 + y1 : Nat) : Int))) a (callFT x1 y1) := ba5.out.till _
        have bb := bb5.out.grown (set_grown w5 a 6 (.int .i64 ((x1 + y1 : Nat) : Int))) (by simp <;> omega)
        have K0 := K05.out.grown (set_grown w5 a 6 (.int .i64 ((x1 + y1 : Nat) : Int))) (by simp <;> omega)
        have K1 := K15.out.grown (set_grown w5 a 6 (.int .i64 ((x1 + y1 : Nat) : Int))) (by simp <;> omega)
        have hr6 := hr5.out.grown (set_grown w5 a 6 (.int .i64 ((x1 + y1 : Nat) : Int))) (by intro k hk; injection hk with hk; omega)
        have hs6 : w5.heap.size ≤ (w5.setCell ⟨a, 6, none⟩ (.int .i64 ((x1 + y1 : Nat) : Int))).heap.size := (set_grown w5 a 6 _).size
        have e6 : ((x1 + y1 : Nat) : Int) = (x1 : Int) + (y1 : Int) := by omega
        rw [e6] at hst ba bb K0 K1 hr6 hs6
        generalize w5.setCell ⟨a, 6, none⟩ (.int .i64 ((x1 : Int) + (y1 : Int))) = w6 at *
        have cb : w6.cell? ⟨b, 5, none⟩ = some (.int .i64 x2) := bb.cell (i := 5) rfl
        have HBA := Lib.hid ba
        have HBB := Lib.hid bb
        have HK0 := Lib.hid K0
        have HK1 := Lib.hid K1
        have Hr4 := Lib.hid hr6
        have HW4 := Lib.hid hst
        clear ba bb K0 K1 hr6 hst ca ca5 e6
        refine tailed_start 5 (fun w' => w'.cell? ⟨b, 5, none⟩ = some (.int .i64 x2)) (by kernel_rfl) ?_ (fun hHeld => ?_)
        · exact cb
        refine Tailed.pure (i := 0) (v := ?hv101) rfl (by kernel_rfl) (by kernel_rfl) (by kernel_rfl) (by omega) (by kernel_rfl) (by kernel_rfl) (fun _ _ _ h => h) (by assumption) (Or.inl ⟨by rfl, ?hy101⟩) ?hr101
        case hy101 => (intro w' _hSw; go_simp; try with_reducible rfl)
        (try simp only [Act.put, List.getElem_toArray, List.getElem_cons_zero, List.setIfInBounds_toArray, List.set_cons_zero, List.set_cons_succ])
        refine Tailed.take (i := 1) (v := ?hv102) rfl (by kernel_rfl) (by kernel_rfl) (by kernel_rfl) (by kernel_rfl) (by kernel_rfl) (by kernel_rfl) (fun _ _ _ h => h) (by assumption) (Or.inl ⟨by rfl, ?hy102⟩) ?hr102
        case hy102 => (intro w' hSw; (try dsimp only at hSw); go_simp; try with_reducible rfl)
        (try simp only [Act.put, List.getElem_toArray, List.getElem_cons_zero, List.getElem_cons_succ, List.setIfInBounds_toArray, List.set_cons_zero, List.set_cons_succ])
        refine Tailed.pure (i := 2) (v := ?hv103) rfl (by kernel_rfl) (by kernel_rfl) (by kernel_rfl) (by omega) (by kernel_rfl) (by kernel_rfl) (fun _ _ _ h => h) (by assumption) (Or.inl ⟨by rfl, ?hy103⟩) ?hr103
        case hy103 => (intro w' _hSw; go_simp; try with_reducible rfl)
        (try simp only [Act.put, List.getElem_toArray, List.getElem_cons_zero, List.getElem_cons_succ, List.setIfInBounds_toArray, List.set_cons_zero, List.set_cons_succ])
        refine Tailed.ways (rs := [3]) (by kernel_rfl) (by simp) ?_
        refine TailedAll.cons rfl (fun K hK => ?_) ?_
        · skip
          go_simp
          refine (pick_calls (w.heap.size + 2) 3 5 _ (show Rdr w6.drew _ _ from Hr4.out) (by omega) (by omega) (by omega)).mono ?_
          intro e w7 hpk
          obtain ⟨y2, hy2, rfl, hr7', hg7'⟩ := hpk
          have hg7 : w6.grownBy w7 (some (w.heap.size + 2)) := ⟨hg7'.os, hg7'.tape, hg7'.output, hg7'.size, hg7'.block⟩
          have hs7 := hg7.size
          have ba7 := Lib.hid (HBA.out.grown hg7 (by simp <;> omega))
          have bb7 := Lib.hid (HBB.out.grown hg7 (by simp <;> omega))
          have K07 := Lib.hid (HK0.out.grown hg7 (by simp <;> omega))
          have K17 := Lib.hid (HK1.out.grown hg7 (by simp <;> omega))
          have HW7 := Lib.hid (HW4.out.grown hg7 HW4.out.size (by intro k hk; injection hk with hk; omega))
          have cb7 := bb7.out.cell (i := 5) rfl
          have hy2' : (y2 : Int) ≤ 5 := by omega
          have hy20 : (0 : Int) ≤ (y2 : Int) := by omega
          have ew2 : IntKind.i64.wrap ((x2 : Int) + (y2 : Int)) = (x2 : Int) + (y2 : Int) := IntWalk.i64_in _ (by omega)
          clear hr7' hg7' hg7
          go_wp2_with fail
          refine hK.out _ _ ?_ (fun hHeld => ?_)
          · exact cb7
          clear hK K
          (try simp only [Act.put, List.getElem_toArray, List.getElem_cons_zero, List.getElem_cons_succ, List.setIfInBounds_toArray, List.set_cons_zero, List.set_cons_succ])
          refine Tailed.pure (i := 4) (v := ?hv104) rfl (by kernel_rfl) (by kernel_rfl) (by kernel_rfl) (by omega) (by kernel_rfl) (by kernel_rfl) (fun _ _ _ h => h) (by assumption) (Or.inl ⟨by rfl, ?hy104⟩) ?hr104
          case hy104 => (intro w' _hSw; go_simp; try with_reducible rfl)
          (try simp only [Act.put, List.getElem_toArray, List.getElem_cons_zero, List.getElem_cons_succ, List.setIfInBounds_toArray, List.set_cons_zero, List.set_cons_succ])
          refine Tailed.ways (rs := [5]) (by kernel_rfl) (by simp) ?_
          refine TailedAll.tail rfl (by kernel_rfl) (fun K hK => ?_) ?_
          · skip
            go_simp
            refine hK.out _ _ ?_
            clear hK K
            (try simp only [Act.put, List.getElem_toArray, List.getElem_cons_zero, List.getElem_cons_succ, List.setIfInBounds_toArray, List.set_cons_zero, List.set_cons_succ])
            refine Tailed.ways (rs := [6]) (by kernel_rfl) (by simp) ?_
            refine TailedAll.tail rfl (by kernel_rfl) (fun K hK => ?_) ?_
            · skip
              have f6 := bb7.out.free (i := 6)
              have c6 := bb7.out.cell (i := 6) rfl
              go_simp
              refine hK.out _ _ ?_
              clear hK K
              (try simp only [Act.put, List.getElem_toArray, List.getElem_cons_zero, List.getElem_cons_succ, List.setIfInBounds_toArray, List.set_cons_zero, List.set_cons_succ])
              refine Tailed.done (by kernel_rfl) ?_
              go_wp2_with fail
              have hst : Below w.heap.size w (w7.setCell ⟨b, 6, none⟩ (.int .i64 ((x2 + y2 : Nat) : Int))) := HW7.out.grown (set_grown w7 b 6 _) HW7.out.size (by intro k hk; injection hk with hk; omega)
              have bb : CallBlk (w7.setCell ⟨b, 6, none⟩ (.int .i64 ((x2 + y2 : Nat) : Int))) b (callFT x2 y2) := bb7.out.till _
              have ba := ba7.out.grown (set_grown w7 b 6 (.int .i64 ((x2 + y2 : Nat) : Int))) (by simp <;> omega)
              have K0 := K07.out.grown (set_grown w7 b 6 (.int .i64 ((x2 + y2 : Nat) : Int))) (by simp <;> omega)
              have K1 := K17.out.grown (set_grown w7 b 6 (.int .i64 ((x2 + y2 : Nat) : Int))) (by simp <;> omega)
              have e6 : ((x2 + y2 : Nat) : Int) = (x2 : Int) + (y2 : Int) := by omega
              rw [e6] at hst bb ba K0 K1
              generalize w7.setCell ⟨b, 6, none⟩ (.int .i64 ((x2 : Int) + (y2 : Int))) = w8 at *
              have hW8 := Lib.hid hst
              clear e6 hst cb cb7
              have hsz8 : b < w8.heap.size := bb.lt
              have A0 := ba.cell (i := 0) rfl
              have A1 := ba.cell (i := 1) rfl
              have A2 := ba.cell (i := 2) rfl
              have A3 := ba.cell (i := 3) rfl
              have A4 := ba.cell (i := 4) rfl
              have A5 := ba.cell (i := 5) rfl
              have A6 := ba.cell (i := 6) rfl
              have B0 := bb.cell (i := 0) rfl
              have B1 := bb.cell (i := 1) rfl
              have B2 := bb.cell (i := 2) rfl
              have B3 := bb.cell (i := 3) rfl
              have B4 := bb.cell (i := 4) rfl
              have B5 := bb.cell (i := 5) rfl
              have B6 := bb.cell (i := 6) rfl
              have HBA := Lib.hid ba
              have HBB := Lib.hid bb
              have HK0 := Lib.hid K0
              have HK1 := Lib.hid K1
              clear ba bb K0 K1
              refine tailed_start 3 (fun w' => w'.cell? ⟨a, 0, none⟩ = some (.int .i64 0) ∧ w'.cell? ⟨a, 1, none⟩ = some (.int .i64 0) ∧ w'.cell? ⟨a, 2, none⟩ = some (.int .i64 0) ∧ w'.cell? ⟨a, 3, none⟩ = some (.int .i64 0) ∧ w'.cell? ⟨a, 4, none⟩ = some (.int .i64 0) ∧ w'.cell? ⟨a, 5, none⟩ = some (.int .i64 x1) ∧ w'.cell? ⟨a, 6, none⟩ = some (.int .i64 ((x1 + y1 : Nat) : Int)) ∧ w'.cell? ⟨b, 0, none⟩ = some (.int .i64 0) ∧ w'.cell? ⟨b, 1, none⟩ = some (.int .i64 0) ∧ w'.cell? ⟨b, 2, none⟩ = some (.int .i64 0) ∧ w'.cell? ⟨b, 3, none⟩ = some (.int .i64 0) ∧ w'.cell? ⟨b, 4, none⟩ = some (.int .i64 0) ∧ w'.cell? ⟨b, 5, none⟩ = some (.int .i64 x2) ∧ w'.cell? ⟨b, 6, none⟩ = some (.int .i64 ((x2 + y2 : Nat) : Int))) (by kernel_rfl) ?_ (fun hHeld => ?_)
              · exact ⟨A0, A1, A2, A3, A4, A5, A6, B0, B1, B2, B3, B4, B5, B6⟩
              refine Tailed.take (i := 0) (v := ?hv201) rfl (by kernel_rfl) (by kernel_rfl) (by kernel_rfl) (by kernel_rfl) (by kernel_rfl) (by kernel_rfl) (fun _ _ _ h => h) (by assumption) (Or.inl ⟨by rfl, ?hy201⟩) ?hr201
              case hy201 => (intro w' hSw; (try dsimp only at hSw); go_simp; try with_reducible rfl)
              (try simp only [Act.put, List.getElem_toArray, List.getElem_cons_zero, List.setIfInBounds_toArray, List.set_cons_zero, List.set_cons_succ])
              refine Tailed.take (i := 1) (v := ?hv202) rfl (by kernel_rfl) (by kernel_rfl) (by kernel_rfl) (by kernel_rfl) (by kernel_rfl) (by kernel_rfl) (fun _ _ _ h => h) (by assumption) (Or.inl ⟨by rfl, ?hy202⟩) ?hr202
              case hy202 => (intro w' hSw; (try dsimp only at hSw); go_simp; try with_reducible rfl)
              (try simp only [Act.put, List.getElem_toArray, List.getElem_cons_zero, List.getElem_cons_succ, List.setIfInBounds_toArray, List.set_cons_zero, List.set_cons_succ])
              refine Tailed.ways (rs := [2]) (by kernel_rfl) (by simp) ?_
              refine TailedAll.cons rfl (fun K hK => ?_) ?_
              · skip
                refine step_store_fill rfl 26 (.tmp 2) (.tmp 27) rfl w.heap.size 0 26 7 [] (callFT x1 y1).vals (by rfl) (by rfl) call_size (callvals_one _) (show Fill w8.drew _ _ _ _ from HK0.out.start) rfl (by show 0 + 7 ≤ 7; omega) ?_
                intro w9 hf9 hg9
                have k9 := CallBlk.of_fill hf9
                have ba9 := HBA.out.grown (row := some w.heap.size) ⟨hg9.os, hg9.tape, hg9.output, hg9.size, hg9.block⟩ (by simp <;> omega)
                have bb9 := HBB.out.grown (row := some w.heap.size) ⟨hg9.os, hg9.tape, hg9.output, hg9.size, hg9.block⟩ (by simp <;> omega)
                have k19 := HK1.out.grown (row := some w.heap.size) ⟨hg9.os, hg9.tape, hg9.output, hg9.size, hg9.block⟩ (by simp <;> omega)
                have HW9 : Below w.heap.size w w9 := hW8.out.grown (row := some w.heap.size) ⟨hg9.os, hg9.tape, hg9.output, hg9.size, hg9.block⟩ hW8.out.size (by intro k hk; injection hk with hk; omega)
                clear hf9
                refine hK.out _ _ ?_ (fun hHeld => ?_)
                · exact ⟨ba9.cell (i := 0) rfl, ba9.cell (i := 1) rfl, ba9.cell (i := 2) rfl, ba9.cell (i := 3) rfl, ba9.cell (i := 4) rfl, ba9.cell (i := 5) rfl, ba9.cell (i := 6) rfl, bb9.cell (i := 0) rfl, bb9.cell (i := 1) rfl, bb9.cell (i := 2) rfl, bb9.cell (i := 3) rfl, bb9.cell (i := 4) rfl, bb9.cell (i := 5) rfl, bb9.cell (i := 6) rfl⟩
                clear hK K
                (try simp only [Act.put, List.getElem_toArray, List.getElem_cons_zero, List.getElem_cons_succ])
                refine Tailed.ways (rs := [3]) (by kernel_rfl) (by simp) ?_
                refine TailedAll.tail rfl (by kernel_rfl) (fun K hK => ?_) ?_
                · skip
                  refine step_store_fill rfl 26 (.tmp 3) (.tmp 28) rfl (w.heap.size + 1) 0 26 7 [] (callFT x2 y2).vals (by rfl) (by rfl) call_size (callvals_one _) k19.start rfl (by show 0 + 7 ≤ 7; omega) ?_
                  intro w10 hf10 hg10
                  have k10 := k9.grown hg10 (by simp)
                  have k110 := CallBlk.of_fill hf10
                  have HW10 : Below w.heap.size w w10 := HW9.grown hg10 HW9.size (by intro k hk; injection hk with hk; omega)
                  clear hf10
                  refine hK.out _ _ ?_
                  clear hK K
                  (try simp only [Act.put, List.getElem_toArray, List.getElem_cons_zero, List.getElem_cons_succ])
                  refine Tailed.done (by kernel_rfl) ?_
                  go_wp2_with fail
                  have u0a := k10.cell (i := 0) rfl
                  have u0b := k110.cell (i := 0) rfl
                  have u1a := k10.cell (i := 1) rfl
                  have u1b := k110.cell (i := 1) rfl
                  have u2a := k10.cell (i := 2) rfl
                  have u2b := k110.cell (i := 2) rfl
                  have u3a := k10.cell (i := 3) rfl
                  have u3b := k110.cell (i := 3) rfl
                  have u4a := k10.cell (i := 4) rfl
                  have u4b := k110.cell (i := 4) rfl
                  have u5a := k10.cell (i := 5) rfl
                  have u5b := k110.cell (i := 5) rfl
                  have u6a := k10.cell (i := 6) rfl
                  have u6b := k110.cell (i := 6) rfl
                  exact bodyPost_ret (v := .tuple #[(callFT x1 y1).val, (callFT x2 y2).val]) (by simp [results, Try.results20, go_sem, u0a, u1a, u2a, u3a, u4a, u5a, u6a, u0b, u1b, u2b, u3b, u4b, u5b, u6b]) rfl ⟨x1, y1, x2, y2, hx1, hy1, hx2, hy2, rfl, HW10⟩
                exact TailedAll.nil
              exact TailedAll.nil
            exact TailedAll.nil
          exact TailedAll.nil
        exact TailedAll.nil
      exact TailedAll.nil
    exact TailedAll.nil
  exact TailedAll.nil

set_option maxHeartbeats 4000000 in
theorem DoOverlapDraw_calls (bs : List Int) (A : Option Addr) (c : Nat) (w : World) (hr : RowOf byteVals 1 w A bs) (hb : ∀ b ∈ bs, isByte b) (hc : bs.length ≤ c) (hm : c ≤ maxLen) :
    Calls Try.prog 21 #[.slice A bs.length c] w fun e w' => DrewTwo w w' e := by
  have HR := Lib.hid hr
  have HB := Lib.hid hb
  clear hr hb
  generalize hn : bs.length = n at *
  have Hn := Lib.hid hn
  clear hn
  go_enter Try.func21, Try.ntmps21
  go_wp2_with fail
  refine (newReader_at bs A n c _ (w.heap.size + 2) (by simp) (HR.out.below (below_alloc (below_alloc (Below.refl _ _) _) _)) HB.out Hn.out hc hm).mono ?_
  rintro e w1 ⟨rfl, hr1, hb1⟩
  have K0 : CallBlk w1 w.heap.size call00 := (hb1.block _ (by omega)).trans ((heap_alloc_old _ _ (by simp)).trans (heap_alloc_new w _))
  have K1 : CallBlk w1 (w.heap.size + 1) call00 := (hb1.block _ (by omega)).trans (heap_alloc2_new w _ _)
  have hW1 : Below w.heap.size w w1 := (below_alloc (below_alloc (Below.refl _ _) _) _).trans (hb1.mono (by omega))
  have hs1 : w.heap.size + 2 < w1.heap.size := hr1.lt
  have Hr1 := Lib.hid hr1
  have HK0 := Lib.hid K0
  have HK1 := Lib.hid K1
  have HW1 := Lib.hid hW1
  clear hr1 K0 K1 hW1 hb1
  go_wp2_with fail
  refine (pick_calls (w.heap.size + 2) 0 8 _ Hr1.out (by omega) (by omega) (by omega)).mono ?_
  intro e w2 hpk
  obtain ⟨x1, hx1, rfl, hr2, hg2⟩ := hpk
  have hs2 := hg2.size
  have K0 := HK0.out.grown hg2 (by simp <;> omega)
  have K1 := HK1.out.grown hg2 (by simp <;> omega)
  have hW2 : Below w.heap.size w w2 := HW1.out.grown hg2 HW1.out.size (by intro k hk; injection hk with hk; omega)
  have Hr2 := Lib.hid hr2
  have HK0 := Lib.hid K0
  have HK1 := Lib.hid K1
  have HW2 := Lib.hid hW2
  clear hr2 K0 K1 hW2 hg2
  go_wp2_with fail
  have ba0 : CallBlk (w2.alloc (.cells (callF x1).vals.toArray 26)) w2.heap.size (callF x1) := heap_alloc_new _ _
  refine (pick_calls (w.heap.size + 2) 1 8 _ (Hr2.out.below (below_alloc (Below.refl _ _) _)) (by omega) (by omega) (by omega)).mono ?_
  intro e w3 hpk
  obtain ⟨x2, hx2, rfl, hr3, hg3⟩ := hpk
  have hs3 := hg3.size
  simp only [World.size_alloc] at hs3
  have ba := ba0.grown hg3 (by simp <;> omega)
  have K0 := (HK0.out.below (below_alloc (Below.refl _ _) _)).grown hg3 (by simp <;> omega)
  have K1 := (HK1.out.below (below_alloc (Below.refl _ _) _)).grown hg3 (by simp <;> omega)
  have hW3 : Below w.heap.size w w3 := (below_alloc HW2.out _).grown hg3 (Nat.le_trans HW2.out.size (by simp)) (by intro k hk; injection hk with hk; omega)
  obtain ⟨a, ha⟩ : ∃ a, w2.heap.size = a := ⟨_, rfl⟩
  rw [ha] at ba hs3
  have hal : w.heap.size + 2 < a := by omega
  have Ha := Lib.hid ha
  have Hr3 := Lib.hid hr3
  have HK0 := Lib.hid K0
  have HK1 := Lib.hid K1
  have HW3 := Lib.hid hW3
  have HBA := Lib.hid ba
  clear hr3 K0 K1 hW3 hg3 ba0 ba
  go_wp2_with fail
  try rw [ha]
  clear ha
  have bb0 : CallBlk (w3.alloc (.cells #[.int .i64 0, .int .i64 0, .int .i64 0, .int .i64 0, .int .i64 0, .int .i64 x2, .int .i64 0] 26)) w3.heap.size (callF x2) := heap_alloc_new _ _
  generalize hw4 : w3.alloc _ = w4 at *
  have hb4 : Below w3.heap.size w3 w4 := by rw [← hw4]; exact below_alloc (Below.refl _ _) _
  have hs4 : w3.heap.size < w4.heap.size := bb0.lt
  have ba := HBA.out.below hb4
  have K0 := HK0.out.below hb4
  have K1 := HK1.out.below hb4
  have hr4 := Hr3.out.below hb4
  have hW4 : Below w.heap.size w w4 := below_trans' HW3.out hb4
  obtain ⟨b, hbb⟩ : ∃ b, w3.heap.size = b := ⟨_, rfl⟩
  have hbl : a < b := by omega
  rw [hbb] at bb0 hs4 ⊢
  clear hw4 hbb hb4
  have ca : w4.cell? ⟨a, 5, none⟩ = some (.int .i64 x1) := ba.cell (i := 5) rfl
  have Hr4 := Lib.hid hr4
  have HK0 := Lib.hid K0
  have HK1 := Lib.hid K1
  have HW4 := Lib.hid hW4
  have HBA := Lib.hid ba
  have HBB := Lib.hid bb0
  clear hr4 K0 K1 hW4 ba bb0
  have hx1' : (x1 : Int) ≤ 8 := by omega
  have hx2' : (x2 : Int) ≤ 8 := by omega
  have hx10 : (0 : Int) ≤ (x1 : Int) := by omega
  have hx20 : (0 : Int) ≤ (x2 : Int) := by omega
  refine tailed_start 5 (fun w' => w'.cell? ⟨a, 5, none⟩ = some (.int .i64 x1)) (by kernel_rfl) ?_ (fun hHeld => ?_)
  · exact ca
  refine Tailed.pure (i := 0) (v := ?hv1) rfl (by kernel_rfl) (by kernel_rfl) (by kernel_rfl) (by omega) (by kernel_rfl) (by kernel_rfl) (fun _ _ _ h => h) (by assumption) (Or.inl ⟨by rfl, ?hy1⟩) ?hr1
  case hy1 => (intro w' _hSw; go_simp; try with_reducible rfl)
  (try simp only [Act.put, List.getElem_toArray, List.getElem_cons_zero, List.setIfInBounds_toArray, List.set_cons_zero, List.set_cons_succ])
  refine Tailed.take (i := 1) (v := ?hv2) rfl (by kernel_rfl) (by kernel_rfl) (by kernel_rfl) (by kernel_rfl) (by kernel_rfl) (by kernel_rfl) (fun _ _ _ h => h) (by assumption) (Or.inl ⟨by rfl, ?hy2⟩) ?hr2
  case hy2 => (intro w' hSw; (try dsimp only at hSw); go_simp; try with_reducible rfl)
  (try simp only [Act.put, List.getElem_toArray, List.getElem_cons_zero, List.getElem_cons_succ, List.setIfInBounds_toArray, List.set_cons_zero, List.set_cons_succ])
  refine Tailed.pure (i := 2) (v := ?hv3) rfl (by kernel_rfl) (by kernel_rfl) (by kernel_rfl) (by omega) (by kernel_rfl) (by kernel_rfl) (fun _ _ _ h => h) (by assumption) (Or.inl ⟨by rfl, ?hy3⟩) ?hr3
  case hy3 => (intro w' _hSw; go_simp; try with_reducible rfl)
  (try simp only [Act.put, List.getElem_toArray, List.getElem_cons_zero, List.getElem_cons_succ, List.setIfInBounds_toArray, List.set_cons_zero, List.set_cons_succ])
  refine Tailed.ways (rs := [3]) (by kernel_rfl) (by simp) ?_
  refine TailedAll.cons rfl (fun K hK => ?_) ?_
  · skip
    go_simp
    refine (pick_calls (w.heap.size + 2) 2 5 _ (show Rdr w4.drew _ _ from Hr4.out) (by omega) (by omega) (by omega)).mono ?_
    intro e w5 hpk
    obtain ⟨y1, hy1, rfl, hr5', hg5'⟩ := hpk
    have hg5 : w4.grownBy w5 (some (w.heap.size + 2)) := ⟨hg5'.os, hg5'.tape, hg5'.output, hg5'.size, hg5'.block⟩
    have hs5 := hg5.size
    have ba5 := Lib.hid (HBA.out.grown hg5 (by simp <;> omega))
    have bb5 := Lib.hid (HBB.out.grown hg5 (by simp <;> omega))
    have K05 := Lib.hid (HK0.out.grown hg5 (by simp <;> omega))
    have K15 := Lib.hid (HK1.out.grown hg5 (by simp <;> omega))
    have HW5 := Lib.hid (HW4.out.grown hg5 HW4.out.size (by intro k hk; injection hk with hk; omega))
    have hr5 := Lib.hid hr5'
    have ca5 := ba5.out.cell (i := 5) rfl
    have hy1' : (y1 : Int) ≤ 5 := by omega
    have hy10 : (0 : Int) ≤ (y1 : Int) := by omega
    have ew : IntKind.i64.wrap ((x1 : Int) + (y1 : Int)) = (x1 : Int) + (y1 : Int) := IntWalk.i64_in _ (by omega)
    clear hr5' hg5' hg5
    go_wp2_with fail
    refine hK.out _ _ ?_ (fun hHeld => ?_)
    · exact ca5
    clear hK K
    (try simp only [Act.put, List.getElem_toArray, List.getElem_cons_zero, List.getElem_cons_succ, List.setIfInBounds_toArray, List.set_cons_zero, List.set_cons_succ])
    refine Tailed.pure (i := 4) (v := ?hv4) rfl (by kernel_rfl) (by kernel_rfl) (by kernel_rfl) (by omega) (by kernel_rfl) (by kernel_rfl) (fun _ _ _ h => h) (by assumption) (Or.inl ⟨by rfl, ?hy4⟩) ?hr4
    case hy4 => (intro w' _hSw; go_simp; try with_reducible rfl)
    (try simp only [Act.put, List.getElem_toArray, List.getElem_cons_zero, List.getElem_cons_succ, List.setIfInBounds_toArray, List.set_cons_zero, List.set_cons_succ])
    refine Tailed.ways (rs := [5]) (by kernel_rfl) (by simp) ?_
    refine TailedAll.tail rfl (by kernel_rfl) (fun K hK => ?_) ?_
    · skip
      go_simp
      refine hK.out _ _ ?_
      clear hK K
      (try simp only [Act.put, List.getElem_toArray, List.getElem_cons_zero, List.getElem_cons_succ, List.setIfInBounds_toArray, List.set_cons_zero, List.set_cons_succ])
      refine Tailed.ways (rs := [6]) (by kernel_rfl) (by simp) ?_
      refine TailedAll.tail rfl (by kernel_rfl) (fun K hK => ?_) ?_
      · skip
        have f6 := ba5.out.free (i := 6)
        have c6 := ba5.out.cell (i := 6) rfl
        go_simp
        refine hK.out _ _ ?_
        clear hK K
        (try simp only [Act.put, List.getElem_toArray, List.getElem_cons_zero, List.getElem_cons_succ, List.setIfInBounds_toArray, List.set_cons_zero, List.set_cons_succ])
        refine Tailed.done (by kernel_rfl) ?_
        go_wp2_with fail
        have hst : Below w.heap.size w (w5.setCell ⟨a, 6, none⟩ (.int .i64 ((x1 + y1 : Nat) : Int))) := HW5.out.grown (set_grown w5 a 6 _) HW5.out.size (by intro k hk; injection hk with hk; omega)
        have ba : CallBlk (w5.setCell ⟨a, 6, none⟩ (.int .i64 ((x1 + y1 : Nat) : Int))) a (callFT x1 y1) := ba5.out.till _
        have bb := bb5.out.grown (set_grown w5 a 6 (.int .i64 ((x1 + y1 : Nat) : Int))) (by simp <;> omega)
        have K0 := K05.out.grown (set_grown w5 a 6 (.int .i64 ((x1 + y1 : Nat) : Int))) (by simp <;> omega)
        have K1 := K15.out.grown (set_grown w5 a 6 (.int .i64 ((x1 + y1 : Nat) : Int))) (by simp <;> omega)
        have hr6 := hr5.out.grown (set_grown w5 a 6 (.int .i64 ((x1 + y1 : Nat) : Int))) (by intro k hk; injection hk with hk; omega)
        have hs6 : w5.heap.size ≤ (w5.setCell ⟨a, 6, none⟩ (.int .i64 ((x1 + y1 : Nat) : Int))).heap.size := (set_grown w5 a 6 _).size
        have e6 : ((x1 + y1 : Nat) : Int) = (x1 : Int) + (y1 : Int) := by omega
        rw [e6] at hst ba bb K0 K1 hr6 hs6
        generalize w5.setCell ⟨a, 6, none⟩ (.int .i64 ((x1 : Int) + (y1 : Int))) = w6 at *
        have cb : w6.cell? ⟨b, 5, none⟩ = some (.int .i64 x2) := bb.cell (i := 5) rfl
        have HBA := Lib.hid ba
        have HBB := Lib.hid bb
        have HK0 := Lib.hid K0
        have HK1 := Lib.hid K1
        have Hr4 := Lib.hid hr6
        have HW4 := Lib.hid hst
        clear ba bb K0 K1 hr6 hst ca ca5 e6
        refine tailed_start 5 (fun w' => w'.cell? ⟨b, 5, none⟩ = some (.int .i64 x2)) (by kernel_rfl) ?_ (fun hHeld => ?_)
        · exact cb
        refine Tailed.pure (i := 0) (v := ?hv101) rfl (by kernel_rfl) (by kernel_rfl) (by kernel_rfl) (by omega) (by kernel_rfl) (by kernel_rfl) (fun _ _ _ h => h) (by assumption) (Or.inl ⟨by rfl, ?hy101⟩) ?hr101
        case hy101 => (intro w' _hSw; go_simp; try with_reducible rfl)
        (try simp only [Act.put, List.getElem_toArray, List.getElem_cons_zero, List.setIfInBounds_toArray, List.set_cons_zero, List.set_cons_succ])
        refine Tailed.take (i := 1) (v := ?hv102) rfl (by kernel_rfl) (by kernel_rfl) (by kernel_rfl) (by kernel_rfl) (by kernel_rfl) (by kernel_rfl) (fun _ _ _ h => h) (by assumption) (Or.inl ⟨by rfl, ?hy102⟩) ?hr102
        case hy102 => (intro w' hSw; (try dsimp only at hSw); go_simp; try with_reducible rfl)
        (try simp only [Act.put, List.getElem_toArray, List.getElem_cons_zero, List.getElem_cons_succ, List.setIfInBounds_toArray, List.set_cons_zero, List.set_cons_succ])
        refine Tailed.pure (i := 2) (v := ?hv103) rfl (by kernel_rfl) (by kernel_rfl) (by kernel_rfl) (by omega) (by kernel_rfl) (by kernel_rfl) (fun _ _ _ h => h) (by assumption) (Or.inl ⟨by rfl, ?hy103⟩) ?hr103
        case hy103 => (intro w' _hSw; go_simp; try with_reducible rfl)
        (try simp only [Act.put, List.getElem_toArray, List.getElem_cons_zero, List.getElem_cons_succ, List.setIfInBounds_toArray, List.set_cons_zero, List.set_cons_succ])
        refine Tailed.ways (rs := [3]) (by kernel_rfl) (by simp) ?_
        refine TailedAll.cons rfl (fun K hK => ?_) ?_
        · skip
          go_simp
          refine (pick_calls (w.heap.size + 2) 3 5 _ (show Rdr w6.drew _ _ from Hr4.out) (by omega) (by omega) (by omega)).mono ?_
          intro e w7 hpk
          obtain ⟨y2, hy2, rfl, hr7', hg7'⟩ := hpk
          have hg7 : w6.grownBy w7 (some (w.heap.size + 2)) := ⟨hg7'.os, hg7'.tape, hg7'.output, hg7'.size, hg7'.block⟩
          have hs7 := hg7.size
          have ba7 := Lib.hid (HBA.out.grown hg7 (by simp <;> omega))
          have bb7 := Lib.hid (HBB.out.grown hg7 (by simp <;> omega))
          have K07 := Lib.hid (HK0.out.grown hg7 (by simp <;> omega))
          have K17 := Lib.hid (HK1.out.grown hg7 (by simp <;> omega))
          have HW7 := Lib.hid (HW4.out.grown hg7 HW4.out.size (by intro k hk; injection hk with hk; omega))
          have cb7 := bb7.out.cell (i := 5) rfl
          have hy2' : (y2 : Int) ≤ 5 := by omega
          have hy20 : (0 : Int) ≤ (y2 : Int) := by omega
          have ew2 : IntKind.i64.wrap ((x2 : Int) + (y2 : Int)) = (x2 : Int) + (y2 : Int) := IntWalk.i64_in _ (by omega)
          clear hr7' hg7' hg7
          go_wp2_with fail
          refine hK.out _ _ ?_ (fun hHeld => ?_)
          · exact cb7
          clear hK K
          (try simp only [Act.put, List.getElem_toArray, List.getElem_cons_zero, List.getElem_cons_succ, List.setIfInBounds_toArray, List.set_cons_zero, List.set_cons_succ])
          refine Tailed.pure (i := 4) (v := ?hv104) rfl (by kernel_rfl) (by kernel_rfl) (by kernel_rfl) (by omega) (by kernel_rfl) (by kernel_rfl) (fun _ _ _ h => h) (by assumption) (Or.inl ⟨by rfl, ?hy104⟩) ?hr104
          case hy104 => (intro w' _hSw; go_simp; try with_reducible rfl)
          (try simp only [Act.put, List.getElem_toArray, List.getElem_cons_zero, List.getElem_cons_succ, List.setIfInBounds_toArray, List.set_cons_zero, List.set_cons_succ])
          refine Tailed.ways (rs := [5]) (by kernel_rfl) (by simp) ?_
          refine TailedAll.tail rfl (by kernel_rfl) (fun K hK => ?_) ?_
          · skip
            go_simp
            refine hK.out _ _ ?_
            clear hK K
            (try simp only [Act.put, List.getElem_toArray, List.getElem_cons_zero, List.getElem_cons_succ, List.setIfInBounds_toArray, List.set_cons_zero, List.set_cons_succ])
            refine Tailed.ways (rs := [6]) (by kernel_rfl) (by simp) ?_
            refine TailedAll.tail rfl (by kernel_rfl) (fun K hK => ?_) ?_
            · skip
              have f6 := bb7.out.free (i := 6)
              have c6 := bb7.out.cell (i := 6) rfl
              go_simp
              refine hK.out _ _ ?_
              clear hK K
              (try simp only [Act.put, List.getElem_toArray, List.getElem_cons_zero, List.getElem_cons_succ, List.setIfInBounds_toArray, List.set_cons_zero, List.set_cons_succ])
              refine Tailed.done (by kernel_rfl) ?_
              go_wp2_with fail
              have hst : Below w.heap.size w (w7.setCell ⟨b, 6, none⟩ (.int .i64 ((x2 + y2 : Nat) : Int))) := HW7.out.grown (set_grown w7 b 6 _) HW7.out.size (by intro k hk; injection hk with hk; omega)
              have bb : CallBlk (w7.setCell ⟨b, 6, none⟩ (.int .i64 ((x2 + y2 : Nat) : Int))) b (callFT x2 y2) := bb7.out.till _
              have ba := ba7.out.grown (set_grown w7 b 6 (.int .i64 ((x2 + y2 : Nat) : Int))) (by simp <;> omega)
              have K0 := K07.out.grown (set_grown w7 b 6 (.int .i64 ((x2 + y2 : Nat) : Int))) (by simp <;> omega)
              have K1 := K17.out.grown (set_grown w7 b 6 (.int .i64 ((x2 + y2 : Nat) : Int))) (by simp <;> omega)
              have e6 : ((x2 + y2 : Nat) : Int) = (x2 : Int) + (y2 : Int) := by omega
              rw [e6] at hst bb ba K0 K1
              generalize w7.setCell ⟨b, 6, none⟩ (.int .i64 ((x2 : Int) + (y2 : Int))) = w8 at *
              have hW8 := Lib.hid hst
              clear e6 hst cb cb7
              have hsz8 : b < w8.heap.size := bb.lt
              have A0 := ba.cell (i := 0) rfl
              have A1 := ba.cell (i := 1) rfl
              have A2 := ba.cell (i := 2) rfl
              have A3 := ba.cell (i := 3) rfl
              have A4 := ba.cell (i := 4) rfl
              have A5 := ba.cell (i := 5) rfl
              have A6 := ba.cell (i := 6) rfl
              have B0 := bb.cell (i := 0) rfl
              have B1 := bb.cell (i := 1) rfl
              have B2 := bb.cell (i := 2) rfl
              have B3 := bb.cell (i := 3) rfl
              have B4 := bb.cell (i := 4) rfl
              have B5 := bb.cell (i := 5) rfl
              have B6 := bb.cell (i := 6) rfl
              have HBA := Lib.hid ba
              have HBB := Lib.hid bb
              have HK0 := Lib.hid K0
              have HK1 := Lib.hid K1
              clear ba bb K0 K1
              refine tailed_start 3 (fun w' => w'.cell? ⟨a, 0, none⟩ = some (.int .i64 0) ∧ w'.cell? ⟨a, 1, none⟩ = some (.int .i64 0) ∧ w'.cell? ⟨a, 2, none⟩ = some (.int .i64 0) ∧ w'.cell? ⟨a, 3, none⟩ = some (.int .i64 0) ∧ w'.cell? ⟨a, 4, none⟩ = some (.int .i64 0) ∧ w'.cell? ⟨a, 5, none⟩ = some (.int .i64 x1) ∧ w'.cell? ⟨a, 6, none⟩ = some (.int .i64 ((x1 + y1 : Nat) : Int)) ∧ w'.cell? ⟨b, 0, none⟩ = some (.int .i64 0) ∧ w'.cell? ⟨b, 1, none⟩ = some (.int .i64 0) ∧ w'.cell? ⟨b, 2, none⟩ = some (.int .i64 0) ∧ w'.cell? ⟨b, 3, none⟩ = some (.int .i64 0) ∧ w'.cell? ⟨b, 4, none⟩ = some (.int .i64 0) ∧ w'.cell? ⟨b, 5, none⟩ = some (.int .i64 x2) ∧ w'.cell? ⟨b, 6, none⟩ = some (.int .i64 ((x2 + y2 : Nat) : Int))) (by kernel_rfl) ?_ (fun hHeld => ?_)
              · exact ⟨A0, A1, A2, A3, A4, A5, A6, B0, B1, B2, B3, B4, B5, B6⟩
              refine Tailed.take (i := 0) (v := ?hv201) rfl (by kernel_rfl) (by kernel_rfl) (by kernel_rfl) (by kernel_rfl) (by kernel_rfl) (by kernel_rfl) (fun _ _ _ h => h) (by assumption) (Or.inl ⟨by rfl, ?hy201⟩) ?hr201
              case hy201 => (intro w' hSw; (try dsimp only at hSw); go_simp; try with_reducible rfl)
              (try simp only [Act.put, List.getElem_toArray, List.getElem_cons_zero, List.setIfInBounds_toArray, List.set_cons_zero, List.set_cons_succ])
              refine Tailed.take (i := 1) (v := ?hv202) rfl (by kernel_rfl) (by kernel_rfl) (by kernel_rfl) (by kernel_rfl) (by kernel_rfl) (by kernel_rfl) (fun _ _ _ h => h) (by assumption) (Or.inl ⟨by rfl, ?hy202⟩) ?hr202
              case hy202 => (intro w' hSw; (try dsimp only at hSw); go_simp; try with_reducible rfl)
              (try simp only [Act.put, List.getElem_toArray, List.getElem_cons_zero, List.getElem_cons_succ, List.setIfInBounds_toArray, List.set_cons_zero, List.set_cons_succ])
              refine Tailed.ways (rs := [2]) (by kernel_rfl) (by simp) ?_
              refine TailedAll.cons rfl (fun K hK => ?_) ?_
              · skip
                refine step_store_fill rfl 26 (.tmp 2) (.tmp 27) rfl w.heap.size 0 26 7 [] (callFT x1 y1).vals (by rfl) (by rfl) call_size (callvals_one _) (show Fill w8.drew _ _ _ _ from HK0.out.start) rfl (by show 0 + 7 ≤ 7; omega) ?_
                intro w9 hf9 hg9
                have k9 := CallBlk.of_fill hf9
                have ba9 := HBA.out.grown (row := some w.heap.size) ⟨hg9.os, hg9.tape, hg9.output, hg9.size, hg9.block⟩ (by simp <;> omega)
                have bb9 := HBB.out.grown (row := some w.heap.size) ⟨hg9.os, hg9.tape, hg9.output, hg9.size, hg9.block⟩ (by simp <;> omega)
                have k19 := HK1.out.grown (row := some w.heap.size) ⟨hg9.os, hg9.tape, hg9.output, hg9.size, hg9.block⟩ (by simp <;> omega)
                have HW9 : Below w.heap.size w w9 := hW8.out.grown (row := some w.heap.size) ⟨hg9.os, hg9.tape, hg9.output, hg9.size, hg9.block⟩ hW8.out.size (by intro k hk; injection hk with hk; omega)
                clear hf9
                refine hK.out _ _ ?_ (fun hHeld => ?_)
                · exact ⟨ba9.cell (i := 0) rfl, ba9.cell (i := 1) rfl, ba9.cell (i := 2) rfl, ba9.cell (i := 3) rfl, ba9.cell (i := 4) rfl, ba9.cell (i := 5) rfl, ba9.cell (i := 6) rfl, bb9.cell (i := 0) rfl, bb9.cell (i := 1) rfl, bb9.cell (i := 2) rfl, bb9.cell (i := 3) rfl, bb9.cell (i := 4) rfl, bb9.cell (i := 5) rfl, bb9.cell (i := 6) rfl⟩
                clear hK K
                (try simp only [Act.put, List.getElem_toArray, List.getElem_cons_zero, List.getElem_cons_succ])
                refine Tailed.ways (rs := [3]) (by kernel_rfl) (by simp) ?_
                refine TailedAll.tail rfl (by kernel_rfl) (fun K hK => ?_) ?_
                · skip
                  refine step_store_fill rfl 26 (.tmp 3) (.tmp 28) rfl (w.heap.size + 1) 0 26 7 [] (callFT x2 y2).vals (by rfl) (by rfl) call_size (callvals_one _) k19.start rfl (by show 0 + 7 ≤ 7; omega) ?_
                  intro w10 hf10 hg10
                  have k10 := k9.grown hg10 (by simp)
                  have k110 := CallBlk.of_fill hf10
                  have HW10 : Below w.heap.size w w10 := HW9.grown hg10 HW9.size (by intro k hk; injection hk with hk; omega)
                  clear hf10
                  refine hK.out _ _ ?_
                  clear hK K
                  (try simp only [Act.put, List.getElem_toArray, List.getElem_cons_zero, List.getElem_cons_succ])
                  refine Tailed.done (by kernel_rfl) ?_
                  go_wp2_with fail
                  have u0a := k10.cell (i := 0) rfl
                  have u0b := k110.cell (i := 0) rfl
                  have u1a := k10.cell (i := 1) rfl
                  have u1b := k110.cell (i := 1) rfl
                  have u2a := k10.cell (i := 2) rfl
                  have u2b := k110.cell (i := 2) rfl
                  have u3a := k10.cell (i := 3) rfl
                  have u3b := k110.cell (i := 3) rfl
                  have u4a := k10.cell (i := 4) rfl
                  have u4b := k110.cell (i := 4) rfl
                  have u5a := k10.cell (i := 5) rfl
                  have u5b := k110.cell (i := 5) rfl
                  have u6a := k10.cell (i := 6) rfl
                  have u6b := k110.cell (i := 6) rfl
                  exact bodyPost_ret (v := .tuple #[(callFT x1 y1).val, (callFT x2 y2).val]) (by simp [results, Try.results21, go_sem, u0a, u1a, u2a, u3a, u4a, u5a, u6a, u0b, u1b, u2b, u3b, u4b, u5b, u6b]) rfl ⟨x1, y1, x2, y2, hx1, hy1, hx2, hy2, rfl, HW10⟩
                exact TailedAll.nil
              exact TailedAll.nil
            exact TailedAll.nil
          exact TailedAll.nil
        exact TailedAll.nil
      exact TailedAll.nil
    exact TailedAll.nil
  exact TailedAll.nil
end Go.Proofs.Ytooojfdjpmfalaa
