/-
  What adding a write does to the program's struct of sessions. Asked: sets less than 2 to the 20.
-/
import Derived.Test.YtooigcfdkmgjnaaAddI
import Derived.Test.YtooigcfdkmgjnaaHeldT
import Derived.Deep.DeepCutAuto
import Derived.Deep.DrawnRows
namespace Go.Proofs.Ytooigcfdkmgjnaa
open Go.RowKit
set_option maxRecDepth 100000
attribute [local go_sem ↓] Go.wp_at_zero Go.wp_at_succ

/-- What the first two appends leave. -/
def AddMid (w0 wx : World) (B g : Nat) (m h : Nat → Nat) (row fol cau : Value) (R F : List Int) : Prop :=
  ∃ W r f, AddI w0 W B row fol r f R.length F.length R F ∧ Far (· = g) W wx ∧ SessBlk wx g m h r f cau

/-- The struct behind an addition, and what the addition left alone: a block that no row of the struct had is as it was, and no row of the struct is in it. -/
def SessNext (w w' : World) (B g : Nat) (m h : Nat → Nat) (row fol cau : Value) (R F C : List Int) : Prop :=
  ∃ r f c, SessI w' B g m h r f c R F C ∧ ∀ o, o < w.heap.size → o ≠ g → row.ownBlock ≠ some o → fol.ownBlock ≠ some o → cau.ownBlock ≠ some o → r.ownBlock ≠ some o ∧ f.ownBlock ≠ some o ∧ c.ownBlock ≠ some o ∧ w'.heap[o]? = w.heap[o]?
theorem SessNext.sess {w w' : World} {B g : Nat} {m h : Nat → Nat} {row fol cau : Value} {R F C : List Int} (k : SessNext w w' B g m h row fol cau R F C) : SessW w' B g m h R F C := by
  obtain ⟨r, f, c, k, _⟩ := k
  exact ⟨r, f, c, k⟩
theorem SessNext.from {w w0 w' : World} {B g : Nat} {m h : Nat → Nat} {row fol cau : Value} {R F C : List Int} (k : SessNext w0 w' B g m h row fol cau R F C) (hb : Below w.heap.size w w0) : SessNext w w' B g m h row fol cau R F C := by
  obtain ⟨r, f, c, k, ho⟩ := k
  refine ⟨r, f, c, k, fun o h1 h2 h3 h4 h5 => ?_⟩
  obtain ⟨a1, a2, a3, a4⟩ := ho o (Nat.lt_of_lt_of_le h1 hb.size) h2 h3 h4 h5
  exact ⟨a1, a2, a3, a4.trans (hb.block o h1)⟩

theorem add_end {w0 W4 wc w3 wf : World} {B g g3 n3 cap3 : Nat} {m h : Nat → Nat} {row fol cau r f : Value} {R F C : List Int} (I4 : AddI w0 W4 B row fol r f R.length F.length R F) (F4 : Far (· = g) W4 wc) (I5 : Far (fun k => cau.ownBlock = some k) wc w3) (F5 : Far (· = g) w3 wf)
    (Kf : SessBlk wf g m h r f (.slice (some ⟨g3, 0, none⟩) n3 cap3)) (hown : w3.ownsRow B 3 1 (.slice (some ⟨g3, 0, none⟩) n3 cap3) n3 (C.flatMap intVals)) (hn : C.length = n3) (hat : cau.ownBlock = some g3 ∨ wc.heap.size ≤ g3)
    (hB : B ≤ g) (hg : g < w0.heap.size) (aR : row.ownBlock ≠ some g) (aF : fol.ownBlock ≠ some g) (aC : cau.ownBlock ≠ some g) (hrc : ∀ k, row.ownBlock = some k → cau.ownBlock ≠ some k) (hfc : ∀ k, fol.ownBlock = some k → cau.ownBlock ≠ some k) (hc : ∀ k, cau.ownBlock = some k → k < w0.heap.size) : SessNext w0 wf B g m h row fol cau R F C := by
  have hs : w0.heap.size ≤ wc.heap.size := Nat.le_trans I4.far.size F4.size
  have rg : ∀ k, r.ownBlock = some k → k ≠ g := fun k hk e => by
    rcases I4.rw_ k hk with h1 | h1
    · exact aR (by rw [h1, e])
    · omega
  have fg : ∀ k, f.ownBlock = some k → k ≠ g := fun k hk e => by
    rcases I4.fw_ k hk with h1 | h1
    · exact aF (by rw [h1, e])
    · omega
  have rc : ∀ k, r.ownBlock = some k → cau.ownBlock ≠ some k := fun k hk e => by
    rcases I4.rw_ k hk with h1 | h1
    · exact hrc k h1 e
    · have := hc k e; omega
  have fc : ∀ k, f.ownBlock = some k → cau.ownBlock ≠ some k := fun k hk e => by
    rcases I4.fw_ k hk with h1 | h1
    · exact hfc k h1 e
    · have := hc k e; omega
  have g3g : g3 ≠ g := fun e => by
    rcases hat with h1 | h1
    · exact aC (by rw [h1, e])
    · omega
  have ro : wc.ownsRow B 3 1 r R.length (R.flatMap intVals) := F4.own I4.ro rg
  have fo : wc.ownsRow B 3 1 f F.length (F.flatMap intVals) := F4.own I4.fo fg
  refine ⟨r, f, _, ⟨Kf, hB, F5.own (I5.own ro rc) rg, F5.own (I5.own fo fc) fg, ?_, fun e => rg _ e rfl, fun e => fg _ e rfl, ?_, I4.apart, ?_, ?_⟩, ?_⟩
  · unfold OwnInts
    rw [hn]
    exact F5.own hown (fun k hk => by simp only [Value.ownBlock, Option.some.injEq] at hk; omega)
  · simp only [Value.ownBlock, ne_eq, Option.some.injEq]; exact g3g
  · intro k hk e
    simp only [Value.ownBlock, Option.some.injEq] at e
    subst e
    rcases hat with h1 | h1
    · exact rc _ hk h1
    · have := (ro.lt _ hk).2; omega
  · intro k hk e
    simp only [Value.ownBlock, Option.some.injEq] at e
    subst e
    rcases hat with h1 | h1
    · exact fc _ hk h1
    · have := (fo.lt _ hk).2; omega
  · intro o ho hog h1 h2 h3
    refine ⟨fun e => ?_, fun e => ?_, fun e => ?_, ?_⟩
    · rcases I4.rw_ o e with h | h
      · exact h1 h
      · omega
    · rcases I4.fw_ o e with h | h
      · exact h2 h
      · omega
    · simp only [Value.ownBlock, Option.some.injEq] at e
      subst e
      rcases hat with h | h
      · exact h3 h
      · omega
    · have s1 := I4.far.size
      have s2 := F4.size
      have s3 := I5.size
      exact (F5.block o (by omega) hog).trans ((I5.block o (by omega) h3).trans ((F4.block o (by omega) hog).trans (I4.far.block o ho (fun e => e.elim h1 h2))))

def AddDone (w w' : World) (B g : Nat) (m h : Nat → Nat) (R F C : List Int) (e : Ending) : Prop := e = .returned (.tuple #[]) ∧ SessW w' B g m h R F C ∧ Below B w w'
def AddNext (w w' : World) (B g : Nat) (m h : Nat → Nat) (row fol cau : Value) (R F C : List Int) (e : Ending) : Prop := e = .returned (.tuple #[]) ∧ SessNext w w' B g m h row fol cau R F C ∧ Below B w w'

set_option maxHeartbeats 4000000 in
theorem addWrite_next (B g s : Nat) (m h : Nat → Nat) (row fol cau : Value) (R F : List Int) (CN : List Nat) (w : World) (k : SessI w B g m h row fol cau R F (CN.map Int.ofNat))
    (hs : s < 3) (h1 : m s < 2 ^ 20) (h2 : h s < 2 ^ 20) (hl : CN.length < 20) (hL : ∀ j, CN.getD j 0 < 2 ^ 20) (hRl : R.length = CN.length) (hFl : F.length = CN.length) :
    Calls Try.prog 50 #[.pointer (some ⟨g, 0, none⟩), .agg #[.int .i64 s, .bool true, .int .i64 0]] w fun e w' =>
      AddNext w w' B g (upd m s (m s ||| 2 ^ CN.length)) h row fol cau (R ++ [(m s : Int)]) (F ++ [(h s : Int)]) ((CN ++ [2 ^ CN.length ||| cauK (m s ||| h s) CN (m s ||| h s) CN.length]).map Int.ofNat) e := by
  obtain ⟨i0, hi0, hz0, hz1, hz2⟩ := info_parts ints_info
  obtain ⟨k, hB, hoR, hoF, hoC, aR, aF, aC, hrf, hrc, hfc⟩ := k
  unfold OwnInts at hoR hoF hoC
  rw [List.length_map] at hoC
  have hgz := k.lt
  have c6 := k.cell 6
  have c7 := k.cell 7
  have c8 := k.cell 8
  simp at c6 c7 c8
  have cm : w.cell? ⟨g, s, none⟩ = some (.int .i64 (m s)) := by
    rw [k.cell]
    have : s = 0 ∨ s = 1 ∨ s = 2 := by omega
    rcases this with rfl | rfl | rfl <;> rfl
  have ch : w.cell? ⟨g, 3 + s, none⟩ = some (.int .i64 (h s)) := by
    rw [k.cell]
    have : s = 0 ∨ s = 1 ∨ s = 2 := by omega
    rcases this with rfl | rfl | rfl <;> rfl
  have rlt : row.ownBlock ≠ some w.heap.size := fun e => by have := (hoR.lt _ e).2; omega
  have flt : fol.ownBlock ≠ some w.heap.size := fun e => by have := (hoF.lt _ e).2; omega
  obtain ⟨Ac, cc, rfl, hcn, hcm, _⟩ := own_form hoC
  have K := Lib.hid k
  have HoR := Lib.hid hoR
  have HoF := Lib.hid hoF
  have HoC := Lib.hid hoC
  have HRl := Lib.hid hRl
  have HFl := Lib.hid hFl
  have Hrf := Lib.hid hrf
  have Hrc := Lib.hid hrc
  have Hfc := Lib.hid hfc
  have HL := Lib.hid hL
  have HN := Lib.hid (show m s ||| h s < 2 ^ 20 from Nat.or_lt_two_pow h1 h2)
  have hm0 := Lib.hid (rfl : m s = m s)
  have AC := Lib.hid aC
  clear k aC hoR hoF hoC hRl hFl hrf hrc hfc hm0 hL
  have hs0 : (0 : Int) ≤ (s : Int) := by omega
  have hs3 : (s : Int) < 3 := by omega
  have hne : g ≠ w.heap.size := by omega
  generalize hln : CN.length = l at *
  have Hln := Lib.hid hln
  clear hln
  have hl0 : (0 : Int) ≤ (l : Int) := by omega
  have hl20 : (l : Int) ≤ 20 := by omega
  have hor := i64_or_nat (m s) (h s) (by omega) (by omega)
  obtain ⟨nr, hnr⟩ : ∃ nr, m s ||| h s = nr := ⟨_, rfl⟩
  have Hnr := Lib.hid hnr
  have hck : cauK nr CN nr l < 2 ^ 20 := cauK_lt _ _ _ _ (by rw [← hnr]; exact HN.out) HL.out _
  rw [hnr] at hor HN
  obtain ⟨ow, how⟩ : ∃ ow, 2 ^ l = ow := ⟨_, rfl⟩
  have how2 : ow ≤ 2 ^ 20 := by rw [← how]; exact Nat.pow_le_pow_right (by omega) (by omega)
  have hor2 := i64_or_nat ow (cauK nr CN nr l) (by omega) (by omega)
  have hor3 := i64_or_nat (m s) ow (by omega) (by omega)
  have How := Lib.hid how
  have HCL := Lib.hid (fun (W : World) (hcell : W.cell? ⟨g, 8, none⟩ = some (.slice Ac l cc)) (hrw : RowInts W Ac (CN.map Int.ofNat)) => closed_calls g CN l nr Ac cc W hcell hrw Hln.out (by omega) HN.out HL.out)
  obtain ⟨ck, hck'⟩ : ∃ ck, cauK nr CN nr l = ck := ⟨_, rfl⟩
  have Hck := Lib.hid hck'
  rw [hck'] at hor2 hck
  simp only [hck'] at HCL
  clear hnr how hck'
  generalize hms : m s = ms at *
  generalize hhs : h s = hh at *
  have Hms := Lib.hid hms
  have Hhs := Lib.hid hhs
  clear hms hhs
  go_enter Try.func50, Try.ntmps50
  go_upto_region 4 with fail
  have hpw : wrap64 (2 ^ l) = (ow : Int) := by
    rw [← How.out, ← two_cast, How.out]
    exact IntWalk.wrap64_in _ ⟨by omega, by omega⟩
  rw [hpw]
  clear hpw
  generalize hw0 : w.alloc _ = w0
  have hb0 : Below w.heap.size w w0 := by rw [← hw0]; exact below_alloc (Below.refl _ _) _
  have d6 := cell_below hb0 c6
  have d7 := cell_below hb0 c7
  have d8 := cell_below hb0 c8
  have dm := cell_below hb0 cm
  have dh := cell_below hb0 ch
  have dx : w0.cell? ⟨w.heap.size, 0, none⟩ = some (.int .i64 s) := by rw [← hw0]; simp
  have K0 := Lib.hid (K.out.far ((Far.refl (fun _ => False) w).below hb0) (fun h => h))
  have I0 : AddI w0 w0 B row fol row fol R.length F.length R F := ⟨Far.refl _ _, own_below HoR.out hb0, own_below HoF.out hb0, Hrf.out, fun k hk => .inl hk, fun k hk => .inl hk⟩
  have hgB : B ≤ w0.heap.size := by have := hb0.size; omega
  have hRl' : R.length ≤ 20 := by have := HRl.out; omega
  have hFl' : F.length ≤ 20 := by have := HFl.out; omega
  have hS : ∀ (W : World) (r f : Value) (rn fn : Nat) (R' F' : List Int), AddI w0 W B row fol r f rn fn R' F' → W.cell? ⟨g, 6, none⟩ = some row ∧ W.cell? ⟨g, 7, none⟩ = some fol ∧ W.cell? ⟨w.heap.size, 0, none⟩ = some (.int .i64 s) ∧ W.cell? ⟨g, s, none⟩ = some (.int .i64 ms) ∧ W.cell? ⟨g, 3 + s, none⟩ = some (.int .i64 hh) :=
    fun W r f rn fn R' F' I => ⟨I.cell d6 aR aF, I.cell d7 aR aF, I.cell dx rlt flt, I.cell dm aR aF, I.cell dh aR aF⟩
  have HS := Lib.hid hS
  have HF := Lib.hid (fun (W : World) (r f : Value) (rn fn : Nat) (R' F' : List Int) (I : AddI w0 W B row fol r f rn fn R' F') (i : Nat) => (I.frozen (x := ⟨g, i, none⟩) K0.out.lt aR aF).trans (K0.out.free i))
  have HI0 := Lib.hid I0
  have HRN := Lib.hid (fun (i : Nat) (hi : w0.heap.size ≤ i) (e : row.ownBlock = some i) => Nat.lt_irrefl _ (Nat.lt_of_lt_of_le ((own_below HoR.out hb0).lt i e).2 hi))
  have HFN := Lib.hid (fun (i : Nat) (hi : w0.heap.size ≤ i) (e : fol.ownBlock = some i) => Nat.lt_irrefl _ (Nat.lt_of_lt_of_le ((own_below HoF.out hb0).lt i e).2 hi))
  clear hS I0 c6 c7 c8 cm ch hw0
  go_cut [] (fun wx => AddMid w0 wx B g m h row fol (.slice Ac l cc) (R ++ [(ms : Int)]) (F ++ [(hh : Int)]))
  case first =>
    refine tailed_start 28 (fun w' => w'.cell? ⟨g, 6, none⟩ = some row ∧ w'.cell? ⟨g, 7, none⟩ = some fol ∧ w'.cell? ⟨w.heap.size, 0, none⟩ = some (.int .i64 s) ∧ w'.cell? ⟨g, s, none⟩ = some (.int .i64 ms) ∧ w'.cell? ⟨g, 3 + s, none⟩ = some (.int .i64 hh)) (by kernel_rfl) ?_ (fun hHeld => ?_)
    · (first | exact HS.out _ _ _ _ _ _ _ I2 | exact HS.out _ _ _ _ _ _ _ (I1.alloc _) | exact HS.out _ _ _ _ _ _ _ I1 | exact HS.out _ _ _ _ _ _ _ HI0.out.drew | exact HS.out _ _ _ _ _ _ _ (HI0.out.alloc _) | exact HS.out _ _ _ _ _ _ _ (HI0.out.alloc _).drew | exact HS.out _ _ _ _ _ _ _ ((HI0.out.alloc _).alloc _) | exact HS.out _ _ _ _ _ _ _ ((HI0.out.alloc _).alloc _).drew)
    refine Tailed.pure (i := 0) (v := ?hv1) rfl (by kernel_rfl) (by kernel_rfl) (by kernel_rfl) (by omega) (by kernel_rfl) (by kernel_rfl) (fun _ _ _ h => h) (by assumption) (Or.inl ⟨by rfl, ?hy1⟩) ?hr1
    case' hy1 => (intro w' _hSw; go_simp; try with_reducible rfl)
    (try simp only [Act.put, List.setIfInBounds_toArray])
    refine Tailed.pure (i := 1) (v := ?hv2) rfl (by kernel_rfl) (by kernel_rfl) (by kernel_rfl) (by omega) (by kernel_rfl) (by kernel_rfl) (fun _ _ _ h => h) (by assumption) (Or.inl ⟨by rfl, ?hy2⟩) ?hr2
    case' hy2 => (intro w' _hSw; go_simp; try with_reducible rfl)
    (try simp only [Act.put])
    refine Tailed.pure (i := 2) (v := ?hv3) rfl (by kernel_rfl) (by kernel_rfl) (by kernel_rfl) (by omega) (by kernel_rfl) (by kernel_rfl) (fun _ _ _ h => h) (by assumption) (Or.inl ⟨by rfl, ?hy3⟩) ?hr3
    case' hy3 => (intro w' _hSw; go_simp; try with_reducible rfl)
    (try simp only [Act.put])
    refine Tailed.pure (i := 3) (v := ?hv4) rfl (by kernel_rfl) (by kernel_rfl) (by kernel_rfl) (by omega) (by kernel_rfl) (by kernel_rfl) (fun _ _ _ h => h) (by assumption) (Or.inl ⟨by rfl, ?hy4⟩) ?hr4
    case' hy4 => (intro w' _hSw; go_simp; try with_reducible rfl)
    (try simp only [Act.put])
    refine Tailed.pure (i := 4) (v := ?hv5) rfl (by kernel_rfl) (by kernel_rfl) (by kernel_rfl) (by omega) (by kernel_rfl) (by kernel_rfl) (fun _ _ _ h => h) (by assumption) (Or.inl ⟨by rfl, ?hy5⟩) ?hr5
    case' hy5 => (intro w' _hSw; go_simp; try with_reducible rfl)
    (try simp only [Act.put])
    refine Tailed.take (i := 5) (v := ?hv6) rfl (by kernel_rfl) (by kernel_rfl) (by kernel_rfl) (by kernel_rfl) (by kernel_rfl) (by kernel_rfl) (fun _ _ _ h => h) (by assumption) (Or.inl ⟨by rfl, ?hy6⟩) ?hr6
    case' hy6 => (intro w' hSw; (try dsimp only at hSw); go_simp; try with_reducible rfl)
    (try simp only [Act.put])
    refine Tailed.pure (i := 6) (v := ?hv7) rfl (by kernel_rfl) (by kernel_rfl) (by kernel_rfl) (by omega) (by kernel_rfl) (by kernel_rfl) (fun _ _ _ h => h) (by assumption) (Or.inl ⟨by rfl, ?hy7⟩) ?hr7
    case' hy7 => (intro w' _hSw; go_simp; try with_reducible rfl)
    (try simp only [Act.put])
    refine Tailed.pure (i := 7) (v := ?hv8) rfl (by kernel_rfl) (by kernel_rfl) (by kernel_rfl) (by omega) (by kernel_rfl) (by kernel_rfl) (fun _ _ _ h => h) (by assumption) (Or.inl ⟨by rfl, ?hy8⟩) ?hr8
    case' hy8 => (intro w' _hSw; go_simp; try with_reducible rfl)
    (try simp only [Act.put])
    refine Tailed.take (i := 8) (v := ?hv9) rfl (by kernel_rfl) (by kernel_rfl) (by kernel_rfl) (by kernel_rfl) (by kernel_rfl) (by kernel_rfl) (fun _ _ _ h => h) (by assumption) (Or.inl ⟨by rfl, ?hy9⟩) ?hr9
    case' hy9 => (intro w' hSw; (try dsimp only at hSw); go_simp; try with_reducible rfl)
    (try simp only [Act.put])
    refine Tailed.pure (i := 9) (v := ?hv10) rfl (by kernel_rfl) (by kernel_rfl) (by kernel_rfl) (by omega) (by kernel_rfl) (by kernel_rfl) (fun _ _ _ h => h) (by assumption) (Or.inl ⟨by rfl, ?hy10⟩) ?hr10
    case' hy10 => (intro w' _hSw; go_simp; try with_reducible rfl)
    (try simp only [Act.put])
    refine Tailed.pure (i := 10) (v := ?hv11) rfl (by kernel_rfl) (by kernel_rfl) (by kernel_rfl) (by omega) (by kernel_rfl) (by kernel_rfl) (fun _ _ _ h => h) (by assumption) (Or.inl ⟨by rfl, ?hy11⟩) ?hr11
    case' hy11 => (intro w' _hSw; go_simp; try with_reducible rfl)
    (try simp only [Act.put])
    refine Tailed.pure (i := 11) (v := ?hv12) rfl (by kernel_rfl) (by kernel_rfl) (by kernel_rfl) (by omega) (by kernel_rfl) (by kernel_rfl) (fun _ _ _ h => h) (by assumption) (Or.inl ⟨by rfl, ?hy12⟩) ?hr12
    case' hy12 => (intro w' _hSw; go_simp; try with_reducible rfl)
    (try simp only [Act.put])
    refine Tailed.take (i := 12) (v := ?hv13) rfl (by kernel_rfl) (by kernel_rfl) (by kernel_rfl) (by kernel_rfl) (by kernel_rfl) (by kernel_rfl) (fun _ _ _ h => h) (by assumption) (Or.inl ⟨by rfl, ?hy13⟩) ?hr13
    case' hy13 => (intro w' hSw; (try dsimp only at hSw); go_simp; try with_reducible rfl)
    (try simp only [Act.put])
    refine Tailed.pure (i := 15) (v := ?hv14) rfl (by kernel_rfl) (by kernel_rfl) (by kernel_rfl) (by omega) (by kernel_rfl) (by kernel_rfl) (fun _ _ _ h => h) (by assumption) (Or.inl ⟨by rfl, ?hy14⟩) ?hr14
    case' hy14 => (intro w' _hSw; go_simp; try with_reducible rfl)
    (try simp only [Act.put])
    refine Tailed.pure (i := 16) (v := ?hv15) rfl (by kernel_rfl) (by kernel_rfl) (by kernel_rfl) (by omega) (by kernel_rfl) (by kernel_rfl) (fun _ _ _ h => h) (by assumption) (Or.inl ⟨by rfl, ?hy15⟩) ?hr15
    case' hy15 => (intro w' _hSw; go_simp; try with_reducible rfl)
    (try simp only [Act.put])
    refine Tailed.pure (i := 17) (v := ?hv16) rfl (by kernel_rfl) (by kernel_rfl) (by kernel_rfl) (by omega) (by kernel_rfl) (by kernel_rfl) (fun _ _ _ h => h) (by assumption) (Or.inl ⟨by rfl, ?hy16⟩) ?hr16
    case' hy16 => (intro w' _hSw; go_simp; try with_reducible rfl)
    (try simp only [Act.put])
    refine Tailed.take (i := 18) (v := ?hv17) rfl (by kernel_rfl) (by kernel_rfl) (by kernel_rfl) (by kernel_rfl) (by kernel_rfl) (by kernel_rfl) (fun _ _ _ h => h) (by assumption) (Or.inl ⟨by rfl, ?hy17⟩) ?hr17
    case' hy17 => (intro w' hSw; (try dsimp only at hSw); go_simp; try with_reducible rfl)
    (try simp only [Act.put])
    refine Tailed.pure (i := 19) (v := ?hv18) rfl (by kernel_rfl) (by kernel_rfl) (by kernel_rfl) (by omega) (by kernel_rfl) (by kernel_rfl) (fun _ _ _ h => h) (by assumption) (Or.inl ⟨by rfl, ?hy18⟩) ?hr18
    case' hy18 => (intro w' _hSw; go_simp; try with_reducible rfl)
    (try simp only [Act.put])
    refine Tailed.pure (i := 20) (v := ?hv19) rfl (by kernel_rfl) (by kernel_rfl) (by kernel_rfl) (by omega) (by kernel_rfl) (by kernel_rfl) (fun _ _ _ h => h) (by assumption) (Or.inl ⟨by rfl, ?hy19⟩) ?hr19
    case' hy19 => (intro w' _hSw; go_simp; try with_reducible rfl)
    (try simp only [Act.put])
    refine Tailed.take (i := 21) (v := ?hv20) rfl (by kernel_rfl) (by kernel_rfl) (by kernel_rfl) (by kernel_rfl) (by kernel_rfl) (by kernel_rfl) (fun _ _ _ h => h) (by assumption) (Or.inl ⟨by rfl, ?hy20⟩) ?hr20
    case' hy20 => (intro w' hSw; (try dsimp only at hSw); go_simp; try with_reducible rfl)
    (try simp only [Act.put])
    refine Tailed.pure (i := 22) (v := ?hv21) rfl (by kernel_rfl) (by kernel_rfl) (by kernel_rfl) (by omega) (by kernel_rfl) (by kernel_rfl) (fun _ _ _ h => h) (by assumption) (Or.inl ⟨by rfl, ?hy21⟩) ?hr21
    case' hy21 => (intro w' _hSw; go_simp; try with_reducible rfl)
    (try simp only [Act.put])
    refine Tailed.pure (i := 23) (v := ?hv22) rfl (by kernel_rfl) (by kernel_rfl) (by kernel_rfl) (by omega) (by kernel_rfl) (by kernel_rfl) (fun _ _ _ h => h) (by assumption) (Or.inl ⟨by rfl, ?hy22⟩) ?hr22
    case' hy22 => (intro w' _hSw; go_simp; try with_reducible rfl)
    (try simp only [Act.put])
    refine Tailed.pure (i := 24) (v := ?hv23) rfl (by kernel_rfl) (by kernel_rfl) (by kernel_rfl) (by omega) (by kernel_rfl) (by kernel_rfl) (fun _ _ _ h => h) (by assumption) (Or.inl ⟨by rfl, ?hy23⟩) ?hr23
    case' hy23 => (intro w' _hSw; go_simp; try with_reducible rfl)
    (try simp only [Act.put])
    refine Tailed.take (i := 25) (v := ?hv24) rfl (by kernel_rfl) (by kernel_rfl) (by kernel_rfl) (by kernel_rfl) (by kernel_rfl) (by kernel_rfl) (fun _ _ _ h => h) (by assumption) (Or.inl ⟨by rfl, ?hy24⟩) ?hr24
    case' hy24 => (intro w' hSw; (try dsimp only at hSw); go_simp; try with_reducible rfl)
    (try simp only [Act.put])
    refine Tailed.ways (rs := [13, 26]) (by kernel_rfl) (by simp) ?_
    refine TailedAll.cons rfl (fun K hK => ?_) ?_
    · skip
      go_simp
      refine hK.out _ _ ?_ (fun hHeld => ?_)
      · (first | exact HS.out _ _ _ _ _ _ _ I2 | exact HS.out _ _ _ _ _ _ _ (I1.alloc _) | exact HS.out _ _ _ _ _ _ _ I1 | exact HS.out _ _ _ _ _ _ _ HI0.out.drew | exact HS.out _ _ _ _ _ _ _ (HI0.out.alloc _) | exact HS.out _ _ _ _ _ _ _ (HI0.out.alloc _).drew | exact HS.out _ _ _ _ _ _ _ ((HI0.out.alloc _).alloc _) | exact HS.out _ _ _ _ _ _ _ ((HI0.out.alloc _).alloc _).drew)
      clear hK K
      (try simp only [Act.put, List.setIfInBounds_toArray, List.set_cons_zero, List.set_cons_succ])
      refine Tailed.ways (rs := [14, 26]) (by kernel_rfl) (by simp) ?_
      refine TailedAll.cons rfl (fun K hK => ?_) ?_
      · skip
        refine step_append_lies _ (by rfl) (.tmp 33) (.tmp 41) 32 (by rfl) B 3 i0 _ 1 8 Try.underlying32 hi0 hz0 hz1 hz2 rfl (by omega) row R.length (R.flatMap intVals) (by rfl)
            (by refine AddI.ro (w0 := w0) (row := row) (fol := fol) (r := row) (f := fol) (rn := R.length) (fn := F.length) (R := R) (F := F) ?_; repeat (first | exact HI0.out | refine AddI.alloc ?_ _ | refine AddI.drew ?_)) _ 1 1 [.int .i64 ms] (by rfl) (by rfl) (by first | exact int_new _ _ _ | exact int_new2 _ _ _ _ | exact int_new1 _ _ _ _ | exact int_newg0 hgrow2 (HFN.out _ (by simp)) | exact int_newgd hgrow2 (HFN.out _ (by simp)) | exact int_newhd hgrow2 (HFN.out _ (by simp))) (int_one _) (by omega) (by unfold maxLen; omega) (by omega) (by first | (simp; omega) | (have := I1.far.size; simp; omega)) _ rfl ?_
        intro g1 cap1 w1 hown1 hgrow1 hat1 hlt1
        have I1 := AddI.app1 (w0 := w0) (row := row) (fol := fol) (f := fol) (fn := F.length) (F := F) (by repeat (first | exact HI0.out | refine AddI.alloc ?_ _ | refine AddI.drew ?_)) hown1 hgrow1 hat1 rfl
        refine hK.out _ _ ?_ (fun hHeld => ?_)
        · (first | exact HS.out _ _ _ _ _ _ _ I2 | exact HS.out _ _ _ _ _ _ _ (I1.alloc _) | exact HS.out _ _ _ _ _ _ _ I1 | exact HS.out _ _ _ _ _ _ _ HI0.out.drew | exact HS.out _ _ _ _ _ _ _ (HI0.out.alloc _) | exact HS.out _ _ _ _ _ _ _ (HI0.out.alloc _).drew | exact HS.out _ _ _ _ _ _ _ ((HI0.out.alloc _).alloc _) | exact HS.out _ _ _ _ _ _ _ ((HI0.out.alloc _).alloc _).drew)
        clear hK K
        (try simp only [Act.put, List.setIfInBounds_toArray])
        refine Tailed.ways (rs := [26]) (by kernel_rfl) (by simp) ?_
        refine TailedAll.cons rfl (fun K hK => ?_) ?_
        · skip
          go_simp
          refine hK.out _ _ ?_ (fun hHeld => ?_)
          · (first | exact HS.out _ _ _ _ _ _ _ I2 | exact HS.out _ _ _ _ _ _ _ (I1.alloc _) | exact HS.out _ _ _ _ _ _ _ I1 | exact HS.out _ _ _ _ _ _ _ HI0.out.drew | exact HS.out _ _ _ _ _ _ _ (HI0.out.alloc _) | exact HS.out _ _ _ _ _ _ _ (HI0.out.alloc _).drew | exact HS.out _ _ _ _ _ _ _ ((HI0.out.alloc _).alloc _) | exact HS.out _ _ _ _ _ _ _ ((HI0.out.alloc _).alloc _).drew)
          clear hK K
          (try simp only [Act.put, List.setIfInBounds_toArray, List.set_cons_zero, List.set_cons_succ])
          refine Tailed.ways (rs := [27]) (by kernel_rfl) (by simp) ?_
          refine TailedAll.cons rfl (fun K hK => ?_) ?_
          · skip
            refine step_append_lies _ (by rfl) (.tmp 46) (.tmp 54) 32 (by rfl) B 3 i0 _ 1 8 Try.underlying32 hi0 hz0 hz1 hz2 rfl (by omega) fol F.length (F.flatMap intVals) (by rfl)
                (by refine AddI.fo (w0 := w0) (row := row) (fol := fol) (r := .slice (some ⟨g1, 0, none⟩) (R.length + 1) cap1) (f := fol) (rn := R.length + 1) (fn := F.length) (R := R ++ [(ms : Int)]) (F := F) ?_; repeat (first | exact I1 | refine AddI.alloc ?_ _ | refine AddI.drew ?_)) _ 1 1 [.int .i64 hh] (by rfl) (by rfl) (by first | exact int_new _ _ _ | exact int_new2 _ _ _ _ | exact int_new1 _ _ _ _ | exact int_newg0 hgrow1 (HRN.out _ (by simp)) | exact int_newgd hgrow1 (HRN.out _ (by simp)) | exact int_newhd hgrow1 (HRN.out _ (by simp))) (int_one _) (by omega) (by unfold maxLen; omega) (by omega) (by first | (simp; omega) | (have := I1.far.size; simp; omega)) _ rfl ?_
            intro g2 cap2 w2 hown2 hgrow2 hat2 hlt2
            have I2 := AddI.app2 (w0 := w0) (row := row) (fol := fol) (r := .slice (some ⟨g1, 0, none⟩) (R.length + 1) cap1) (rn := R.length + 1) (R := R ++ [(ms : Int)]) (by repeat (first | exact I1 | refine AddI.alloc ?_ _ | refine AddI.drew ?_)) hown2 hgrow2 hat2 rfl
            refine hK.out _ _ ?_ (fun hHeld => ?_)
            · (first | exact HS.out _ _ _ _ _ _ _ I2 | exact HS.out _ _ _ _ _ _ _ (I1.alloc _) | exact HS.out _ _ _ _ _ _ _ I1 | exact HS.out _ _ _ _ _ _ _ HI0.out.drew | exact HS.out _ _ _ _ _ _ _ (HI0.out.alloc _) | exact HS.out _ _ _ _ _ _ _ (HI0.out.alloc _).drew | exact HS.out _ _ _ _ _ _ _ ((HI0.out.alloc _).alloc _) | exact HS.out _ _ _ _ _ _ _ ((HI0.out.alloc _).alloc _).drew)
            clear hK K
            (try simp only [Act.put, List.setIfInBounds_toArray])
            refine Tailed.ways (rs := [28]) (by kernel_rfl) (by simp) ?_
            refine TailedAll.tail rfl (by kernel_rfl) (fun K hK => ?_) ?_
            · skip
              go_simp
              refine hK.out _ _ ?_
              clear hK K
              (try simp only [Act.put, List.setIfInBounds_toArray, List.set_cons_zero, List.set_cons_succ])
              refine Tailed.ways (rs := [29]) (by kernel_rfl) (by simp) ?_
              refine TailedAll.tail rfl (by kernel_rfl) (fun K hK => ?_) ?_
              · skip
                go_simp
                refine hK.out _ _ ?_
                clear hK K
                (try simp only [Act.put, List.setIfInBounds_toArray, List.set_cons_zero, List.set_cons_succ])
                refine Tailed.ways (rs := [30]) (by kernel_rfl) (by simp) ?_
                refine TailedAll.tail rfl (by kernel_rfl) (fun K hK => ?_) ?_
                · skip
                  have f6 := HF.out _ _ _ _ _ _ _ I2 6
                  go_simp
                  refine hK.out _ _ ?_
                  clear hK K
                  (try simp only [Act.put, List.setIfInBounds_toArray, List.set_cons_zero, List.set_cons_succ])
                  refine Tailed.ways (rs := [31]) (by kernel_rfl) (by simp) ?_
                  refine TailedAll.tail rfl (by kernel_rfl) (fun K hK => ?_) ?_
                  · skip
                    go_simp
                    refine hK.out _ _ ?_
                    clear hK K
                    (try simp only [Act.put, List.setIfInBounds_toArray, List.set_cons_zero, List.set_cons_succ])
                    refine Tailed.ways (rs := [32]) (by kernel_rfl) (by simp) ?_
                    refine TailedAll.tail rfl (by kernel_rfl) (fun K hK => ?_) ?_
                    · skip
                      go_simp
                      refine hK.out _ _ ?_
                      clear hK K
                      (try simp only [Act.put, List.setIfInBounds_toArray, List.set_cons_zero, List.set_cons_succ])
                      refine Tailed.ways (rs := [33]) (by kernel_rfl) (by simp) ?_
                      refine TailedAll.tail rfl (by kernel_rfl) (fun K hK => ?_) ?_
                      · skip
                        have f7 := HF.out _ _ _ _ _ _ _ I2 7
                        go_simp
                        refine hK.out _ _ ?_
                        clear hK K
                        (try simp only [Act.put, List.setIfInBounds_toArray, List.set_cons_zero, List.set_cons_succ])
                        refine Tailed.done (by kernel_rfl) ?_
                        go_wp2_with fail
                        go_meet
                        exact ⟨_, _, _, by simpa using I2, ((Far.refl (· = g) w2).set g 6 _ rfl).set g 7 _ rfl, ((K0.out.far I2.far (fun e => e.elim aR aF)).set6 _).set7 _⟩
                      exact TailedAll.nil
                    exact TailedAll.nil
                  exact TailedAll.nil
                exact TailedAll.nil
              exact TailedAll.nil
            exact TailedAll.nil
          exact TailedAll.nil
        exact TailedAll.nil
      refine TailedAll.cons rfl (fun K hK => ?_) ?_
      · skip
        go_simp
        refine hK.out _ _ ?_ (fun hHeld => ?_)
        · (first | exact HS.out _ _ _ _ _ _ _ I2 | exact HS.out _ _ _ _ _ _ _ (I1.alloc _) | exact HS.out _ _ _ _ _ _ _ I1 | exact HS.out _ _ _ _ _ _ _ HI0.out.drew | exact HS.out _ _ _ _ _ _ _ (HI0.out.alloc _) | exact HS.out _ _ _ _ _ _ _ (HI0.out.alloc _).drew | exact HS.out _ _ _ _ _ _ _ ((HI0.out.alloc _).alloc _) | exact HS.out _ _ _ _ _ _ _ ((HI0.out.alloc _).alloc _).drew)
        clear hK K
        (try simp only [Act.put, List.setIfInBounds_toArray, List.set_cons_zero, List.set_cons_succ])
        refine Tailed.ways (rs := [14]) (by kernel_rfl) (by simp) ?_
        refine TailedAll.cons rfl (fun K hK => ?_) ?_
        · skip
          refine step_append_lies _ (by rfl) (.tmp 33) (.tmp 41) 32 (by rfl) B 3 i0 _ 1 8 Try.underlying32 hi0 hz0 hz1 hz2 rfl (by omega) row R.length (R.flatMap intVals) (by rfl)
              (by refine AddI.ro (w0 := w0) (row := row) (fol := fol) (r := row) (f := fol) (rn := R.length) (fn := F.length) (R := R) (F := F) ?_; repeat (first | exact HI0.out | refine AddI.alloc ?_ _ | refine AddI.drew ?_)) _ 1 1 [.int .i64 ms] (by rfl) (by rfl) (by first | exact int_new _ _ _ | exact int_new2 _ _ _ _ | exact int_new1 _ _ _ _ | exact int_newg0 hgrow2 (HFN.out _ (by simp)) | exact int_newgd hgrow2 (HFN.out _ (by simp)) | exact int_newhd hgrow2 (HFN.out _ (by simp))) (int_one _) (by omega) (by unfold maxLen; omega) (by omega) (by first | (simp; omega) | (have := I1.far.size; simp; omega)) _ rfl ?_
          intro g1 cap1 w1 hown1 hgrow1 hat1 hlt1
          have I1 := AddI.app1 (w0 := w0) (row := row) (fol := fol) (f := fol) (fn := F.length) (F := F) (by repeat (first | exact HI0.out | refine AddI.alloc ?_ _ | refine AddI.drew ?_)) hown1 hgrow1 hat1 rfl
          refine hK.out _ _ ?_ (fun hHeld => ?_)
          · (first | exact HS.out _ _ _ _ _ _ _ I2 | exact HS.out _ _ _ _ _ _ _ (I1.alloc _) | exact HS.out _ _ _ _ _ _ _ I1 | exact HS.out _ _ _ _ _ _ _ HI0.out.drew | exact HS.out _ _ _ _ _ _ _ (HI0.out.alloc _) | exact HS.out _ _ _ _ _ _ _ (HI0.out.alloc _).drew | exact HS.out _ _ _ _ _ _ _ ((HI0.out.alloc _).alloc _) | exact HS.out _ _ _ _ _ _ _ ((HI0.out.alloc _).alloc _).drew)
          clear hK K
          (try simp only [Act.put, List.setIfInBounds_toArray])
          refine Tailed.ways (rs := [27]) (by kernel_rfl) (by simp) ?_
          refine TailedAll.cons rfl (fun K hK => ?_) ?_
          · skip
            refine step_append_lies _ (by rfl) (.tmp 46) (.tmp 54) 32 (by rfl) B 3 i0 _ 1 8 Try.underlying32 hi0 hz0 hz1 hz2 rfl (by omega) fol F.length (F.flatMap intVals) (by rfl)
                (by refine AddI.fo (w0 := w0) (row := row) (fol := fol) (r := .slice (some ⟨g1, 0, none⟩) (R.length + 1) cap1) (f := fol) (rn := R.length + 1) (fn := F.length) (R := R ++ [(ms : Int)]) (F := F) ?_; repeat (first | exact I1 | refine AddI.alloc ?_ _ | refine AddI.drew ?_)) _ 1 1 [.int .i64 hh] (by rfl) (by rfl) (by first | exact int_new _ _ _ | exact int_new2 _ _ _ _ | exact int_new1 _ _ _ _ | exact int_newg0 hgrow1 (HRN.out _ (by simp)) | exact int_newgd hgrow1 (HRN.out _ (by simp)) | exact int_newhd hgrow1 (HRN.out _ (by simp))) (int_one _) (by omega) (by unfold maxLen; omega) (by omega) (by first | (simp; omega) | (have := I1.far.size; simp; omega)) _ rfl ?_
            intro g2 cap2 w2 hown2 hgrow2 hat2 hlt2
            have I2 := AddI.app2 (w0 := w0) (row := row) (fol := fol) (r := .slice (some ⟨g1, 0, none⟩) (R.length + 1) cap1) (rn := R.length + 1) (R := R ++ [(ms : Int)]) (by repeat (first | exact I1 | refine AddI.alloc ?_ _ | refine AddI.drew ?_)) hown2 hgrow2 hat2 rfl
            refine hK.out _ _ ?_ (fun hHeld => ?_)
            · (first | exact HS.out _ _ _ _ _ _ _ I2 | exact HS.out _ _ _ _ _ _ _ (I1.alloc _) | exact HS.out _ _ _ _ _ _ _ I1 | exact HS.out _ _ _ _ _ _ _ HI0.out.drew | exact HS.out _ _ _ _ _ _ _ (HI0.out.alloc _) | exact HS.out _ _ _ _ _ _ _ (HI0.out.alloc _).drew | exact HS.out _ _ _ _ _ _ _ ((HI0.out.alloc _).alloc _) | exact HS.out _ _ _ _ _ _ _ ((HI0.out.alloc _).alloc _).drew)
            clear hK K
            (try simp only [Act.put])
            refine Tailed.ways (rs := [28]) (by kernel_rfl) (by simp) ?_
            refine TailedAll.tail rfl (by kernel_rfl) (fun K hK => ?_) ?_
            · skip
              go_simp
              refine hK.out _ _ ?_
              clear hK K
              (try simp only [Act.put, List.setIfInBounds_toArray, List.set_cons_zero, List.set_cons_succ])
              refine Tailed.ways (rs := [29]) (by kernel_rfl) (by simp) ?_
              refine TailedAll.tail rfl (by kernel_rfl) (fun K hK => ?_) ?_
              · skip
                go_simp
                refine hK.out _ _ ?_
                clear hK K
                (try simp only [Act.put, List.setIfInBounds_toArray, List.set_cons_zero, List.set_cons_succ])
                refine Tailed.ways (rs := [30]) (by kernel_rfl) (by simp) ?_
                refine TailedAll.tail rfl (by kernel_rfl) (fun K hK => ?_) ?_
                · skip
                  have f6 := HF.out _ _ _ _ _ _ _ I2 6
                  go_simp
                  refine hK.out _ _ ?_
                  clear hK K
                  (try simp only [Act.put, List.setIfInBounds_toArray, List.set_cons_zero, List.set_cons_succ])
                  refine Tailed.ways (rs := [31]) (by kernel_rfl) (by simp) ?_
                  refine TailedAll.tail rfl (by kernel_rfl) (fun K hK => ?_) ?_
                  · skip
                    go_simp
                    refine hK.out _ _ ?_
                    clear hK K
                    (try simp only [Act.put, List.setIfInBounds_toArray, List.set_cons_zero, List.set_cons_succ])
                    refine Tailed.ways (rs := [32]) (by kernel_rfl) (by simp) ?_
                    refine TailedAll.tail rfl (by kernel_rfl) (fun K hK => ?_) ?_
                    · skip
                      go_simp
                      refine hK.out _ _ ?_
                      clear hK K
                      (try simp only [Act.put, List.setIfInBounds_toArray, List.set_cons_zero, List.set_cons_succ])
                      refine Tailed.ways (rs := [33]) (by kernel_rfl) (by simp) ?_
                      refine TailedAll.tail rfl (by kernel_rfl) (fun K hK => ?_) ?_
                      · skip
                        have f7 := HF.out _ _ _ _ _ _ _ I2 7
                        go_simp
                        refine hK.out _ _ ?_
                        clear hK K
                        (try simp only [Act.put, List.setIfInBounds_toArray, List.set_cons_zero, List.set_cons_succ])
                        refine Tailed.done (by kernel_rfl) ?_
                        go_wp2_with fail
                        go_meet
                        exact ⟨_, _, _, by simpa using I2, ((Far.refl (· = g) w2).set g 6 _ rfl).set g 7 _ rfl, ((K0.out.far I2.far (fun e => e.elim aR aF)).set6 _).set7 _⟩
                      exact TailedAll.nil
                    exact TailedAll.nil
                  exact TailedAll.nil
                exact TailedAll.nil
              exact TailedAll.nil
            exact TailedAll.nil
          exact TailedAll.nil
        exact TailedAll.nil
      exact TailedAll.nil
    refine TailedAll.cons rfl (fun K hK => ?_) ?_
    · skip
      go_simp
      refine hK.out _ _ ?_ (fun hHeld => ?_)
      · (first | exact HS.out _ _ _ _ _ _ _ I2 | exact HS.out _ _ _ _ _ _ _ (I1.alloc _) | exact HS.out _ _ _ _ _ _ _ I1 | exact HS.out _ _ _ _ _ _ _ HI0.out.drew | exact HS.out _ _ _ _ _ _ _ (HI0.out.alloc _) | exact HS.out _ _ _ _ _ _ _ (HI0.out.alloc _).drew | exact HS.out _ _ _ _ _ _ _ ((HI0.out.alloc _).alloc _) | exact HS.out _ _ _ _ _ _ _ ((HI0.out.alloc _).alloc _).drew)
      clear hK K
      (try simp only [Act.put, List.setIfInBounds_toArray, List.set_cons_zero, List.set_cons_succ])
      refine Tailed.ways (rs := [13]) (by kernel_rfl) (by simp) ?_
      refine TailedAll.cons rfl (fun K hK => ?_) ?_
      · skip
        go_simp
        refine hK.out _ _ ?_ (fun hHeld => ?_)
        · (first | exact HS.out _ _ _ _ _ _ _ I2 | exact HS.out _ _ _ _ _ _ _ (I1.alloc _) | exact HS.out _ _ _ _ _ _ _ I1 | exact HS.out _ _ _ _ _ _ _ HI0.out.drew | exact HS.out _ _ _ _ _ _ _ (HI0.out.alloc _) | exact HS.out _ _ _ _ _ _ _ (HI0.out.alloc _).drew | exact HS.out _ _ _ _ _ _ _ ((HI0.out.alloc _).alloc _) | exact HS.out _ _ _ _ _ _ _ ((HI0.out.alloc _).alloc _).drew)
        clear hK K
        (try simp only [Act.put, List.setIfInBounds_toArray, List.set_cons_zero, List.set_cons_succ])
        refine Tailed.ways (rs := [14]) (by kernel_rfl) (by simp) ?_
        refine TailedAll.cons rfl (fun K hK => ?_) ?_
        · skip
          refine step_append_lies _ (by rfl) (.tmp 33) (.tmp 41) 32 (by rfl) B 3 i0 _ 1 8 Try.underlying32 hi0 hz0 hz1 hz2 rfl (by omega) row R.length (R.flatMap intVals) (by rfl)
              (by refine AddI.ro (w0 := w0) (row := row) (fol := fol) (r := row) (f := fol) (rn := R.length) (fn := F.length) (R := R) (F := F) ?_; repeat (first | exact HI0.out | refine AddI.alloc ?_ _ | refine AddI.drew ?_)) _ 1 1 [.int .i64 ms] (by rfl) (by rfl) (by first | exact int_new _ _ _ | exact int_new2 _ _ _ _ | exact int_new1 _ _ _ _ | exact int_newg0 hgrow2 (HFN.out _ (by simp)) | exact int_newgd hgrow2 (HFN.out _ (by simp)) | exact int_newhd hgrow2 (HFN.out _ (by simp))) (int_one _) (by omega) (by unfold maxLen; omega) (by omega) (by first | (simp; omega) | (have := I1.far.size; simp; omega)) _ rfl ?_
          intro g1 cap1 w1 hown1 hgrow1 hat1 hlt1
          have I1 := AddI.app1 (w0 := w0) (row := row) (fol := fol) (f := fol) (fn := F.length) (F := F) (by repeat (first | exact HI0.out | refine AddI.alloc ?_ _ | refine AddI.drew ?_)) hown1 hgrow1 hat1 rfl
          refine hK.out _ _ ?_ (fun hHeld => ?_)
          · (first | exact HS.out _ _ _ _ _ _ _ I2 | exact HS.out _ _ _ _ _ _ _ (I1.alloc _) | exact HS.out _ _ _ _ _ _ _ I1 | exact HS.out _ _ _ _ _ _ _ HI0.out.drew | exact HS.out _ _ _ _ _ _ _ (HI0.out.alloc _) | exact HS.out _ _ _ _ _ _ _ (HI0.out.alloc _).drew | exact HS.out _ _ _ _ _ _ _ ((HI0.out.alloc _).alloc _) | exact HS.out _ _ _ _ _ _ _ ((HI0.out.alloc _).alloc _).drew)
          clear hK K
          (try simp only [Act.put, List.setIfInBounds_toArray])
          refine Tailed.ways (rs := [27]) (by kernel_rfl) (by simp) ?_
          refine TailedAll.cons rfl (fun K hK => ?_) ?_
          · skip
            refine step_append_lies _ (by rfl) (.tmp 46) (.tmp 54) 32 (by rfl) B 3 i0 _ 1 8 Try.underlying32 hi0 hz0 hz1 hz2 rfl (by omega) fol F.length (F.flatMap intVals) (by rfl)
                (by refine AddI.fo (w0 := w0) (row := row) (fol := fol) (r := .slice (some ⟨g1, 0, none⟩) (R.length + 1) cap1) (f := fol) (rn := R.length + 1) (fn := F.length) (R := R ++ [(ms : Int)]) (F := F) ?_; repeat (first | exact I1 | refine AddI.alloc ?_ _ | refine AddI.drew ?_)) _ 1 1 [.int .i64 hh] (by rfl) (by rfl) (by first | exact int_new _ _ _ | exact int_new2 _ _ _ _ | exact int_new1 _ _ _ _ | exact int_newg0 hgrow1 (HRN.out _ (by simp)) | exact int_newgd hgrow1 (HRN.out _ (by simp)) | exact int_newhd hgrow1 (HRN.out _ (by simp))) (int_one _) (by omega) (by unfold maxLen; omega) (by omega) (by first | (simp; omega) | (have := I1.far.size; simp; omega)) _ rfl ?_
            intro g2 cap2 w2 hown2 hgrow2 hat2 hlt2
            have I2 := AddI.app2 (w0 := w0) (row := row) (fol := fol) (r := .slice (some ⟨g1, 0, none⟩) (R.length + 1) cap1) (rn := R.length + 1) (R := R ++ [(ms : Int)]) (by repeat (first | exact I1 | refine AddI.alloc ?_ _ | refine AddI.drew ?_)) hown2 hgrow2 hat2 rfl
            refine hK.out _ _ ?_ (fun hHeld => ?_)
            · (first | exact HS.out _ _ _ _ _ _ _ I2 | exact HS.out _ _ _ _ _ _ _ (I1.alloc _) | exact HS.out _ _ _ _ _ _ _ I1 | exact HS.out _ _ _ _ _ _ _ HI0.out.drew | exact HS.out _ _ _ _ _ _ _ (HI0.out.alloc _) | exact HS.out _ _ _ _ _ _ _ (HI0.out.alloc _).drew | exact HS.out _ _ _ _ _ _ _ ((HI0.out.alloc _).alloc _) | exact HS.out _ _ _ _ _ _ _ ((HI0.out.alloc _).alloc _).drew)
            clear hK K
            (try simp only [Act.put])
            refine Tailed.ways (rs := [28]) (by kernel_rfl) (by simp) ?_
            refine TailedAll.tail rfl (by kernel_rfl) (fun K hK => ?_) ?_
            · skip
              go_simp
              refine hK.out _ _ ?_
              clear hK K
              (try simp only [Act.put, List.setIfInBounds_toArray, List.set_cons_zero, List.set_cons_succ])
              refine Tailed.ways (rs := [29]) (by kernel_rfl) (by simp) ?_
              refine TailedAll.tail rfl (by kernel_rfl) (fun K hK => ?_) ?_
              · skip
                go_simp
                refine hK.out _ _ ?_
                clear hK K
                (try simp only [Act.put, List.setIfInBounds_toArray, List.set_cons_zero, List.set_cons_succ])
                refine Tailed.ways (rs := [30]) (by kernel_rfl) (by simp) ?_
                refine TailedAll.tail rfl (by kernel_rfl) (fun K hK => ?_) ?_
                · skip
                  have f6 := HF.out _ _ _ _ _ _ _ I2 6
                  go_simp
                  refine hK.out _ _ ?_
                  clear hK K
                  (try simp only [Act.put, List.setIfInBounds_toArray, List.set_cons_zero, List.set_cons_succ])
                  refine Tailed.ways (rs := [31]) (by kernel_rfl) (by simp) ?_
                  refine TailedAll.tail rfl (by kernel_rfl) (fun K hK => ?_) ?_
                  · skip
                    go_simp
                    refine hK.out _ _ ?_
                    clear hK K
                    (try simp only [Act.put, List.setIfInBounds_toArray, List.set_cons_zero, List.set_cons_succ])
                    refine Tailed.ways (rs := [32]) (by kernel_rfl) (by simp) ?_
                    refine TailedAll.tail rfl (by kernel_rfl) (fun K hK => ?_) ?_
                    · skip
                      go_simp
                      refine hK.out _ _ ?_
                      clear hK K
                      (try simp only [Act.put, List.setIfInBounds_toArray, List.set_cons_zero, List.set_cons_succ])
                      refine Tailed.ways (rs := [33]) (by kernel_rfl) (by simp) ?_
                      refine TailedAll.tail rfl (by kernel_rfl) (fun K hK => ?_) ?_
                      · skip
                        have f7 := HF.out _ _ _ _ _ _ _ I2 7
                        go_simp
                        refine hK.out _ _ ?_
                        clear hK K
                        (try simp only [Act.put, List.setIfInBounds_toArray, List.set_cons_zero, List.set_cons_succ])
                        refine Tailed.done (by kernel_rfl) ?_
                        go_wp2_with fail
                        go_meet
                        exact ⟨_, _, _, by simpa using I2, ((Far.refl (· = g) w2).set g 6 _ rfl).set g 7 _ rfl, ((K0.out.far I2.far (fun e => e.elim aR aF)).set6 _).set7 _⟩
                      exact TailedAll.nil
                    exact TailedAll.nil
                  exact TailedAll.nil
                exact TailedAll.nil
              exact TailedAll.nil
            exact TailedAll.nil
          exact TailedAll.nil
        exact TailedAll.nil
      exact TailedAll.nil
    exact TailedAll.nil
  case rest =>
    have HI4 := Lib.hid (rfl : B = B)
    clear HI4
    obtain ⟨W4, r4, f4, I4, F4, KS⟩ := hcut
    have KS' := Lib.hid KS
    have hWg : ∀ b, b ≠ g → b < w0.heap.size → row.ownBlock ≠ some b → fol.ownBlock ≠ some b → wc.heap[b]? = w0.heap[b]? := fun b hb hlt n1 n2 =>
      (F4.block b (Nat.lt_of_lt_of_le hlt I4.far.size) hb).trans (I4.far.block b hlt (fun e => e.elim n1 n2))
    have e8 := KS.cell 8
    simp at e8
    have em : wc.cell? ⟨g, s, none⟩ = some (.int .i64 ms) := by
      have := KS.cell s
      rw [← Hms.out]
      rw [this]
      have : s = 0 ∨ s = 1 ∨ s = 2 := by omega
      rcases this with rfl | rfl | rfl <;> rfl
    have eh : wc.cell? ⟨g, 3 + s, none⟩ = some (.int .i64 hh) := by
      have := KS.cell (3 + s)
      rw [← Hhs.out]
      rw [this]
      have : s = 0 ∨ s = 1 ∨ s = 2 := by omega
      rcases this with rfl | rfl | rfl <;> rfl
    have ex : wc.cell? ⟨w.heap.size, 0, none⟩ = some (.int .i64 s) := (World.cell?_of_block (hWg _ (Ne.symm hne) (World.block_lt_of_cell? _ _ dx) rlt flt)).trans dx
    have hbB : Below B w wc := by
      have h1 : Below B w w0 := hb0.mono (by omega)
      have h2 : Below B w0 W4 := I4.far.toBelow (by omega) (fun k hk => by
        rcases hk with e | e
        · exact (HoR.out.lt k e).1
        · exact (HoF.out.lt k e).1)
      have h3 : Below B W4 wc := F4.toBelow (Nat.le_trans hgB h2.size) (fun k hk => by omega)
      exact (h1.trans h2).trans h3
    have hBw : B ≤ wc.heap.size := Nat.le_trans hgB (Nat.le_trans I4.far.size F4.size)
    have HBB := Lib.hid hbB
    have oC : wc.ownsRow B 3 1 (.slice Ac l cc) l ((CN.map Int.ofNat).flatMap intVals) := F4.own (I4.far.own (own_below HoC.out hb0) (fun k hk e => e.elim (fun e => Hrc.out k e hk) (fun e => Hfc.out k e hk))) (fun k hk e => AC.out (by rw [hk, e]))
    have hcr : RowInts wc Ac (CN.map Int.ofNat) := RowOf.of_own (by rw [List.length_map]; exact Hln.out.symm) (fun _ _ => rfl) oC
    have aC : (Value.slice Ac l cc).ownBlock ≠ some g := AC.out
    have clt : (Value.slice Ac l cc).ownBlock ≠ some w.heap.size := fun e => by have := (HoC.out.lt _ e).2; omega
    have HS5 := Lib.hid (fun (W : World) (hf : Far (fun k => (Value.slice Ac l cc).ownBlock = some k) wc W) => (show W.cell? ⟨g, 8, none⟩ = some (.slice Ac l cc) ∧ W.cell? ⟨w.heap.size, 0, none⟩ = some (.int .i64 s) ∧ W.cell? ⟨g, s, none⟩ = some (.int .i64 ms) ∧ W.cell? ⟨g, 3 + s, none⟩ = some (.int .i64 hh) from
      ⟨hf.cell e8 aC, hf.cell ex clt, hf.cell em aC, hf.cell eh aC⟩))
    have HF5 := Lib.hid (fun (W : World) (hf : Far (fun k => (Value.slice Ac l cc).ownBlock = some k) wc W) (i : Nat) => (World.frozen?_of_block (a := ⟨g, i, none⟩) (hf.block g KS'.out.lt aC)).trans (KS'.out.free i))
    have OC := Lib.hid oC
    have HCR := Lib.hid hcr
    clear KS e8 em eh ex oC hcr hWg
    go_upto_region 5 with fail
    refine tailed_start 26 (fun w' => w'.cell? ⟨g, 8, none⟩ = some (.slice Ac l cc) ∧ w'.cell? ⟨w.heap.size, 0, none⟩ = some (.int .i64 s) ∧ w'.cell? ⟨g, s, none⟩ = some (.int .i64 ms) ∧ w'.cell? ⟨g, 3 + s, none⟩ = some (.int .i64 hh)) (by kernel_rfl) ?_ (fun hHeld => ?_)
    · (first | exact HS5.out _ I5 | exact HS5.out _ (Far.refl _ _).drew | exact HS5.out _ ((Far.refl _ _).alloc _).drew | exact HS5.out _ ((Far.refl _ _).drew.alloc _))
    refine Tailed.pure (i := 0) (v := ?hv501) rfl (by kernel_rfl) (by kernel_rfl) (by kernel_rfl) (by omega) (by kernel_rfl) (by kernel_rfl) (fun _ _ _ h => h) (by assumption) (Or.inl ⟨by rfl, ?hy501⟩) ?hr501
    case' hy501 => (intro w' _hSw; go_simp; try with_reducible rfl)
    (try simp only [Act.put, List.setIfInBounds_toArray])
    refine Tailed.pure (i := 1) (v := ?hv502) rfl (by kernel_rfl) (by kernel_rfl) (by kernel_rfl) (by omega) (by kernel_rfl) (by kernel_rfl) (fun _ _ _ h => h) (by assumption) (Or.inl ⟨by rfl, ?hy502⟩) ?hr502
    case' hy502 => (intro w' _hSw; go_simp; try with_reducible rfl)
    (try simp only [Act.put])
    refine Tailed.pure (i := 2) (v := ?hv503) rfl (by kernel_rfl) (by kernel_rfl) (by kernel_rfl) (by omega) (by kernel_rfl) (by kernel_rfl) (fun _ _ _ h => h) (by assumption) (Or.inl ⟨by rfl, ?hy503⟩) ?hr503
    case' hy503 => (intro w' _hSw; go_simp; try with_reducible rfl)
    (try simp only [Act.put])
    refine Tailed.pure (i := 3) (v := ?hv504) rfl (by kernel_rfl) (by kernel_rfl) (by kernel_rfl) (by omega) (by kernel_rfl) (by kernel_rfl) (fun _ _ _ h => h) (by assumption) (Or.inl ⟨by rfl, ?hy504⟩) ?hr504
    case' hy504 => (intro w' _hSw; go_simp; try with_reducible rfl)
    (try simp only [Act.put])
    refine Tailed.take (i := 4) (v := ?hv505) rfl (by kernel_rfl) (by kernel_rfl) (by kernel_rfl) (by kernel_rfl) (by kernel_rfl) (by kernel_rfl) (fun _ _ _ h => h) (by assumption) (Or.inl ⟨by rfl, ?hy505⟩) ?hr505
    case' hy505 => (intro w' hSw; (try dsimp only at hSw); go_simp; try with_reducible rfl)
    (try simp only [Act.put])
    refine Tailed.pure (i := 5) (v := ?hv506) rfl (by kernel_rfl) (by kernel_rfl) (by kernel_rfl) (by omega) (by kernel_rfl) (by kernel_rfl) (fun _ _ _ h => h) (by assumption) (Or.inl ⟨by rfl, ?hy506⟩) ?hr506
    case' hy506 => (intro w' _hSw; go_simp; try with_reducible rfl)
    (try simp only [Act.put])
    refine Tailed.pure (i := 6) (v := ?hv507) rfl (by kernel_rfl) (by kernel_rfl) (by kernel_rfl) (by omega) (by kernel_rfl) (by kernel_rfl) (fun _ _ _ h => h) (by assumption) (Or.inl ⟨by rfl, ?hy507⟩) ?hr507
    case' hy507 => (intro w' _hSw; go_simp; try with_reducible rfl)
    (try simp only [Act.put])
    refine Tailed.pure (i := 7) (v := ?hv508) rfl (by kernel_rfl) (by kernel_rfl) (by kernel_rfl) (by omega) (by kernel_rfl) (by kernel_rfl) (fun _ _ _ h => h) (by assumption) (Or.inl ⟨by rfl, ?hy508⟩) ?hr508
    case' hy508 => (intro w' _hSw; go_simp; try with_reducible rfl)
    (try simp only [Act.put])
    refine Tailed.pure (i := 8) (v := ?hv509) rfl (by kernel_rfl) (by kernel_rfl) (by kernel_rfl) (by omega) (by kernel_rfl) (by kernel_rfl) (fun _ _ _ h => h) (by assumption) (Or.inl ⟨by rfl, ?hy509⟩) ?hr509
    case' hy509 => (intro w' _hSw; go_simp; try with_reducible rfl)
    (try simp only [Act.put])
    refine Tailed.take (i := 9) (v := ?hv510) rfl (by kernel_rfl) (by kernel_rfl) (by kernel_rfl) (by kernel_rfl) (by kernel_rfl) (by kernel_rfl) (fun _ _ _ h => h) (by assumption) (Or.inl ⟨by rfl, ?hy510⟩) ?hr510
    case' hy510 => (intro w' hSw; (try dsimp only at hSw); go_simp; try with_reducible rfl)
    (try simp only [Act.put])
    refine Tailed.pure (i := 10) (v := ?hv511) rfl (by kernel_rfl) (by kernel_rfl) (by kernel_rfl) (by omega) (by kernel_rfl) (by kernel_rfl) (fun _ _ _ h => h) (by assumption) (Or.inl ⟨by rfl, ?hy511⟩) ?hr511
    case' hy511 => (intro w' _hSw; go_simp; try with_reducible rfl)
    (try simp only [Act.put])
    refine Tailed.pure (i := 11) (v := ?hv512) rfl (by kernel_rfl) (by kernel_rfl) (by kernel_rfl) (by omega) (by kernel_rfl) (by kernel_rfl) (fun _ _ _ h => h) (by assumption) (Or.inl ⟨by rfl, ?hy512⟩) ?hr512
    case' hy512 => (intro w' _hSw; go_simp; try with_reducible rfl)
    (try simp only [Act.put])
    refine Tailed.pure (i := 12) (v := ?hv513) rfl (by kernel_rfl) (by kernel_rfl) (by kernel_rfl) (by omega) (by kernel_rfl) (by kernel_rfl) (fun _ _ _ h => h) (by assumption) (Or.inl ⟨by rfl, ?hy513⟩) ?hr513
    case' hy513 => (intro w' _hSw; go_simp; try with_reducible rfl)
    (try simp only [Act.put])
    refine Tailed.take (i := 13) (v := ?hv514) rfl (by kernel_rfl) (by kernel_rfl) (by kernel_rfl) (by kernel_rfl) (by kernel_rfl) (by kernel_rfl) (fun _ _ _ h => h) (by assumption) (Or.inl ⟨by rfl, ?hy514⟩) ?hr514
    case' hy514 => (intro w' hSw; (try dsimp only at hSw); go_simp; try with_reducible rfl)
    (try simp only [Act.put])
    refine Tailed.pure (i := 14) (v := ?hv515) rfl (by kernel_rfl) (by kernel_rfl) (by kernel_rfl) (by omega) (by kernel_rfl) (by kernel_rfl) (fun _ _ _ h => h) (by assumption) (Or.inl ⟨by rfl, ?hy515⟩) ?hr515
    case' hy515 => (intro w' _hSw; go_simp; try with_reducible rfl)
    (try simp only [Act.put])
    refine Tailed.pure (i := 15) (v := ?hv516) rfl (by kernel_rfl) (by kernel_rfl) (by kernel_rfl) (by omega) (by kernel_rfl) (by kernel_rfl) (fun _ _ _ h => h) (by assumption) (Or.inl ⟨by rfl, ?hy516⟩) ?hr516
    case' hy516 => (intro w' _hSw; go_simp; try with_reducible rfl)
    (try simp only [Act.put])
    refine Tailed.take (i := 16) (v := ?hv517) rfl (by kernel_rfl) (by kernel_rfl) (by kernel_rfl) (by kernel_rfl) (by kernel_rfl) (by kernel_rfl) (fun _ _ _ h => h) (by assumption) (Or.inl ⟨by rfl, ?hy517⟩) ?hr517
    case' hy517 => (intro w' hSw; (try dsimp only at hSw); go_simp; try with_reducible rfl)
    (try simp only [Act.put])
    refine Tailed.pure (i := 17) (v := ?hv518) rfl (by kernel_rfl) (by kernel_rfl) (by kernel_rfl) (by omega) (by kernel_rfl) (by kernel_rfl) (fun _ _ _ h => h) (by assumption) (Or.inl ⟨by rfl, ?hy518⟩) ?hr518
    case' hy518 => (intro w' _hSw; go_simp; try with_reducible rfl)
    (try simp only [Act.put])
    refine Tailed.pure (i := 18) (v := ?hv519) rfl (by kernel_rfl) (by kernel_rfl) (by kernel_rfl) (by omega) (by kernel_rfl) (by kernel_rfl) (fun _ _ _ h => h) (by assumption) (Or.inl ⟨by rfl, ?hy519⟩) ?hr519
    case' hy519 => (intro w' _hSw; go_simp; try with_reducible rfl)
    (try simp only [Act.put])
    refine Tailed.pure (i := 19) (v := ?hv520) rfl (by kernel_rfl) (by kernel_rfl) (by kernel_rfl) (by omega) (by kernel_rfl) (by kernel_rfl) (fun _ _ _ h => h) (by assumption) (Or.inl ⟨by rfl, ?hy520⟩) ?hr520
    case' hy520 => (intro w' _hSw; go_simp; try with_reducible rfl)
    (try simp only [Act.put])
    refine Tailed.take (i := 20) (v := ?hv521) rfl (by kernel_rfl) (by kernel_rfl) (by kernel_rfl) (by kernel_rfl) (by kernel_rfl) (by kernel_rfl) (fun _ _ _ h => h) (by assumption) (Or.inl ⟨by rfl, ?hy521⟩) ?hr521
    case' hy521 => (intro w' hSw; (try dsimp only at hSw); go_simp; try with_reducible rfl)
    (try simp only [Act.put])
    refine Tailed.pure (i := 21) (v := ?hv522) rfl (by kernel_rfl) (by kernel_rfl) (by kernel_rfl) (by omega) (by kernel_rfl) (by kernel_rfl) (fun _ _ _ h => h) (by assumption) (Or.inl ⟨by rfl, ?hy522⟩) ?hr522
    case' hy522 => (intro w' _hSw; go_simp; try with_reducible rfl)
    (try simp only [Act.put])
    refine Tailed.ways (rs := [22]) (by kernel_rfl) (by simp) ?_
    refine TailedAll.cons rfl (fun K hK => ?_) ?_
    · skip
      go_simp
      go_at_call 49
      refine (HCL.out _ hHeld.1 (RowOf.below HCR.out ?hb5)).mono ?_
      case hb5 => exact (Below.refl _ _).drew
      rintro e w' ⟨rfl, rfl⟩
      go_wp2_with fail
      refine hK.out _ _ ?_ (fun hHeld => ?_)
      · (first | exact HS5.out _ I5 | exact HS5.out _ (Far.refl _ _).drew | exact HS5.out _ ((Far.refl _ _).alloc _).drew | exact HS5.out _ ((Far.refl _ _).drew.alloc _))
      clear hK K
      (try simp only [Act.put, List.setIfInBounds_toArray, List.set_cons_zero, List.set_cons_succ])
      refine Tailed.pure (i := 23) (v := ?hv523) rfl (by kernel_rfl) (by kernel_rfl) (by kernel_rfl) (by omega) (by kernel_rfl) (by kernel_rfl) (fun _ _ _ h => h) (by assumption) (Or.inl ⟨by rfl, ?hy523⟩) ?hr523
      case' hy523 => (intro w' _hSw; go_simp; try with_reducible rfl)
      (try simp only [Act.put, List.setIfInBounds_toArray])
      refine Tailed.ways (rs := [24]) (by kernel_rfl) (by simp) ?_
      refine TailedAll.cons rfl (fun K hK => ?_) ?_
      · skip
        go_simp
        refine hK.out _ _ ?_ (fun hHeld => ?_)
        · (first | exact HS5.out _ I5 | exact HS5.out _ (Far.refl _ _).drew | exact HS5.out _ ((Far.refl _ _).alloc _).drew | exact HS5.out _ ((Far.refl _ _).drew.alloc _))
        clear hK K
        (try simp only [Act.put, List.setIfInBounds_toArray, List.set_cons_zero, List.set_cons_succ])
        refine Tailed.ways (rs := [25]) (by kernel_rfl) (by simp) ?_
        refine TailedAll.cons rfl (fun K hK => ?_) ?_
        · skip
          refine step_append_lies _ (by rfl) (.tmp 64) (.tmp 84) 32 (by rfl) B 3 i0 _ 1 8 Try.underlying32 hi0 hz0 hz1 hz2 rfl (by omega) (.slice Ac l cc) l ((CN.map Int.ofNat).flatMap intVals) (by rfl)
              (by first | exact (OC.out.alloc _).drew | exact (OC.out.drew.alloc _)) _ 1 1 [.int .i64 ((ow ||| ck : Nat) : Int)] (by rfl) (by rfl) (int_new _ _ _) (int_one _) (by omega) (by unfold maxLen; omega) (by omega) (by simp; omega) _ rfl ?_
          intro g3 cap3 w3 hown3 hgrow3 hat3 hlt3
          have I5 : Far (fun k => (Value.slice Ac l cc).ownBlock = some k) wc w3 := Far.grown (by first | exact ((Far.refl _ _).alloc _).drew | exact (Far.refl _ _).drew.alloc _) hgrow3 (fun _ _ e => e)
          refine hK.out _ _ ?_ (fun hHeld => ?_)
          · (first | exact HS5.out _ I5 | exact HS5.out _ (Far.refl _ _).drew | exact HS5.out _ ((Far.refl _ _).alloc _).drew | exact HS5.out _ ((Far.refl _ _).drew.alloc _))
          clear hK K
          (try simp only [Act.put, List.setIfInBounds_toArray])
          refine Tailed.ways (rs := [26]) (by kernel_rfl) (by simp) ?_
          refine TailedAll.tail rfl (by kernel_rfl) (fun K hK => ?_) ?_
          · skip
            go_simp
            refine hK.out _ _ ?_
            clear hK K
            (try simp only [Act.put, List.setIfInBounds_toArray, List.set_cons_zero, List.set_cons_succ])
            refine Tailed.ways (rs := [27]) (by kernel_rfl) (by simp) ?_
            refine TailedAll.tail rfl (by kernel_rfl) (fun K hK => ?_) ?_
            · skip
              go_simp
              refine hK.out _ _ ?_
              clear hK K
              (try simp only [Act.put, List.setIfInBounds_toArray, List.set_cons_zero, List.set_cons_succ])
              refine Tailed.ways (rs := [28]) (by kernel_rfl) (by simp) ?_
              refine TailedAll.tail rfl (by kernel_rfl) (fun K hK => ?_) ?_
              · skip
                have f8 := HF5.out _ I5 8
                go_simp
                refine hK.out _ _ ?_
                clear hK K
                (try simp only [Act.put, List.setIfInBounds_toArray, List.set_cons_zero, List.set_cons_succ])
                refine Tailed.done (by kernel_rfl) ?_
                go_wp2_with fail
                have K6 := (KS'.out.far I5 aC).set8 (Value.slice (some ⟨g3, 0, none⟩) (l + 1) cap3)
                have x6 := (sess_grown w3 g 8 (Value.slice (some ⟨g3, 0, none⟩) (l + 1) cap3)).cell (HS5.out _ I5).2.1 (by simp; exact Ne.symm hne)
                have F5 : Far (· = g) w3 (w3.setCell ⟨g, 8, none⟩ (Value.slice (some ⟨g3, 0, none⟩) (l + 1) cap3)) := (Far.refl _ w3).set g 8 _ rfl
                generalize w3.setCell ⟨g, 8, none⟩ (Value.slice (some ⟨g3, 0, none⟩) (l + 1) cap3) = w6 at *
                have m6 : w6.cell? ⟨g, s, none⟩ = some (.int .i64 ms) := by
                  have := K6.cell s
                  rw [← Hms.out]
                  rw [this]
                  have : s = 0 ∨ s = 1 ∨ s = 2 := by omega
                  rcases this with rfl | rfl | rfl <;> rfl
                have f6 := K6.free s
                have HK6 := Lib.hid K6
                have HF5' := Lib.hid F5
                have HI5 := Lib.hid I5
                have Hat := Lib.hid hat3
                have Hown := Lib.hid hown3
                clear K6 F5 I5 hat3 hown3 hgrow3
                refine tailed_start 12 (fun w' => w'.cell? ⟨w.heap.size, 0, none⟩ = some (.int .i64 s) ∧ w'.cell? ⟨g, s, none⟩ = some (.int .i64 ms)) (by kernel_rfl) ?_ (fun hHeld => ?_)
                · exact ⟨x6, m6⟩
                refine Tailed.pure (i := 0) (v := ?hv801) rfl (by kernel_rfl) (by kernel_rfl) (by kernel_rfl) (by omega) (by kernel_rfl) (by kernel_rfl) (fun _ _ _ h => h) (by assumption) (Or.inl ⟨by rfl, ?hy801⟩) ?hr801
                case' hy801 => (intro w' _hSw; go_simp; try with_reducible rfl)
                (try simp only [Act.put, List.setIfInBounds_toArray])
                refine Tailed.pure (i := 1) (v := ?hv802) rfl (by kernel_rfl) (by kernel_rfl) (by kernel_rfl) (by omega) (by kernel_rfl) (by kernel_rfl) (fun _ _ _ h => h) (by assumption) (Or.inl ⟨by rfl, ?hy802⟩) ?hr802
                case' hy802 => (intro w' _hSw; go_simp; try with_reducible rfl)
                (try simp only [Act.put])
                refine Tailed.take (i := 2) (v := ?hv803) rfl (by kernel_rfl) (by kernel_rfl) (by kernel_rfl) (by kernel_rfl) (by kernel_rfl) (by kernel_rfl) (fun _ _ _ h => h) (by assumption) (Or.inl ⟨by rfl, ?hy803⟩) ?hr803
                case' hy803 => (intro w' hSw; (try dsimp only at hSw); go_simp; try with_reducible rfl)
                (try simp only [Act.put])
                refine Tailed.pure (i := 3) (v := ?hv804) rfl (by kernel_rfl) (by kernel_rfl) (by kernel_rfl) (by omega) (by kernel_rfl) (by kernel_rfl) (fun _ _ _ h => h) (by assumption) (Or.inl ⟨by rfl, ?hy804⟩) ?hr804
                case' hy804 => (intro w' _hSw; go_simp; try with_reducible rfl)
                (try simp only [Act.put])
                refine Tailed.pure (i := 4) (v := ?hv805) rfl (by kernel_rfl) (by kernel_rfl) (by kernel_rfl) (by omega) (by kernel_rfl) (by kernel_rfl) (fun _ _ _ h => h) (by assumption) (Or.inl ⟨by rfl, ?hy805⟩) ?hr805
                case' hy805 => (intro w' _hSw; go_simp; try with_reducible rfl)
                (try simp only [Act.put])
                refine Tailed.pure (i := 5) (v := ?hv806) rfl (by kernel_rfl) (by kernel_rfl) (by kernel_rfl) (by omega) (by kernel_rfl) (by kernel_rfl) (fun _ _ _ h => h) (by assumption) (Or.inl ⟨by rfl, ?hy806⟩) ?hr806
                case' hy806 => (intro w' _hSw; go_simp; try with_reducible rfl)
                (try simp only [Act.put])
                refine Tailed.take (i := 6) (v := ?hv807) rfl (by kernel_rfl) (by kernel_rfl) (by kernel_rfl) (by kernel_rfl) (by kernel_rfl) (by kernel_rfl) (fun _ _ _ h => h) (by assumption) (Or.inl ⟨by rfl, ?hy807⟩) ?hr807
                case' hy807 => (intro w' hSw; (try dsimp only at hSw); go_simp; try with_reducible rfl)
                (try simp only [Act.put])
                refine Tailed.pure (i := 7) (v := ?hv808) rfl (by kernel_rfl) (by kernel_rfl) (by kernel_rfl) (by omega) (by kernel_rfl) (by kernel_rfl) (fun _ _ _ h => h) (by assumption) (Or.inl ⟨by rfl, ?hy808⟩) ?hr808
                case' hy808 => (intro w' _hSw; go_simp; try with_reducible rfl)
                (try simp only [Act.put])
                refine Tailed.pure (i := 8) (v := ?hv809) rfl (by kernel_rfl) (by kernel_rfl) (by kernel_rfl) (by omega) (by kernel_rfl) (by kernel_rfl) (fun _ _ _ h => h) (by assumption) (Or.inl ⟨by rfl, ?hy809⟩) ?hr809
                case' hy809 => (intro w' _hSw; go_simp; try with_reducible rfl)
                (try simp only [Act.put])
                refine Tailed.pure (i := 9) (v := ?hv810) rfl (by kernel_rfl) (by kernel_rfl) (by kernel_rfl) (by omega) (by kernel_rfl) (by kernel_rfl) (fun _ _ _ h => h) (by assumption) (Or.inl ⟨by rfl, ?hy810⟩) ?hr810
                case' hy810 => (intro w' _hSw; go_simp; try with_reducible rfl)
                (try simp only [Act.put])
                refine Tailed.pure (i := 10) (v := ?hv811) rfl (by kernel_rfl) (by kernel_rfl) (by kernel_rfl) (by omega) (by kernel_rfl) (by kernel_rfl) (fun _ _ _ h => h) (by assumption) (Or.inl ⟨by rfl, ?hy811⟩) ?hr811
                case' hy811 => (intro w' _hSw; go_simp; try with_reducible rfl)
                (try simp only [Act.put])
                refine Tailed.pure (i := 11) (v := ?hv812) rfl (by kernel_rfl) (by kernel_rfl) (by kernel_rfl) (by omega) (by kernel_rfl) (by kernel_rfl) (fun _ _ _ h => h) (by assumption) (Or.inl ⟨by rfl, ?hy812⟩) ?hr812
                case' hy812 => (intro w' _hSw; go_simp; try with_reducible rfl)
                (try simp only [Act.put])
                refine Tailed.ways (rs := [12]) (by kernel_rfl) (by simp) ?_
                refine TailedAll.tail rfl (by kernel_rfl) (fun K hK => ?_) ?_
                · skip
                  go_simp
                  refine hK.out _ _ ?_
                  clear hK K
                  (try simp only [Act.put, List.setIfInBounds_toArray, List.set_cons_zero, List.set_cons_succ])
                  refine Tailed.done (by kernel_rfl) ?_
                  go_wp2_with fail
                  have hfin : ∀ wf : World, wf.heap = (w6.setCell ⟨g, s, none⟩ (.int .i64 ((ms ||| ow : Nat) : Int))).heap → wf.os = w6.os → wf.tape = w6.tape → wf.output = w6.output → SessNext w wf B g (upd m s (ms ||| ow)) h row fol (.slice Ac l cc) (R ++ [(ms : Int)]) (F ++ [(hh : Int)]) ((CN ++ [ow ||| ck]).map Int.ofNat) ∧ Below B w wf := by
                    intro wf e1 e2 e3 e4
                    have hg6 := sess_grown w6 g s (.int .i64 ((ms ||| ow : Nat) : Int))
                    have F6 : Far (· = g) w6 wf := by
                      have := (Far.refl (· = g) w6).set g s (.int .i64 ((ms ||| ow : Nat) : Int)) rfl
                      exact ⟨e2, e3, e4, by rw [e1]; exact this.size, fun k hk hp => by rw [e1]; exact this.block k hk hp⟩
                    have F56 : Far (· = g) w3 wf := HF5'.out.trans ⟨F6.os, F6.tape, F6.output, F6.size, F6.block⟩
                    refine ⟨(add_end I4 F4 HI5.out F56 ?_ (by rw [List.map_append, List.flatMap_append]; exact Hown.out) ?_ ?_ hB K0.out.lt aR aF aC Hrc.out Hfc.out ?_).from hb0, ?_⟩
                    · have := HK6.out.made_ s (ms ||| ow) hs
                      unfold SessBlk at this ⊢
                      rw [e1]; exact this
                    · simp [Hln.out]
                    · rcases Hat.out with e | e
                      · exact .inl e
                      · exact .inr (by rw [e]; simp)
                    · intro k hk
                      have := (HoC.out.lt k hk).2
                      have := hb0.size
                      omega
                    · have h4 : Below B wc w3 := HI5.out.toBelow hBw (fun k hk => (HoC.out.lt k hk).1)
                      have h5 : Below B w3 wf := F56.toBelow (Nat.le_trans hBw h4.size) (fun k hk => by omega)
                      exact (HBB.out.trans h4).trans h5
                  have hpost : AddNext w (w6.setCell ⟨g, s, none⟩ (.int .i64 ((ms ||| ow : Nat) : Int))).drew B g (upd m s (ms ||| 2 ^ l)) h row fol (.slice Ac l cc) (R ++ [(ms : Int)]) (F ++ [(hh : Int)]) ((CN ++ [2 ^ l ||| cauK (ms ||| hh) CN (ms ||| hh) l]).map Int.ofNat) (.returned (.tuple #[])) := by
                    unfold AddNext
                    rw [Hnr.out, How.out, Hck.out]
                    exact ⟨rfl, hfin _ rfl rfl rfl rfl⟩
                  exact bodyPost_end (v := .tuple #[]) (by simp [results, Try.results50, go_sem]) rfl hpost
                exact TailedAll.nil
              exact TailedAll.nil
            exact TailedAll.nil
          exact TailedAll.nil
        exact TailedAll.nil
      exact TailedAll.nil
    exact TailedAll.nil

theorem addWrite_calls (B g s : Nat) (m h : Nat → Nat) (R F : List Int) (CN : List Nat) (w : World) (k : SessW w B g m h R F (CN.map Int.ofNat))
    (hs : s < 3) (h1 : m s < 2 ^ 20) (h2 : h s < 2 ^ 20) (hl : CN.length < 20) (hL : ∀ j, CN.getD j 0 < 2 ^ 20) (hRl : R.length = CN.length) (hFl : F.length = CN.length) :
    Calls Try.prog 50 #[.pointer (some ⟨g, 0, none⟩), .agg #[.int .i64 s, .bool true, .int .i64 0]] w fun e w' =>
      AddDone w w' B g (upd m s (m s ||| 2 ^ CN.length)) h (R ++ [(m s : Int)]) (F ++ [(h s : Int)]) ((CN ++ [2 ^ CN.length ||| cauK (m s ||| h s) CN (m s ||| h s) CN.length]).map Int.ofNat) e := by
  obtain ⟨row, fol, cau, k⟩ := k
  exact (addWrite_next B g s m h row fol cau R F CN w k hs h1 h2 hl hL hRl hFl).mono fun e w' hd => ⟨hd.1, hd.2.1.sess, hd.2.2⟩
end Go.Proofs.Ytooigcfdkmgjnaa
