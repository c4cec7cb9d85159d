/-
  What StepObject answers, of the program and of the reference: the same Lean function, in memory of its own. No condition but lengths of at most 2 to the 20.
-/
import Derived.Test.YtoeecaeaobfhmaaStepV
import Derived.Test.YtoeecaeaobfhmaaHist
namespace Go.Proofs.Ytoeecaeaobfhmaa
open Go.RowKit Go.Deep
set_option maxRecDepth 100000

/-- The object, if all is as it must be. -/
def soOk (s : ByteArray) (st : List Int) (c : CallD) : Option Ob := if stB (s.toList == [115, 101, 116]) (obOf s) st && callB c then obOf s else none
def soL (o : Option Ob) (st : List Int) (c : CallD) : List Int := match o with
  | none => []
  | some o => stepS o st c.kind c.arg
def soB (o : Option Ob) (st : List Int) (c : CallD) : Bool := match o with
  | none => false
  | some o => stepA o st c.kind c.arg == c.ret
def SoPost (w w' : World) (L : List Int) (b : Bool) (e : Ending) : Prop := ∃ v, e = .returned (.tuple #[v, .bool b]) ∧ OwnInts w' w.heap.size v L ∧ Below w.heap.size w w'

theorem stB_none (isset : Bool) (st : List Int) : stB isset none st = false := by simp [stB, obB]
theorem stB_len {isset : Bool} {o : Ob} {st : List Int} (h : stB isset (some o) st = true) : st.length ≤ 20 ∧ (o.one = true → st.length ≤ 1) ∧ ∀ x ∈ st, 0 ≤ x := by
  unfold stB at h
  rw [obB_some] at h
  simp only [Bool.and_eq_true, decide_eq_true_eq] at h
  refine ⟨?_, fun h1 => by have := h.2; rw [h1] at this; simpa using this, fun x hx => ?_⟩
  · have := h.2
    split at this <;> omega
  · obtain ⟨i, hi⟩ := List.getElem?_of_mem hx
    have h1 := List.all_eq_true.1 h.1 i (List.mem_range.2 (List.getElem?_eq_some_iff.1 hi).1)
    simp only [stRow, Bool.and_eq_true, inB, decide_eq_true_eq] at h1
    have h2 := h1.1.1
    rw [List.getD, hi] at h2
    exact h2
theorem callB_parts {c : CallD} (h : callB c = true) : (0 ≤ c.kind ∧ c.kind ≤ 2) ∧ (0 ≤ c.arg ∧ c.arg ≤ 3) := by
  simp only [callB, Bool.and_eq_true, inB, decide_eq_true_eq] at h
  omega
theorem hist_one (c : CallD) : histB [c] = callB c := by
  have h : hAt [c] 0 = c := rfl
  simp [histB, rowB, h, List.range_succ]
theorem box_at {w w' : World} {E : TypeId} (c : CallD) (hb : Below (w.heap.size + 1) (w.alloc (.cells #[.int .i64 c.proc, .int .i64 c.obj, .int .i64 c.kind, .int .i64 c.arg, .int .i64 c.ret, .int .i64 c.fr, .int .i64 c.till] E)) w') :
    (w'.cell? ⟨w.heap.size, 0, none⟩ = some (.int .i64 c.proc) ∧ w'.cell? ⟨w.heap.size, 1, none⟩ = some (.int .i64 c.obj) ∧ w'.cell? ⟨w.heap.size, 2, none⟩ = some (.int .i64 c.kind) ∧ w'.cell? ⟨w.heap.size, 3, none⟩ = some (.int .i64 c.arg) ∧ w'.cell? ⟨w.heap.size, 4, none⟩ = some (.int .i64 c.ret) ∧
      w'.cell? ⟨w.heap.size, 5, none⟩ = some (.int .i64 c.fr) ∧ w'.cell? ⟨w.heap.size, 6, none⟩ = some (.int .i64 c.till)) ∧ w.heap.size < w'.heap.size := by
  have hz := hb.size
  rw [World.size_alloc] at hz
  have g : ∀ i v, (CallD.vals c)[i]? = some v → w'.cell? ⟨w.heap.size, i, none⟩ = some v := fun i v h => (hb.cell (p := ⟨w.heap.size, i, none⟩) (by simp)).trans (step_box c w E i v h)
  exact ⟨⟨g 0 _ rfl, g 1 _ rfl, g 2 _ rfl, g 3 _ rfl, g 4 _ rfl, g 5 _ rfl, g 6 _ rfl⟩, by omega⟩

set_option maxHeartbeats 4000000 in
theorem specStepObject_calls (s : ByteArray) (st : List Int) (A : Option Addr) (n cap : Nat) (c : CallD) (w : World) (hr : RowInts w A st) (hn : st.length = n) (hl : n ≤ 1048576) (hnc : n ≤ cap) (hcm : cap ≤ maxLen) :
    Calls Try.prog 39 #[.string s, .slice A n cap, c.val] w fun e w' => SoPost w w' (soL (soOk s st c) st c) (soB (soOk s st c) st c) e := by
  obtain ⟨i0, hi0, hz0, hz1, hz2⟩ := info_parts stepx_info
  have hl' : (n : Int) ≤ 1048576 := by omega
  have HR := Lib.hid hr
  have HN := Lib.hid hn
  have HI := Lib.hid (fun (W : World) => isObj_calls s W)
  clear hr hn
  cases ho : obOf s with
  | none =>
    have e1 : soOk s st c = none := by rw [soOk, ho, stB_none]; rfl
    have HQ := Lib.hid (fun (W : World) => ho ▸ HI.out W)
    rw [e1]
    clear e1 ho HI
    go_enter Try.func39, Try.ntmps39
    go_wp2_with (go_at_call 68; refine (HQ.out _).mono ?_; rintro e w1 ⟨rfl, rfl⟩)
    go_ret2
    exact ⟨_, rfl, World.ownsRow_nil _ _ _ _, below_alloc (Below.refl _ _) _⟩
  | some o =>
    have HQ := Lib.hid (fun (W : World) => ho ▸ HI.out W)
    obtain ⟨b1, hb1⟩ : ∃ b1, stB (s.toList == [115, 101, 116]) (some o) st = b1 := ⟨_, rfl⟩
    obtain ⟨b2, hb2⟩ : ∃ b2, callB c = b2 := ⟨_, rfl⟩
    have HV := Lib.hid (fun (W : World) (hW : RowInts W A st) => validState_of o s ho st n A cap W hW HN.out hl hnc hcm b1 hb1)
    have HC := Lib.hid (fun (W : World) => validCall_calls c b2 hb2 W)
    cases b1
    · have e1 : soOk s st c = none := by rw [soOk, ho, hb1]; rfl
      rw [e1]
      clear e1 ho hb1 hb2 HI HC
      go_enter Try.func39, Try.ntmps39
      go_wp2_with (first
        | (go_at_call 68; with_reducible refine (HQ.out _).mono ?_; rintro e w1 ⟨rfl, rfl⟩)
        | (go_at_call 69; with_reducible refine (HV.out _ (HR.out.below (by repeat (first | exact Below.refl _ _ | assumption | refine below_alloc ?_ _ | refine below_trans' ?_ (by assumption) | refine Below.drew ?_)))).mono ?_; rintro e w1 ⟨rfl, hbw1⟩))
      go_ret2
      exact ⟨_, rfl, World.ownsRow_nil _ _ _ _, (by repeat (first | exact Below.refl _ _ | assumption | refine below_alloc ?_ _ | refine below_trans' ?_ (by assumption) | refine Below.drew ?_))⟩
    · cases b2
      · have e1 : soOk s st c = none := by rw [soOk, ho, hb1, hb2]; rfl
        rw [e1]
        clear e1 ho hb1 hb2 HI
        go_enter Try.func39, Try.ntmps39
        go_wp2_with (first
          | (go_at_call 68; with_reducible refine (HQ.out _).mono ?_; rintro e w1 ⟨rfl, rfl⟩)
          | (go_at_call 69; with_reducible refine (HV.out _ (HR.out.below (by repeat (first | exact Below.refl _ _ | assumption | refine below_alloc ?_ _ | refine below_trans' ?_ (by assumption) | refine Below.drew ?_)))).mono ?_; rintro e w1 ⟨rfl, hbw1⟩; obtain ⟨⟨d0, d1, d2, d3, d4, d5, d6⟩, hbz⟩ := box_at c (by rw [World.size_alloc] at hbw1; exact hbw1))
          | (go_at_call 70; with_reducible refine (HC.out _).mono ?_; rintro e w2 ⟨rfl, hbw2⟩))
        go_ret2
        exact ⟨_, rfl, World.ownsRow_nil _ _ _ _, (by repeat (first | exact Below.refl _ _ | assumption | refine below_alloc ?_ _ | refine below_trans' ?_ (by assumption) | refine Below.drew ?_))⟩
      · have e1 : soOk s st c = some o := by rw [soOk, ho, hb1, hb2]; rfl
        rw [e1]
        have h20 := (stB_len hb1).1
        rw [HN.out] at h20
        have HT := Lib.hid (fun (W : World) (hW : RowInts W A st) => specStep_of o s ho st A n cap c W hW HN.out hnc hcm (by omega))
        have HL := Lib.hid (stepS_len o st c.kind c.arg)
        clear e1 ho hb1 hb2 HI
        simp only [soL, soB]
        rw [show (stepA o st c.kind c.arg == c.ret) = (c.ret == stepA o st c.kind c.arg) from Bool.beq_comm]
        generalize stepS o st c.kind c.arg = R at *
        generalize (c.ret == stepA o st c.kind c.arg) = b at *
        go_enter Try.func39, Try.ntmps39
        go_wp2_with (first
          | (go_at_call 68; with_reducible refine (HQ.out _).mono ?_; rintro e w1 ⟨rfl, rfl⟩)
          | (go_at_call 69; with_reducible refine (HV.out _ (HR.out.below (by repeat (first | exact Below.refl _ _ | assumption | refine below_alloc ?_ _ | refine below_trans' ?_ (by assumption) | refine Below.drew ?_)))).mono ?_; rintro e w1 ⟨rfl, hbw1⟩; obtain ⟨⟨d0, d1, d2, d3, d4, d5, d6⟩, hbz⟩ := box_at c (by rw [World.size_alloc] at hbw1; exact hbw1))
          | (go_at_call 70; with_reducible refine (HC.out _).mono ?_; rintro e w2 ⟨rfl, hbw2⟩; have t0 := cell_below hbw2 d0; have t1 := cell_below hbw2 d1; have t2 := cell_below hbw2 d2; have t3 := cell_below hbw2 d3; have t4 := cell_below hbw2 d4; have t5 := cell_below hbw2 d5; have t6 := cell_below hbw2 d6; have hbz2 := Nat.lt_of_lt_of_le hbz hbw2.size)
          | (go_at_call 71; with_reducible refine (HT.out _ (HR.out.below (by repeat (first | exact Below.refl _ _ | assumption | refine below_alloc ?_ _ | refine below_trans' ?_ (by assumption) | refine Below.drew ?_)))).mono ?_; intro e w3 hd; unfold StepTo at hd; obtain ⟨A', n', c', he, r1, r2, r3, r4, r5, hbw3⟩ := hd; subst he; have HR3 := Lib.hid r1; have hn3 : n' ≤ 21 := (by have h8 := HL.out; have h9 := HN.out; omega); have HN3 := Lib.hid r2; have HW3 := Lib.hid (show Below w.heap.size w w3 from (by repeat (first | exact Below.refl _ _ | assumption | refine below_alloc ?_ _ | refine below_trans' ?_ (by assumption) | refine Below.drew ?_))); have HLen3 := Lib.hid (show (R.flatMap intVals).length = n' * 1 by rw [ints_flat_len, r2]); have HA3 := Lib.hid (show A' = none → n' = 0 from fun e => by rw [← r2]; exact (RowOf.src1 r1).2 e); clear r1 r2 r5)
          | (at_builtin; refine wpList_append_any _ rfl (.tmp 31) (.tmp 32) 24 rfl w.heap.size 3 i0 _ 1 8 Try.underlying24 hi0 hz0 hz1 hz2 rfl (by omega) (.slice (some ⟨w3.heap.size, 0, none⟩) 0 0) 0 [] rfl (own_empty (heap_alloc_new w3 _) HW3.out.size) A' n' c' (R.flatMap intVals) rfl HLen3.out (RowOf.src1 (HR3.out.below (below_alloc (Below.refl _ _) _))).1 HA3.out (ints_ones R) (by unfold maxLen; omega) (by omega) (Nat.le_trans HW3.out.size (Below.size (below_alloc (Below.refl w3.heap.size w3) _))) ?_; intro v4 w4 ho4 hg4 hat4))
        go_ret2
        refine ⟨v4, rfl, ?_, ((HW3.out.trans ((below_alloc (Below.refl _ _) _).mono HW3.out.size))).grown hg4 (Nat.le_trans HW3.out.size (Below.size (below_alloc (Below.refl w3.heap.size w3) _))) (fun k hk => by simp only [Value.ownBlock, Option.some.injEq] at hk; have := HW3.out.size; omega)⟩
        unfold OwnInts
        rw [HN3.out]
        simpa using ho4

theorem row_one (c : CallD) (W : World) (E : TypeId) : RowCalls (W.alloc (.cells #[.int .i64 c.proc, .int .i64 c.obj, .int .i64 c.kind, .int .i64 c.arg, .int .i64 c.ret, .int .i64 c.fr, .int .i64 c.till] E)) (some ⟨W.heap.size, 0, none⟩) [c] := by
  intro _
  refine ⟨W.heap.size, 0, rfl, fun i d hi j u hu => ?_⟩
  match i, hi with
  | 0, hi =>
    simp only [List.getElem?_cons_zero, Option.some.injEq] at hi
    subst hi
    rw [show 0 + 0 * 7 + j = j by omega]
    exact step_box c W E j u hu

set_option maxHeartbeats 4000000 in
theorem implStepObject_calls (s : ByteArray) (st : List Int) (A : Option Addr) (n cap : Nat) (c : CallD) (w : World) (hr : RowInts w A st) (hn : st.length = n) (hl : n ≤ 1048576) (hnc : n ≤ cap) (hcm : cap ≤ maxLen) :
    Calls Try.prog 41 #[.string s, .slice A n cap, c.val] w fun e w' => SoPost w w' (soL (soOk s st c) st c) (soB (soOk s st c) st c) e := by
  have hl' : (n : Int) ≤ 1048576 := by omega
  have HR := Lib.hid hr
  have HN := Lib.hid hn
  clear hr hn
  obtain ⟨b1, hb1⟩ : ∃ b1, stB (s.toList == [115, 101, 116]) (obOf s) st = b1 := ⟨_, rfl⟩
  obtain ⟨b2, hb2⟩ : ∃ b2, callB c = b2 := ⟨_, rfl⟩
  have HV := Lib.hid (fun (W : World) (hW : RowInts W A st) => isState_calls s _ rfl st n A cap W hW HN.out hl hnc hcm b1 hb1)
  have HC := Lib.hid (fun (W : World) (g : Nat) (hW : RowCalls W (some ⟨g, 0, none⟩) [c]) => implValid_calls [c] (some ⟨g, 0, none⟩) 1 W hW (by simp) (Nat.le_refl _) b2 (by rw [hist_one]; exact hb2))
  cases b1
  · have e1 : soOk s st c = none := by rw [soOk, hb1]; rfl
    rw [e1]
    clear e1 hb1 hb2 HC
    go_enter Try.func41, Try.ntmps41
    go_wp2_with (go_at_call 72; with_reducible refine (HV.out _ (HR.out.below (by repeat (first | exact Below.refl _ _ | assumption | refine below_alloc ?_ _ | refine below_trans' ?_ (by assumption) | refine Below.drew ?_)))).mono ?_; rintro e w1 ⟨rfl, hbw1⟩)
    go_ret2
    exact ⟨_, rfl, World.ownsRow_nil _ _ _ _, (by repeat (first | exact Below.refl _ _ | assumption | refine below_alloc ?_ _ | refine below_trans' ?_ (by assumption) | refine Below.drew ?_))⟩
  · cases b2
    · have e1 : soOk s st c = none := by rw [soOk, hb1, hb2]; rfl
      rw [e1]
      clear e1 hb1 hb2
      go_enter Try.func41, Try.ntmps41
      go_wp2_with (first
        | (go_at_call 72; with_reducible refine (HV.out _ (HR.out.below (by repeat (first | exact Below.refl _ _ | assumption | refine below_alloc ?_ _ | refine below_trans' ?_ (by assumption) | refine Below.drew ?_)))).mono ?_; rintro e w1 ⟨rfl, hbw1⟩; obtain ⟨⟨d0, d1, d2, d3, d4, d5, d6⟩, hbz⟩ := box_at c (by rw [World.size_alloc] at hbw1; exact hbw1))
        | (go_at_call 44; refine (HC.out _ w1.heap.size (row_one c w1 _)).mono ?_; rintro e w2 ⟨rfl, hbw2⟩))
      go_ret2
      exact ⟨_, rfl, World.ownsRow_nil _ _ _ _, (by repeat (first | exact Below.refl _ _ | assumption | refine below_alloc ?_ _ | refine below_trans' ?_ (by assumption) | refine Below.drew ?_))⟩
    · cases ho : obOf s with
      | none =>
        rw [ho, stB_none] at hb1
        cases hb1
      | some o =>
        have e1 : soOk s st c = some o := by rw [soOk, hb1, hb2, ho]; rfl
        rw [e1]
        rw [ho] at hb1
        obtain ⟨h20, h1, hp⟩ := stB_len hb1
        obtain ⟨hkk, haa⟩ := callB_parts hb2
        rw [HN.out] at h20 h1
        have HT := Lib.hid (fun (W : World) (hW : RowInts W A st) => implStep_of o s ho st A n cap c W hW HN.out h20 h1 hp hkk haa)
        clear e1 ho hb1 hb2 h20 h1 hp hkk haa
        simp only [soL, soB]
        generalize stepS o st c.kind c.arg = R at *
        generalize stepA o st c.kind c.arg = X at *
        go_enter Try.func41, Try.ntmps41
        go_wp2_with (first
          | (go_at_call 72; with_reducible refine (HV.out _ (HR.out.below (by repeat (first | exact Below.refl _ _ | assumption | refine below_alloc ?_ _ | refine below_trans' ?_ (by assumption) | refine Below.drew ?_)))).mono ?_; rintro e w1 ⟨rfl, hbw1⟩; obtain ⟨⟨d0, d1, d2, d3, d4, d5, d6⟩, hbz⟩ := box_at c (by rw [World.size_alloc] at hbw1; exact hbw1))
          | (go_at_call 44; refine (HC.out _ w1.heap.size (row_one c w1 _)).mono ?_; rintro e w2 ⟨rfl, hbw2⟩; have HB2 := Lib.hid (below_trans' (below_alloc (Below.refl w1.heap.size w1) _) hbw2); have t0 := cell_below HB2.out d0; have t1 := cell_below HB2.out d1; have t2 := cell_below HB2.out d2; have t3 := cell_below HB2.out d3; have t4 := cell_below HB2.out d4; have t5 := cell_below HB2.out d5; have t6 := cell_below HB2.out d6; have hbz2 := Nat.lt_of_lt_of_le hbz HB2.out.size)
          | (go_at_call 73; with_reducible refine (HT.out _ (HR.out.below (by repeat (first | exact Below.refl _ _ | assumption | refine below_alloc ?_ _ | refine below_trans' ?_ (by assumption) | refine Below.drew ?_)))).mono ?_; intro e w3 hd; unfold ImTo at hd; obtain ⟨v3, he, ho3, hbw3⟩ := hd; subst he; have HO3 := Lib.hid ho3; have z4 := cell_below hbw3 t4; have hbz3 := Nat.lt_of_lt_of_le hbz2 hbw3.size; clear ho3))
        have HB3 := Lib.hid (show Below w.heap.size w w3 from (by repeat (first | exact Below.refl _ _ | assumption | refine below_alloc ?_ _ | refine below_trans' ?_ (by assumption) | refine Below.drew ?_)))
        have HB2 := Lib.hid (show w.heap.size ≤ w2.heap.size from Nat.le_of_lt hbz2)
        clear d0 d1 d2 d3 d4 d5 d6 t0 t1 t2 t3 t4 t5 t6 hbw1 hbw2 hbw3 HV HC HT
        refine wp_region_grow (by kernel_rfl) (by kernel_rfl) ?_
        repeat (go_big_quiet_step (fail))
        refine wpQuiet_end ?_
        intro w4 hb4
        go_wp2_with fail
        go_ret2
        exact ⟨v3, rfl, own_below (own_base HO3.out HB2.out) hb4, below_trans' HB3.out hb4⟩
end Go.Proofs.Ytoeecaeaobfhmaa
