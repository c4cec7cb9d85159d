/-
  What the program's tests of marks and counts answer. No condition but lengths of at most 2 to the 20.
-/
import Derived.Test.YtkahhcpfkebgiaaCpyP
import Derived.Test.YtkahhcpfkebgiaaCpyG
import Derived.Test.YtkahhcpfkebgiaaHeldT
namespace Go.Proofs.Ytkahhcpfkebgiaa
open Go.RowKit
set_option maxRecDepth 100000

theorem isMark_calls (c : MarkD) (b : Bool) (hb : markOk c = b) (w : World) : Calls Try.prog 29 #[c.val] w fun e w' => e = .returned (.bool b) ∧ Below w.heap.size w w' := by
  have H := Lib.hid hb
  clear hb
  go_enter Try.func29, Try.ntmps29
  go_wp2_with (go_at_call 31; refine (within_calls _ _ _ _).mono ?_; rintro e w' ⟨rfl, rfl⟩)
  all_goals
    go_ret
    refine ⟨?_, (by repeat (first | exact Below.refl _ _ | assumption | refine below_alloc ?_ _ | refine below_trans' ?_ (by assumption) | refine Below.drew ?_))⟩
    simp only [Ending.returned.injEq]
    rw [← H.out]
    simp [markOk, *]
def cmpI (x y : Int) : Int := if x < y then -1 else if y < x then 1 else 0
theorem isNaN_calls (x : Int) (w : World) : Calls Try.prog 41 #[.int .i64 x] w fun e w' => e = .returned (.bool false) ∧ w = w' := by
  have h : (x != x) = false := by simp
  go_enter Try.func41, Try.ntmps41
  go_wp2
  go_ret
  exact ⟨rfl, rfl⟩
theorem compare_calls (x y : Int) (v : Int) (hv : cmpI x y = v) (w : World) : Calls Try.prog 38 #[.int .i64 x, .int .i64 y] w fun e w' => e = .returned (.int .i64 v) ∧ w = w' := by
  subst hv
  by_cases h1 : x < y
  · have e : cmpI x y = -1 := by rw [cmpI, if_pos h1]
    rw [e]
    go_enter Try.func38, Try.ntmps38
    go_wp2_with (go_at_call 41; refine (isNaN_calls _ _).mono ?_; rintro e w' ⟨rfl, rfl⟩)
    go_ret
    exact ⟨rfl, rfl⟩
  · by_cases h2 : y < x
    · have e : cmpI x y = 1 := by rw [cmpI, if_neg h1, if_pos h2]
      rw [e]
      go_enter Try.func38, Try.ntmps38
      go_wp2_with (go_at_call 41; refine (isNaN_calls _ _).mono ?_; rintro e w' ⟨rfl, rfl⟩)
      go_ret
      exact ⟨rfl, rfl⟩
    · have e : cmpI x y = 0 := by rw [cmpI, if_neg h1, if_neg h2]
      rw [e]
      go_enter Try.func38, Try.ntmps38
      go_wp2_with (go_at_call 41; refine (isNaN_calls _ _).mono ?_; rintro e w' ⟨rfl, rfl⟩)
      go_ret
      exact ⟨rfl, rfl⟩
theorem or_calls (p q r : Int) (hr : (if p = 0 then q else p) = r) (b : Nat) (w : World) (h0 : w.cell? ⟨b, 0, none⟩ = some (.int .i64 p)) (h1 : w.cell? ⟨b, 1, none⟩ = some (.int .i64 q)) :
    Calls Try.prog 37 #[.slice (some ⟨b, 0, none⟩) 2 2] w fun e w' => e = .returned (.int .i64 r) ∧ w = w' := by
  go_enter Try.func37, Try.ntmps37
  go_wp2
  go_loop [8] (fun i => ∃ k : Nat, k ≤ 2 ∧ i = .int .i64 k ∧ (1 ≤ k → p = 0) ∧ (2 ≤ k → q = 0)) (fun i => 2 - (intOf i).toNat)
  case atStart => exact ⟨0, by omega, rfl, by omega, by omega⟩
  case round =>
    obtain ⟨k, hk, rfl, hp, hq⟩ := hrel
    have : k = 0 ∨ k = 1 ∨ k = 2 := by omega
    rcases this with rfl | rfl | rfl
    · cases hz : (p != 0)
      · have hp0 : p = 0 := by simpa using hz
        subst hp0
        clear hz
        go_wp2
        exact ⟨⟨1, by omega, rfl, by simp, by omega⟩, by simp [intOf]⟩
      · have hp0 : ¬ p = 0 := by simpa using hz
        rw [if_neg hp0] at hr
        subst hr
        clear hp0
        go_wp2
        go_ret
        exact ⟨rfl, rfl⟩
    · have hp0 := hp (by omega)
      subst hp0
      cases hz : (q != 0)
      · have hq0 : q = 0 := by simpa using hz
        subst hq0
        clear hz
        go_wp2
        exact ⟨⟨2, by omega, rfl, by simp, by simp⟩, by simp [intOf]⟩
      · rw [if_pos rfl] at hr
        subst hr
        go_wp2
        go_ret
        exact ⟨rfl, rfl⟩
    · have hp0 := hp (by omega)
      have hq0 := hq (by omega)
      subst hp0 hq0
      rw [if_pos rfl] at hr
      subst hr
      go_wp2
      go_ret
      exact ⟨rfl, rfl⟩
def cmpM (a b : MarkD) : Int := if cmpI a.proc b.proc = 0 then cmpI a.number b.number else cmpI a.proc b.proc
theorem cmpM_less (a b : MarkD) : decide (0 ≤ cmpM a b) = !lessM a b := by
  unfold cmpM cmpI lessM
  by_cases h1 : a.proc = b.proc
  · by_cases h2 : a.number < b.number
    · simp [h1, h2]
    · by_cases h3 : b.number < a.number <;> simp [h1, h2, h3]
  · by_cases h2 : a.proc < b.proc
    · simp [h1, h2]
    · have h3 : b.proc < a.proc := by omega
      simp [h1, h2, h3]

set_option maxHeartbeats 1000000 in
theorem compareMarks_calls (a b : MarkD) (w : World) : Calls Try.prog 30 #[a.val, b.val] w fun e w' => e = .returned (.int .i64 (cmpM a b)) ∧ Below w.heap.size w w' := by
  obtain ⟨v1, hv1⟩ : ∃ v, cmpI a.proc b.proc = v := ⟨_, rfl⟩
  obtain ⟨v2, hv2⟩ : ∃ v, cmpI a.number b.number = v := ⟨_, rfl⟩
  obtain ⟨cv, hcv⟩ : ∃ c, (if v1 = 0 then v2 else v1) = c := ⟨_, rfl⟩
  have HV := Lib.hid (show cmpM a b = cv by rw [cmpM, hv1, hv2, hcv])
  have HO := Lib.hid (fun (b : Nat) (W : World) (h0 : W.cell? ⟨b, 0, none⟩ = some (.int .i64 v1)) (h1 : W.cell? ⟨b, 1, none⟩ = some (.int .i64 v2)) => or_calls v1 v2 cv hcv b W h0 h1)
  have HC1 := Lib.hid (fun (W : World) => compare_calls a.proc b.proc v1 hv1 W)
  have HC2 := Lib.hid (fun (W : World) => compare_calls a.number b.number v2 hv2 W)
  clear hv1 hv2 hcv
  go_enter Try.func30, Try.ntmps30
  go_wp2_with fail
  have ka := (CellBlk.new w #[.int .i64 a.value, .int .i64 a.proc, .int .i64 a.number, .bool a.gone] 46 rfl).below (below_alloc (Below.refl _ _) (.cells #[.int .i64 b.value, .int .i64 b.proc, .int .i64 b.number, .bool b.gone] 46))
  have kb := CellBlk.new (w.alloc (.cells #[.int .i64 a.value, .int .i64 a.proc, .int .i64 a.number, .bool a.gone] 46)) #[.int .i64 b.value, .int .i64 b.proc, .int .i64 b.number, .bool b.gone] 46 (n := w.heap.size + 1) (by simp)
  have hbel : Below w.heap.size w ((w.alloc (.cells #[.int .i64 a.value, .int .i64 a.proc, .int .i64 a.number, .bool a.gone] 46)).alloc (.cells #[.int .i64 b.value, .int .i64 b.proc, .int .i64 b.number, .bool b.gone] 46)) := below_alloc (below_alloc (Below.refl _ _) _) _
  generalize (w.alloc (.cells #[.int .i64 a.value, .int .i64 a.proc, .int .i64 a.number, .bool a.gone] 46)).alloc (.cells #[.int .i64 b.value, .int .i64 b.proc, .int .i64 b.number, .bool b.gone] 46) = W at *
  have x1 := ka.cell (i := 1) rfl
  have x2 := ka.cell (i := 2) rfl
  have y1 := kb.cell (i := 1) rfl
  have y2 := kb.cell (i := 2) rfl
  have hsz := hbel.size
  have HB := Lib.hid hbel
  clear ka kb hbel
  refine tailed_start 10 (fun w' => w'.cell? ⟨w.heap.size, 1, none⟩ = some (.int .i64 a.proc) ∧ w'.cell? ⟨w.heap.size + 1, 1, none⟩ = some (.int .i64 b.proc) ∧ w'.cell? ⟨w.heap.size, 2, none⟩ = some (.int .i64 a.number) ∧ w'.cell? ⟨w.heap.size + 1, 2, none⟩ = some (.int .i64 b.number)) (by kernel_rfl) ?_ (fun hHeld => ?_)
  · exact ⟨x1, y1, x2, y2⟩
  refine Tailed.pure (i := 0) (v := ?hv1) rfl (by kernel_rfl) (by kernel_rfl) (by kernel_rfl) (by omega) (by kernel_rfl) (by kernel_rfl) (fun _ _ _ h => h) (by assumption) (Or.inl ⟨by rfl, ?hy1⟩) ?hr1
  case hy1 => (intro w' _hSw; go_simp; try with_reducible rfl)
  (try simp only [Act.put, List.getElem_toArray, List.getElem_cons_zero, List.getElem_cons_succ, List.setIfInBounds_toArray, List.set_cons_zero, List.set_cons_succ])
  refine Tailed.take (i := 1) (v := ?hv2) rfl (by kernel_rfl) (by kernel_rfl) (by kernel_rfl) (by kernel_rfl) (by kernel_rfl) (by kernel_rfl) (fun _ _ _ h => h) (by assumption) (Or.inl ⟨by rfl, ?hy2⟩) ?hr2
  case hy2 => (intro w' hSw; (try dsimp only at hSw); go_simp; try with_reducible rfl)
  (try simp only [Act.put, List.getElem_toArray, List.getElem_cons_zero, List.getElem_cons_succ, List.setIfInBounds_toArray, List.set_cons_zero, List.set_cons_succ])
  refine Tailed.pure (i := 2) (v := ?hv3) rfl (by kernel_rfl) (by kernel_rfl) (by kernel_rfl) (by omega) (by kernel_rfl) (by kernel_rfl) (fun _ _ _ h => h) (by assumption) (Or.inl ⟨by rfl, ?hy3⟩) ?hr3
  case hy3 => (intro w' _hSw; go_simp; try with_reducible rfl)
  (try simp only [Act.put, List.getElem_toArray, List.getElem_cons_zero, List.getElem_cons_succ, List.setIfInBounds_toArray, List.set_cons_zero, List.set_cons_succ])
  refine Tailed.take (i := 3) (v := ?hv4) rfl (by kernel_rfl) (by kernel_rfl) (by kernel_rfl) (by kernel_rfl) (by kernel_rfl) (by kernel_rfl) (fun _ _ _ h => h) (by assumption) (Or.inl ⟨by rfl, ?hy4⟩) ?hr4
  case hy4 => (intro w' hSw; (try dsimp only at hSw); go_simp; try with_reducible rfl)
  (try simp only [Act.put, List.getElem_toArray, List.getElem_cons_zero, List.getElem_cons_succ, List.setIfInBounds_toArray, List.set_cons_zero, List.set_cons_succ])
  refine Tailed.pure (i := 5) (v := ?hv5) rfl (by kernel_rfl) (by kernel_rfl) (by kernel_rfl) (by omega) (by kernel_rfl) (by kernel_rfl) (fun _ _ _ h => h) (by assumption) (Or.inl ⟨by rfl, ?hy5⟩) ?hr5
  case hy5 => (intro w' _hSw; go_simp; try with_reducible rfl)
  (try simp only [Act.put, List.getElem_toArray, List.getElem_cons_zero, List.getElem_cons_succ, List.setIfInBounds_toArray, List.set_cons_zero, List.set_cons_succ])
  refine Tailed.take (i := 6) (v := ?hv6) rfl (by kernel_rfl) (by kernel_rfl) (by kernel_rfl) (by kernel_rfl) (by kernel_rfl) (by kernel_rfl) (fun _ _ _ h => h) (by assumption) (Or.inl ⟨by rfl, ?hy6⟩) ?hr6
  case hy6 => (intro w' hSw; (try dsimp only at hSw); go_simp; try with_reducible rfl)
  (try simp only [Act.put, List.getElem_toArray, List.getElem_cons_zero, List.getElem_cons_succ, List.setIfInBounds_toArray, List.set_cons_zero, List.set_cons_succ])
  refine Tailed.pure (i := 7) (v := ?hv7) rfl (by kernel_rfl) (by kernel_rfl) (by kernel_rfl) (by omega) (by kernel_rfl) (by kernel_rfl) (fun _ _ _ h => h) (by assumption) (Or.inl ⟨by rfl, ?hy7⟩) ?hr7
  case hy7 => (intro w' _hSw; go_simp; try with_reducible rfl)
  (try simp only [Act.put, List.getElem_toArray, List.getElem_cons_zero, List.getElem_cons_succ, List.setIfInBounds_toArray, List.set_cons_zero, List.set_cons_succ])
  refine Tailed.take (i := 8) (v := ?hv8) rfl (by kernel_rfl) (by kernel_rfl) (by kernel_rfl) (by kernel_rfl) (by kernel_rfl) (by kernel_rfl) (fun _ _ _ h => h) (by assumption) (Or.inl ⟨by rfl, ?hy8⟩) ?hr8
  case hy8 => (intro w' hSw; (try dsimp only at hSw); go_simp; try with_reducible rfl)
  (try simp only [Act.put, List.getElem_toArray, List.getElem_cons_zero, List.getElem_cons_succ, List.setIfInBounds_toArray, List.set_cons_zero, List.set_cons_succ])
  refine Tailed.ways (rs := [4]) (by kernel_rfl) (by simp) ?_
  refine TailedAll.cons rfl (fun K hK => ?_) ?_
  · skip
    go_simp
    go_at_call 38
    refine (HC1.out _).mono ?_
    rintro e w' ⟨rfl, rfl⟩
    go_wp2_with fail
    refine hK.out _ _ ?_ (fun hHeld => ?_)
    · exact ⟨x1, y1, x2, y2⟩
    clear hK K
    (try simp only [Act.put, List.getElem_toArray, List.getElem_cons_zero, List.getElem_cons_succ, List.setIfInBounds_toArray, List.set_cons_zero, List.set_cons_succ])
    refine Tailed.ways (rs := [9]) (by kernel_rfl) (by simp) ?_
    refine TailedAll.cons rfl (fun K hK => ?_) ?_
    · skip
      go_simp
      go_at_call 38
      refine (HC2.out _).mono ?_
      rintro e w' ⟨rfl, rfl⟩
      go_wp2_with fail
      refine hK.out _ _ ?_ (fun hHeld => ?_)
      · exact ⟨x1, y1, x2, y2⟩
      clear hK K
      (try simp only [Act.put, List.getElem_toArray, List.getElem_cons_zero, List.getElem_cons_succ, List.setIfInBounds_toArray, List.set_cons_zero, List.set_cons_succ])
      refine Tailed.ways (rs := [10]) (by kernel_rfl) (by simp) ?_
      refine TailedAll.tail rfl (by kernel_rfl) (fun K hK => ?_) ?_
      · skip
        go_simp
        refine hK.out _ _ ?_
        clear hK K
        (try simp only [Act.put, List.getElem_toArray, List.getElem_cons_zero, List.getElem_cons_succ, List.setIfInBounds_toArray, List.set_cons_zero, List.set_cons_succ])
        refine Tailed.ways (rs := [11]) (by kernel_rfl) (by simp) ?_
        refine TailedAll.tail rfl (by kernel_rfl) (fun K hK => ?_) ?_
        · skip
          go_simp
          go_at_call 37
          refine (HO.out _ _ (by simp) (by simp)).mono ?_
          rintro e w' ⟨rfl, rfl⟩
          go_wp2_with fail
          refine hK.out _ _ ?_
          clear hK K
          (try simp only [Act.put, List.getElem_toArray, List.getElem_cons_zero, List.getElem_cons_succ, List.setIfInBounds_toArray, List.set_cons_zero, List.set_cons_succ])
          refine Tailed.ways (rs := [12]) (by kernel_rfl) (by simp) ?_
          refine TailedAll.tail rfl (by kernel_rfl) (fun K hK => ?_) ?_
          · skip
            go_simp
            refine hK.out _ _ ?_
            clear hK K
            (try simp only [Act.put, List.getElem_toArray, List.getElem_cons_zero, List.getElem_cons_succ, List.setIfInBounds_toArray, List.set_cons_zero, List.set_cons_succ])
            refine Tailed.done (by kernel_rfl) ?_
            go_wp2_with fail
            go_ret
            exact ⟨by rw [HV.out]; rfl, (below_alloc HB.out.drew _)⟩
          exact TailedAll.nil
        exact TailedAll.nil
      exact TailedAll.nil
    exact TailedAll.nil
  exact TailedAll.nil

theorem lacks_calls (L : List Int) (n : Nat) (A : Option Addr) (cap : Nat) (w : World) (hr : RowInts w A L) (hn : L.length = n) (hl : n ≤ 1048576) (b : Bool) (hb : (L.any fun n => !inB n 0 20) = b) :
    Calls Try.prog 39 #[.slice A n cap, .func (.func 40) #[] #[]] w fun e w' => e = .returned (.bool b) ∧ w = w' := by
  have HI : Calls Try.prog 42 #[.slice A n cap, .func (.func 40) #[] #[]] w fun e w' => (∃ v : Int, e = .returned (.int .i64 v) ∧ decide (0 ≤ v) = b) ∧ w = w' := by
    subst hb
    have HR := Lib.hid hr
    have HN := Lib.hid hn
    have HC := Lib.hid (fun (x : Int) (q : Bool) (hq : inB x 0 20 = q) (W : World) => show Calls Try.prog 40 #[.int .i64 x] W fun e w' => e = .returned (.bool (!q)) ∧ W = w' by
      have HW := Lib.hid (hq ▸ within_calls x 0 20 W)
      clear hq
      go_enter Try.func40, Try.ntmps40
      go_wp2_with fail
      refine HW.out.mono ?_
      rintro e w1 ⟨rfl, rfl⟩
      go_wp2_with fail
      go_ret
      exact ⟨rfl, rfl⟩)
    clear hr hn
    have hlen : (n : Int) ≤ 1048576 := by omega
    go_enter Try.func42, Try.ntmps42
    go_wp2
    go_loop [8] (fun i => ∃ k : Nat, k ≤ n ∧ i = .int .i64 k ∧ Hid ((L.take k).any (fun n => !inB n 0 20) = false)) (fun i => n - (intOf i).toNat)
    case atStart => exact ⟨0, by omega, rfl, by show _ = _; simp⟩
    case round =>
      obtain ⟨k, hk, rfl, HK⟩ := hrel
      by_cases hlt : k < n
      · obtain ⟨b, off, rfl, hat⟩ := HR.out (by rw [HN.out]; omega)
        obtain ⟨y, hy⟩ : ∃ y, L[k]? = some y := ⟨L[k]'(by rw [HN.out]; exact hlt), List.getElem?_eq_getElem _⟩
        have r0 := RowInts.at_ hat hy
        have hst : (L.take (k + 1)).any (fun n => !inB n 0 20) = ((L.take k).any (fun n => !inB n 0 20) || !inB y 0 20) := by rw [List.take_add_one, hy, List.any_append]; simp
        have hal : inB y 0 20 = false → (L.any fun n => !inB n 0 20) = true := fun e => List.any_eq_true.2 ⟨y, List.mem_of_getElem? hy, by rw [e]; rfl⟩
        have Hst := Lib.hid hst
        have Hal := Lib.hid hal
        clear hat hy hst hal
        have hk0 : (0 : Int) ≤ (k : Int) := by omega
        have hkn : (k : Int) < (n : Int) := by omega
        cases hq : inB y 0 20
        · have Hq := Lib.hid hq
          clear hq
          go_wp2_with (go_at_call 40; refine (HC.out y _ Hq.out _).mono ?_; rintro e w1 ⟨rfl, rfl⟩)
          go_ret
          exact ⟨⟨(k : Int), rfl, by rw [Hal.out Hq.out]; simp⟩, rfl⟩
        · have Hq := Lib.hid hq
          clear hq
          go_wp2_with (go_at_call 40; refine (HC.out y _ Hq.out _).mono ?_; rintro e w1 ⟨rfl, rfl⟩)
          go_round
          case rel => exact ⟨k + 1, by omega, by go_num, by show _ = _; rw [Hst.out, HK.out, Hq.out]; rfl⟩
          case measure => simp [intOf]; omega
      · have hge : ¬ ((k : Int) < (n : Int)) := by omega
        have e1 : (L.any fun n => !inB n 0 20) = false := by
          have := HK.out
          rwa [List.take_of_length_le (by rw [HN.out]; omega)] at this
        have E1 := Lib.hid e1
        clear e1
        go_wp2
        go_ret
        exact ⟨⟨-1, rfl, by rw [E1.out]; rfl⟩, rfl⟩
  have HI := Lib.hid HI
  clear hr hn hb
  go_enter Try.func39, Try.ntmps39
  go_wp2_with fail
  refine HI.out.mono ?_
  rintro e w1 ⟨⟨v, rfl, hv⟩, rfl⟩
  go_wp2_with fail
  go_ret
  exact ⟨rfl, rfl⟩

theorem areCounts_calls (L : List Int) (n : Nat) (A : Option Addr) (cap : Nat) (w : World) (hr : RowInts w A L) (hn : L.length = n) (hl : n ≤ 1048576) (b : Bool) (hb : cnt L = b) :
    Calls Try.prog 32 #[.slice A n cap] w fun e w' => e = .returned (.bool b) ∧ w = w' := by
  by_cases h3 : n = 3
  · subst h3
    obtain ⟨q, hq⟩ : ∃ q, (L.any fun n => !inB n 0 20) = q := ⟨_, rfl⟩
    have e : b = !q := by rw [← hb, cnt, hn, hq]; simp
    subst e
    have HL := Lib.hid (lacks_calls L 3 A cap w hr hn (by omega) q hq)
    clear hr hn hb hq
    go_enter Try.func32, Try.ntmps32
    go_wp2_with fail
    refine HL.out.mono ?_
    rintro e w1 ⟨rfl, rfl⟩
    go_wp2_with fail
    go_ret
    exact ⟨rfl, rfl⟩
  · have e : b = false := by rw [← hb, cnt, hn]; simp [h3]
    subst e
    have h3' : ((n : Int) == 3) = false := by simp; omega
    clear hr hn hb
    go_enter Try.func32, Try.ntmps32
    go_wp2_with fail
    go_ret
    exact ⟨rfl, rfl⟩
end Go.Proofs.Ytkahhcpfkebgiaa
