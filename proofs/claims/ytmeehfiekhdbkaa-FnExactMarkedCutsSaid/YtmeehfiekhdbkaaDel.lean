/-
  What the library's DeleteFunc leaves of a row of numbers of the call's own: those that the question does not strike, in their order. Asked: the question answers without touching memory that was there.
-/
import Derived.Test.YtmeehfiekhdbkaaCuts
import Derived.Lib.SliceRun
namespace Go.Proofs.Ytmeehfiekhdbkaa
open Go.RowKit
set_option maxRecDepth 100000

theorem flat_intsB : ∀ L : List Int, L.flatMap intVals = L.map (Value.int .i64)
  | [] => rfl
  | x :: xs => by rw [List.flatMap_cons, flat_intsB xs]; rfl
/-- A block whose first cells are these numbers. -/
def RowB (w : World) (g : Nat) (L : List Int) (R : List Value) : Prop := w.heap[g]? = some (.cells (L.map (Value.int .i64) ++ R).toArray 3 (0, 0))
section
variable {w w' : World} {g : Nat} {L : List Int} {R : List Value}
theorem RowB.lt (h : RowB w g L R) : g < w.heap.size := (Array.getElem?_eq_some_iff.1 h).1
theorem RowB.below (h : RowB w g L R) (hb : Below w.heap.size w w') : RowB w' g L R := (hb.block g h.lt).trans h
theorem RowB.cell {i : Nat} {x : Int} (h : RowB w g L R) (hi : L[i]? = some x) : w.cell? ⟨g, i, none⟩ = some (.int .i64 x) := by
  have hlt := (List.getElem?_eq_some_iff.1 hi).1
  rw [cell_of_row w g i _ _ (0, 0) h]
  rw [List.getElem?_toArray, List.getElem?_append_left (by simpa using hlt)]
  simp [hi]
theorem RowB.free (h : RowB w g L R) (i : Nat) : w.frozen? ⟨g, i, none⟩ = false := frozen_of_row w g i _ _ h
theorem RowB.set_ {i : Nat} (h : RowB w g L R) (hi : i < L.length) (x : Int) : RowB (w.setCell ⟨g, i, none⟩ (.int .i64 x)) g (L.set i x) R := by
  have := heap_setCell_same w g i _ _ (.int .i64 x) h
  unfold RowB
  rw [this]
  simp [List.map_set, List.set_append_left _ _ (show i < (L.map (Value.int .i64)).length by simpa using hi)]
theorem RowB.own {base k c : Nat} (h : RowB w g L R) (hk : k ≤ L.length) (hc : c = L.length + R.length) (hm : c ≤ maxLen) (hb : base ≤ g) : w.ownsRow base 3 1 (.slice (some ⟨g, 0, none⟩) k c) k ((L.take k).flatMap intVals) := by
  rw [flat_intsB]
  refine ⟨by simp; omega, .inr ⟨g, c, _, rfl, hb, h, by omega, hm, by simp; omega, ?_⟩⟩
  simp only [Nat.mul_one]
  rw [List.take_append_of_le_length (by simpa using hk), List.map_take]
theorem RowB.sets (Good : World → Prop) (hG : ∀ (W : World) (i : Nat) (v : Value), Good W → Good (W.setCell ⟨g, i, none⟩ v)) : ∀ (m o k : Nat) (w : World) (L : List Int), k ≤ o → o + m ≤ L.length → RowB w g L R → Good w →
    ∃ L' : List Int, RowB (w.setCells g o (List.replicate m (.int .i64 0))) g L' R ∧ L'.length = L.length ∧ L'.take k = L.take k ∧ Good (w.setCells g o (List.replicate m (.int .i64 0)))
  | 0, o, k, w, L, _, _, h, hg => ⟨L, h, rfl, rfl, hg⟩
  | m + 1, o, k, w, L, hk, hm, h, hg => by
    obtain ⟨L', h1, h2, h3, h4⟩ := RowB.sets Good hG m (o + 1) k _ (L.set o 0) (by omega) (by simp; omega) (h.set_ (by omega) 0) (hG _ o _ hg)
    refine ⟨L', h1, by rw [h2]; simp, ?_, h4⟩
    rw [h3, List.take_set_of_le (by omega)]
end

/-- What the question strikes: p keeps. -/
structure Asks (Good : World → Prop) (F : FuncId) (capt : Array Value) (p : Int → Bool) (L : List Int) (g : Nat) : Prop where
  enters : ∀ (v : Value) (W : World), (callFunc F (#[v] ++ capt)).run Try.prog W = .ok (.enter F (#[v] ++ capt)) W
  calls : ∀ (W : World) (x : Int), Good W → x ∈ L → Calls Try.prog F (#[.int .i64 x] ++ capt) W fun e w' => e = .returned (.bool (!p x)) ∧ Below W.heap.size W w'
  later : ∀ (W W' : World), Good W → Below W.heap.size W W' → Good W'
  sets : ∀ (W : World) (i : Nat) (v : Value), Good W → Good (W.setCell ⟨g, i, none⟩ v)

def IdxPost (p : Int → Bool) (L : List Int) (w w' : World) (e : Ending) : Prop :=
  Below w.heap.size w w' ∧ ((e = .returned (.int .i64 (-1)) ∧ L.filter p = L) ∨ ∃ k : Nat, e = .returned (.int .i64 k) ∧ k < L.length ∧ (L.take k).filter p = L.take k ∧ (L.take (k + 1)).filter p = L.take k)
theorem take_next {L : List Int} {k : Nat} {x : Int} (h : L[k]? = some x) : L.take (k + 1) = L.take k ++ [x] := by rw [List.take_add_one, h]; rfl

set_option maxHeartbeats 2000000 in
theorem idxdel_calls (Good : World → Prop) (F : FuncId) (capt : Array Value) (p : Int → Bool) (L : List Int) (R : List Value) (g n c : Nat) (w : World) (hA : Asks Good F capt p L g) (hr : RowB w g L R) (hg : Good w) (hn : L.length = n) (hl : n ≤ 1048576) :
    Calls Try.prog 47 #[.slice (some ⟨g, 0, none⟩) n c, .func (.func F) #[] capt] w fun e w' => IdxPost p L w w' e := by
  have HR := Lib.hid hr
  have HG := Lib.hid hg
  have HC := Lib.hid hA.calls
  have HL := Lib.hid hA.later
  have HN := Lib.hid hn
  have hcf := hA.enters
  clear hr hg hA hn
  have hlen : (n : Int) ≤ 1048576 := by omega
  go_enter Try.func47, Try.ntmps47
  go_wp2
  go_loopw [8] (fun i wr => ∃ k : Nat, k ≤ n ∧ i = .int .i64 k ∧ Below w.heap.size w wr ∧ Hid ((L.take k).filter p = L.take k)) (fun i _ => n - (intOf i).toNat)
  case atStart => exact ⟨0, by omega, rfl, Below.refl _ _, rfl⟩
  case round =>
    obtain ⟨k, hk, rfl, hb, HK⟩ := hrel
    obtain ⟨wo, rfl⟩ : ∃ wo : World, wo = wr := ⟨_, rfl⟩
    have Hb := Lib.hid hb
    clear hb
    by_cases hlt : k < n
    · obtain ⟨x, hx⟩ : ∃ x, L[k]? = some x := ⟨L[k]'(by have := HN.out; omega), List.getElem?_eq_getElem _⟩
      have hrow := HR.out.below Hb.out
      have c0 := hrow.cell hx
      have hgz := hrow.lt
      have Hx := Lib.hid hx
      have HCL := Lib.hid (HC.out wo x (HL.out _ _ HG.out Hb.out) (List.mem_of_getElem? hx))
      have hk0 : (0 : Int) ≤ (k : Int) := by omega
      have hkn : (k : Int) < (n : Int) := by omega
      clear hrow hx
      cases hp : p x
      · have HP := Lib.hid hp
        rw [hp] at HCL
        clear hp
        go_wp2_with (with_reducible refine (HCL.out).mono ?_; rintro e w3 ⟨rfl, hb3⟩)
        go_ret
        exact ⟨below_trans' Hb.out hb3, .inr ⟨k, rfl, by rw [HN.out]; exact hlt, HK.out, by rw [take_next Hx.out, List.filter_append, HK.out]; simp [HP.out]⟩⟩
      · have HP := Lib.hid hp
        rw [hp] at HCL
        clear hp
        go_wp2_with (with_reducible refine (HCL.out).mono ?_; rintro e w3 ⟨rfl, hb3⟩)
        go_roundw
        case rel => exact ⟨k + 1, by omega, by go_num, below_trans' Hb.out hb3, by show _ = _; rw [take_next Hx.out, List.filter_append, HK.out]; simp [HP.out]⟩
        case measure => simp [intOf]; omega
    · have e1 : k = n := by omega
      have HE := Lib.hid (show L.filter p = L by have h := HK.out; rwa [List.take_of_length_le (by rw [HN.out]; omega)] at h)
      subst e1
      have hge : ¬ ((k : Int) < (k : Int)) := by omega
      go_wp2
      go_ret
      exact ⟨Hb.out, .inl ⟨rfl, HE.out⟩⟩

/-- The row while numbers are struck: k kept of the first j. -/
def DelAt (p : Int → Bool) (L C : List Int) (k j : Nat) : Prop := C.length = L.length ∧ k ≤ j ∧ C.take k = (L.take j).filter p ∧ C.drop j = L.drop j
theorem DelAt.start {p : Int → Bool} {L : List Int} {k : Nat} (hk : k < L.length) (h : (L.take (k + 1)).filter p = L.take k) : DelAt p L L k (k + 1) :=
  ⟨rfl, by omega, h.symm, rfl⟩
theorem DelAt.at_ {p : Int → Bool} {L C : List Int} {k j : Nat} (h : DelAt p L C k j) {x : Int} (hx : L[j]? = some x) : C[j]? = some x := by
  have h1 : (C.drop j)[0]? = (L.drop j)[0]? := by rw [h.2.2.2]
  simpa [hx] using h1
theorem DelAt.len {p : Int → Bool} {L C : List Int} {k j : Nat} (h : DelAt p L C k j) (hj : j ≤ L.length) : k = ((L.take j).filter p).length := by
  rw [← h.2.2.1, List.length_take, h.1]
  have := h.2.1
  omega
theorem DelAt.yes {p : Int → Bool} {L C : List Int} {k j : Nat} (h : DelAt p L C k j) {x : Int} (hx : L[j]? = some x) (hp : p x = true) : DelAt p L (C.set k x) (k + 1) (j + 1) := by
  have hlt := (List.getElem?_eq_some_iff.1 hx).1
  obtain ⟨h1, h2, h3, h4⟩ := h
  refine ⟨by simp [h1], by omega, ?_, ?_⟩
  · have hs : (C.set k x)[k]? = some x := by rw [List.getElem?_set_self (by omega)]
    rw [take_next hs, List.take_set_of_le (by omega), h3, take_next hx, List.filter_append]
    simp [hp]
  · rw [List.drop_set_of_lt (by omega)]
    have h5 : (C.drop j).drop 1 = (L.drop j).drop 1 := by rw [h4]
    simpa [List.drop_drop] using h5
theorem DelAt.no {p : Int → Bool} {L C : List Int} {k j : Nat} (h : DelAt p L C k j) {x : Int} (hx : L[j]? = some x) (hp : p x = false) : DelAt p L C k (j + 1) := by
  obtain ⟨h1, h2, h3, h4⟩ := h
  refine ⟨h1, by omega, ?_, ?_⟩
  · rw [take_next hx, List.filter_append, h3]
    simp [hp]
  · have h5 : (C.drop j).drop 1 = (L.drop j).drop 1 := by rw [h4]
    simpa [List.drop_drop] using h5
def DelPost (Good : World → Prop) (p : Int → Bool) (L : List Int) (base : Nat) (w' : World) (e : Ending) : Prop :=
  ∃ v, e = .returned v ∧ w'.ownsRow base 3 1 v (L.filter p).length ((L.filter p).flatMap intVals) ∧ Good w'

set_option maxHeartbeats 4000000 in
theorem delete_calls (Good : World → Prop) (F : FuncId) (capt : Array Value) (p : Int → Bool) (L : List Int) (R : List Value) (base g n c : Nat) (w : World) (hA : Asks Good F capt p L g) (hr : RowB w g L R) (hg : Good w) (hn : L.length = n) (hl : n ≤ 1048576) (hc : c = L.length + R.length) (hm : c ≤ maxLen) (hbg : base ≤ g) :
    Calls Try.prog 30 #[.slice (some ⟨g, 0, none⟩) n c, .func (.func F) #[] capt] w fun e w' => DelPost Good p L base w' e := by
  have HI := Lib.hid (idxdel_calls Good F capt p L R g n c w hA hr hg hn hl)
  have HR := Lib.hid hr
  have HG := Lib.hid hg
  have HC := Lib.hid hA.calls
  have HL := Lib.hid hA.later
  have HS := Lib.hid hA.sets
  have HN := Lib.hid hn
  have HCC := Lib.hid (show c = n + R.length by rw [hc, hn])
  have HM := Lib.hid hm
  have hnc : n ≤ c := by omega
  have hcf := hA.enters
  have hcm : c ≤ 9223372036854775807 := by unfold maxLen at hm; omega
  clear hr hg hA hn hc hm
  have hlen : (n : Int) ≤ 1048576 := by omega
  go_enter Try.func30, Try.ntmps30
  go_wp2_with fail
  refine HI.out.mono ?_
  intro e w1 hp1
  obtain ⟨hb1, h⟩ := hp1
  have HR1 := Lib.hid (HR.out.below hb1)
  have HG1 := Lib.hid (HL.out _ _ HG.out hb1)
  clear hb1
  rcases h with ⟨rfl, hall⟩ | ⟨k, rfl, hk, hk1, hk2⟩
  · have HF := Lib.hid hall
    clear hall
    go_wp2_with fail
    go_ret
    refine ⟨_, rfl, ?_, HG1.out⟩
    rw [HF.out, HN.out]
    have h := HR1.out.own (k := n) (c := c) (base := base) (by rw [HN.out]; omega) (by rw [HN.out]; exact HCC.out) HM.out hbg
    rwa [List.take_of_length_le (by rw [HN.out]; omega)] at h
  · have HD0 := Lib.hid (DelAt.start (p := p) hk hk2)
    rw [HN.out] at hk
    clear hk1 hk2
    have hk0 : (0 : Int) ≤ (k : Int) := by omega
    have hkn : (k : Int) < (n : Int) := by omega
    have hkz : ((k : Int) == -1) = false := by first | (simp; done) | (simp; omega)
    go_wp2_with fail
    go_loopw [5, 6] (fun a b wr => ∃ (i j : Nat) (C : List Int), j ≤ n ∧ a = .int .i64 i ∧ b = .int .i64 j ∧ RowB wr g C R ∧ Good wr ∧ i < j ∧ Hid (DelAt p L C i j)) (fun _ b _ => n - (intOf b).toNat)
    case atStart => exact ⟨k, k + 1, L, by omega, rfl, by go_num, HR1.out, HG1.out, by omega, HD0.out⟩
    case round =>
      clear HR1 HG1 HD0
      obtain ⟨i, j, C, hj, rfl, rfl, hrow, hgd, hij, HD⟩ := hrel
      obtain ⟨wo, rfl⟩ : ∃ wo : World, wo = wr := ⟨_, rfl⟩
      have HRow := Lib.hid hrow
      have HGd := Lib.hid hgd
      have hgz := hrow.lt
      have hCl : C.length = n := by rw [HD.out.1, HN.out]
      have HCl := Lib.hid hCl
      clear hrow hgd hCl
      have hi0 : (0 : Int) ≤ (i : Int) := by omega
      have hj0 : (0 : Int) ≤ (j : Int) := by omega
      by_cases hlt : j < n
      · obtain ⟨x, hx⟩ : ∃ x, L[j]? = some x := ⟨L[j]'(by have := HN.out; omega), List.getElem?_eq_getElem _⟩
        have c0 := HRow.out.cell (HD.out.at_ hx)
        have Hx := Lib.hid hx
        have HCL := Lib.hid (HC.out wo x HGd.out (List.mem_of_getElem? hx))
        have hjn : (j : Int) < (n : Int) := by omega
        have hin : (i : Int) < (n : Int) := by omega
        obtain ⟨y, hy⟩ : ∃ y, C[i]? = some y := ⟨C[i]'(by have := HCl.out; omega), List.getElem?_eq_getElem _⟩
        have Hy := Lib.hid hy
        clear hx hy
        cases hp : p x
        · have HP := Lib.hid hp
          rw [hp] at HCL
          clear hp
          go_wp2_with (with_reducible refine (HCL.out).mono ?_; rintro e w3 ⟨rfl, hb3⟩)
          go_roundw
          case rel => exact ⟨i, j + 1, C, by omega, rfl, by go_num, HRow.out.below hb3, HL.out _ _ HGd.out hb3, by omega, HD.out.no Hx.out HP.out⟩
          case measure => simp [intOf]; omega
        · have HP := Lib.hid hp
          rw [hp] at HCL
          clear hp
          go_wp2_with (with_reducible refine (HCL.out).mono ?_; rintro e w3 ⟨rfl, hb3⟩; have hr3 := HRow.out.below hb3; have ci := hr3.cell Hy.out; have fi := hr3.free i; have hz3 := hr3.lt)
          go_roundw
          case rel => exact ⟨i + 1, j + 1, C.set i x, by omega, by go_num, by go_num, hr3.set_ (by rw [HCl.out]; omega) x, HS.out _ _ _ (HL.out _ _ HGd.out hb3), by omega, HD.out.yes Hx.out HP.out⟩
          case measure => simp [intOf]; omega
      · have e1 : j = n := by omega
        have HJ := Lib.hid e1
        have hge : ¬ ((j : Int) < (n : Int)) := by omega
        have hin : i < n := by omega
        have hini : (i : Int) < (n : Int) := by omega
        have hinc : (i : Int) ≤ (c : Int) := by omega
        clear e1 hlt
        have hcl : ∀ ty, (Builtin.clear_ #[24] ty #[.slice (some ⟨g, i, none⟩) (n - i) (c - i)]).run Try.prog wo = .ok (.tuple #[]) (wo.setCells g i (List.replicate (n - i) (.int .i64 0))) :=
          fun ty => Lib.run_clear_slice wo _ _ ty _ Try.underlying24 (fun w => by kernel_rfl) rfl rfl g i _ _ (by omega)
            (fun t ht => by
              have hlt2 : i + t < C.length := by rw [HCl.out]; omega
              rw [HRow.out.cell (List.getElem?_eq_getElem hlt2)]; rfl)
            (fun t ht => HRow.out.free _)
        obtain ⟨C', h1, h2, h3, h4⟩ := RowB.sets Good HS.out (n - i) i i wo C (by omega) (by rw [HCl.out]; omega) HRow.out HGd.out
        have H1 := Lib.hid h1
        have H2 := Lib.hid h2
        have H3 := Lib.hid h3
        have H4 := Lib.hid h4
        clear h1 h2 h3 h4
        go_wp2
        go_ret
        have hlen2 := HD.out.len (by rw [HN.out]; have := HJ.out; omega)
        have h5 : C'.take i = L.filter p := by
          rw [H3.out, HD.out.2.2.1, List.take_of_length_le (by rw [HN.out]; have := HJ.out; omega)]
        have h6 : i = (L.filter p).length := by rw [hlen2, List.take_of_length_le (by rw [HN.out]; have := HJ.out; omega)]
        refine ⟨_, rfl, ?_, H4.out⟩
        have h := H1.out.own (k := i) (c := c) (base := base) (by rw [H2.out, HCl.out]; omega) (by rw [H2.out, HCl.out]; exact HCC.out) HM.out hbg
        rw [h5] at h
        rw [← h6]
        exact h
end Go.Proofs.Ytmeehfiekhdbkaa
