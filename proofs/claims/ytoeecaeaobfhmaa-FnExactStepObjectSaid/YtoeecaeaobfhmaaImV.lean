/-
  The program's step of an object, whole, and which numbers are a state of an object, as the program and the reference ask it. Asked: a call that is one by itself, numbers that are a state.
-/
import Derived.Test.YtoeecaeaobfhmaaImU
namespace Go.Proofs.Ytoeecaeaobfhmaa
open Go.RowKit Go.Deep
set_option maxRecDepth 100000

set_option maxHeartbeats 4000000 in
theorem implStep_of (o : Ob) (s : ByteArray) (hs : obOf s = some o) (st : List Int) (A : Option Addr) (n cap : Nat) (c : CallD) (w : World) (hr : RowInts w A st) (hn : st.length = n) (hl : n ≤ 20) (h1 : o.one = true → n ≤ 1) (hp : ∀ x ∈ st, 0 ≤ x) (hk : 0 ≤ c.kind ∧ c.kind ≤ 2) (ha : 0 ≤ c.arg ∧ c.arg ≤ 3) :
    Calls Try.prog 73 #[.string s, .slice A n cap, c.val] w fun e w' => ImTo w w' w.heap.size (stepS o st c.kind c.arg) (stepA o st c.kind c.arg) e := by
  have ht := obOf_text hs
  have hl' : (n : Int) ≤ 20 := by omega
  have HR := Lib.hid hr
  have HN := Lib.hid hn
  have HQ := Lib.hid (show o.one = true → ∀ (v : Value) (W : World), w.heap.size ≤ W.heap.size → W.ownsRow w.heap.size 3 1 v n (st.flatMap intVals) → Calls Try.prog 84 #[.string s, v, c.val] W fun e w' => ImTo W w' w.heap.size (stepS o st c.kind c.arg) (stepA o st c.kind c.arg) e from
    fun h v W hW ho => implSingle_of o s st v n c W w.heap.size h hs hW ho hn (h1 h) hp hk ha)
  have HW := Lib.hid (show o = .queue ∨ o = .stack → ∀ (v : Value) (W : World), w.heap.size ≤ W.heap.size → W.ownsRow w.heap.size 3 1 v n (st.flatMap intVals) → Calls Try.prog 86 #[.string s, v, c.val] W fun e w' => ImTo W w' w.heap.size (stepS o st c.kind c.arg) (stepA o st c.kind c.arg) e from
    fun h v W hW ho => implRow_of o s st v n c W w.heap.size h hs hW ho hn (by omega))
  have HT := Lib.hid (show o = .set → ∀ (v : Value) (W : World), w.heap.size ≤ W.heap.size → W.ownsRow w.heap.size 3 1 v n (st.flatMap intVals) → Calls Try.prog 85 #[v, c.val] W fun e w' => ImTo W w' w.heap.size (stepS o st c.kind c.arg) (stepA o st c.kind c.arg) e from
    fun h v W hW ho => by subst h; exact implSet_of st v n c W w.heap.size hW ho hn (by omega) hk)
  have HIS := Lib.hid (fun (W : World) => hs ▸ isSingle_calls s W)
  clear hr hn h1 hp hs
  generalize stepS o st c.kind c.arg = R at *
  generalize stepA o st c.kind c.arg = X at *
  go_enter Try.func73, Try.ntmps73
  go_wp2_with fail
  refine (clone_of st n A cap _ (HR.out.below (below_alloc (Below.refl _ _) _)) HN.out (by omega)).mono ?_
  rintro e w1 ⟨v, rfl, ho, hb⟩
  have HB1 := Lib.hid (below_trans' (below_alloc (Below.refl _ _) _) hb)
  have hbx := hb.size
  rw [World.size_alloc] at hbx
  have hbz : w.heap.size < w1.heap.size := by omega
  have d0 := cell_below hb (step_box c w _ 0 _ rfl)
  have d1 := cell_below hb (step_box c w _ 1 _ rfl)
  have d2 := cell_below hb (step_box c w _ 2 _ rfl)
  have d3 := cell_below hb (step_box c w _ 3 _ rfl)
  have d4 := cell_below hb (step_box c w _ 4 _ rfl)
  have d5 := cell_below hb (step_box c w _ 5 _ rfl)
  have d6 := cell_below hb (step_box c w _ 6 _ rfl)
  have HO := Lib.hid (show w1.ownsRow w.heap.size 3 1 v n (st.flatMap intVals) from HN.out ▸ own_base ho (by simp))
  clear ho hb hbx
  go_wp2_with fail
  refine (HIS.out _).mono ?_
  rintro e w2 ⟨rfl, rfl⟩
  cases o
  · have H := HQ.out rfl v w1 HB1.out.size HO.out
    have HH := Lib.hid H
    clear H
    unfold Ob.text at ht
    go_wp2_with fail
    refine HH.out.mono ?_
    rintro e w3 ⟨v3, rfl, ho3, hb3⟩
    have HE := Lib.hid (show ImTo w w3 w.heap.size R X (.returned (.tuple #[v3, .int .i64 X])) from ⟨v3, rfl, ho3, HB1.out.trans hb3⟩)
    clear ho3 hb3
    go_wp2_with fail
    go_ret2
    exact HE.out
  · have H := HW.out (.inl rfl) v w1 HB1.out.size HO.out
    have HH := Lib.hid H
    clear H
    unfold Ob.text at ht
    go_wp2_with fail
    refine HH.out.mono ?_
    rintro e w3 ⟨v3, rfl, ho3, hb3⟩
    have HE := Lib.hid (show ImTo w w3 w.heap.size R X (.returned (.tuple #[v3, .int .i64 X])) from ⟨v3, rfl, ho3, HB1.out.trans hb3⟩)
    clear ho3 hb3
    go_wp2_with fail
    go_ret2
    exact HE.out
  · have H := HW.out (.inr rfl) v w1 HB1.out.size HO.out
    have HH := Lib.hid H
    clear H
    unfold Ob.text at ht
    go_wp2_with fail
    refine HH.out.mono ?_
    rintro e w3 ⟨v3, rfl, ho3, hb3⟩
    have HE := Lib.hid (show ImTo w w3 w.heap.size R X (.returned (.tuple #[v3, .int .i64 X])) from ⟨v3, rfl, ho3, HB1.out.trans hb3⟩)
    clear ho3 hb3
    go_wp2_with fail
    go_ret2
    exact HE.out
  · have H := HQ.out rfl v w1 HB1.out.size HO.out
    have HH := Lib.hid H
    clear H
    unfold Ob.text at ht
    go_wp2_with fail
    refine HH.out.mono ?_
    rintro e w3 ⟨v3, rfl, ho3, hb3⟩
    have HE := Lib.hid (show ImTo w w3 w.heap.size R X (.returned (.tuple #[v3, .int .i64 X])) from ⟨v3, rfl, ho3, HB1.out.trans hb3⟩)
    clear ho3 hb3
    go_wp2_with fail
    go_ret2
    exact HE.out
  · have H := HT.out rfl v w1 HB1.out.size HO.out
    have HH := Lib.hid H
    clear H
    unfold Ob.text at ht
    go_wp2_with fail
    refine HH.out.mono ?_
    rintro e w3 ⟨v3, rfl, ho3, hb3⟩
    have HE := Lib.hid (show ImTo w w3 w.heap.size R X (.returned (.tuple #[v3, .int .i64 X])) from ⟨v3, rfl, ho3, HB1.out.trans hb3⟩)
    clear ho3 hb3
    go_wp2_with fail
    go_ret2
    exact HE.out
  · have H := HQ.out rfl v w1 HB1.out.size HO.out
    have HH := Lib.hid H
    clear H
    unfold Ob.text at ht
    go_wp2_with fail
    refine HH.out.mono ?_
    rintro e w3 ⟨v3, rfl, ho3, hb3⟩
    have HE := Lib.hid (show ImTo w w3 w.heap.size R X (.returned (.tuple #[v3, .int .i64 X])) from ⟨v3, rfl, ho3, HB1.out.trans hb3⟩)
    clear ho3 hb3
    go_wp2_with fail
    go_ret2
    exact HE.out
end Go.Proofs.Ytoeecaeaobfhmaa
