/-
  What the program and the reference answer on the calls of an object: the same list. No condition but lengths of at most 2 to the 20.
-/
import Derived.Test.YtooojfdjpmfalaaHist
import Derived.Test.YtooojfdjpmfalaaWValidHistory
namespace Go.Proofs.Ytooojfdjpmfalaa
open Go.RowKit
set_option maxRecDepth 100000

def objB (x : Int) (c : CallD) : Bool := c.obj == x
def partTo (h : List CallD) (x : Int) (k : Nat) : List CallD := (h.take k).filter (objB x)
def partB (h : List CallD) (x : Int) : List CallD := if histB h then h.filter (objB x) else []
theorem partB_len (h : List CallD) (x : Int) : (partB h x).length ≤ 1048576 := by
  unfold partB
  split
  · rename_i hh
    have h1 := histB_len hh
    have h2 := List.length_filter_le (objB x) h
    omega
  · simp
theorem partTo_succ {h : List CallD} {x : Int} {k : Nat} {c : CallD} (hc : h[k]? = some c) : partTo h x (k + 1) = partTo h x k ++ if objB x c then [c] else [] := by
  rw [partTo, List.take_add_one, hc, List.filter_append]
  cases hb : objB x c <;> simp [partTo, hb]
theorem partTo_le {h : List CallD} {x : Int} {k : Nat} : (partTo h x k).length ≤ k := by
  have := List.length_filter_le (objB x) (h.take k)
  rw [List.length_take] at this
  unfold partTo
  omega
theorem partTo_all {h : List CallD} {x : Int} {k : Nat} (hk : h.length ≤ k) : partTo h x k = h.filter (objB x) := by
  rw [partTo, List.take_of_length_le hk]

theorem call_new (w : World) (c : CallD) (E : TypeId) : ∀ j u, c.vals[j]? = some u → (w.alloc (.cells c.vals.toArray E)).cell? ((⟨w.heap.size, 0, none⟩ : Addr).add j) = some u := by
  intro j u hu
  rw [Addr.add_lit, Nat.zero_add, World.cell?_alloc_new]
  simpa using hu

theorem call_new' (w : World) (c : CallD) (E : TypeId) {n : Nat} (hn : n = w.heap.size) : ∀ j u, c.vals[j]? = some u → (w.alloc (.cells c.vals.toArray E)).cell? ((⟨n, 0, none⟩ : Addr).add j) = some u := by
  subst hn
  exact call_new w c E

set_option maxHeartbeats 1000000 in
theorem specPart_calls (cs : List CallD) (A : Option Addr) (cap : Nat) (x : Int) (w : World) (hr : RowCalls w A cs) (hl : cs.length ≤ 1048576) :
    Calls Try.prog 49 #[.slice A cs.length cap, .int .i64 x] w fun e w' => ∃ v, e = .returned v ∧ OwnCalls w' w.heap.size v (cs.filter (objB x)) ∧ Below w.heap.size w w' := by
  obtain ⟨i0, hi0, hz0, hz1, hz2⟩ := info_parts info_impl_Call
  have HR := Lib.hid hr
  clear hr
  generalize hn : cs.length = n at *
  have Hn := Lib.hid hn
  clear hn
  have hlen : (n : Int) ≤ 1048576 := by omega
  go_enter Try.func49, Try.ntmps49
  go_wp2
  go_loopw [5, 6] (fun v i wr => ∃ k : Nat, k ≤ n ∧ i = .int .i64 k ∧ wr.ownsRow w.heap.size 26 7 v (partTo cs x k).length ((partTo cs x k).flatMap CallD.vals) ∧ Below w.heap.size w wr) (fun _ i _ => n - (intOf i).toNat)
  case atStart => exact ⟨0, by omega, rfl, World.ownsRow_made w #[] 0 (Nat.le_refl _) (by simp [maxLen]) rfl, below_alloc (Below.refl _ _) _⟩
  case round =>
    obtain ⟨k, hk, rfl, hown, hb⟩ := hrel
    by_cases hlt : k < n
    · obtain ⟨b, off, rfl, hat⟩ := HR.out (by have := Hn.out; omega)
      obtain ⟨c, hc⟩ : ∃ c, cs[k]? = some c := ⟨cs[k]'(by have := Hn.out; omega), List.getElem?_eq_getElem _⟩
      obtain ⟨x0, x1, x2, x3, x4, x5, x6⟩ := (RowCalls.at7 hat hc).below hb
      have hst := partTo_succ (x := x) hc
      have hle := partTo_le (h := cs) (x := x) (k := k)
      generalize partTo cs x k = L at *
      have Hst := Lib.hid hst
      have Hb := Lib.hid hb
      clear HR hat hc hb hst
      have hk0 : (0 : Int) ≤ (k : Int) := by omega
      have hkn : (k : Int) < (n : Int) := by omega
      cases hob : objB x c
      · have hob' : (c.obj == x) = false := hob
        have Hob := Lib.hid hob
        clear hob
        go_wp2
        go_roundw
        case rel => exact ⟨k + 1, by omega, by go_num, by rw [Hst.out, Hob.out]; simpa using hown, Hb.out⟩
        case measure => simp [intOf]; omega
      · have hob' : (c.obj == x) = true := hob
        have Hob := Lib.hid hob
        clear hob
        have hlt5 := hown.lt
        go_wp2_with (at_builtin; refine wpList_append_own _ rfl (.tmp 21) (.tmp 26) 36 rfl w.heap.size 26 i0 _ 7 56 Try.underlying36 hi0 hz0 hz1 hz2 rfl (by omega) _ L.length (L.flatMap CallD.vals) rfl (hown.alloc _) ⟨wr.heap.size, 0, none⟩ 1 1 c.vals rfl rfl (call_new _ _ _) (vals_one c) (by unfold maxLen; omega) (by omega) (by have := Hb.out.size; simp; omega) ?_; intro v1 w1 hown1 hgrow _)
        go_roundw
        case rel =>
          refine ⟨k + 1, by omega, by go_num, ?_, ?_⟩
          · rw [Hst.out, Hob.out]
            simpa using hown1
          · exact (below_alloc Hb.out _).grown hgrow (by have := Hb.out.size; simp; omega) (fun q hq => (hlt5 q hq).1)
        case measure => simp [intOf]; omega
    · have hge : ¬ ((k : Int) < (n : Int)) := by omega
      have e1 : partTo cs x k = cs.filter (objB x) := partTo_all (by rw [Hn.out]; omega)
      have E1 := Lib.hid e1
      clear e1
      go_wp2
      go_ret
      exact ⟨_, rfl, by unfold OwnCalls; rw [← E1.out]; exact hown, hb⟩

set_option maxHeartbeats 1000000 in
theorem implPartOf_calls (cs : List CallD) (x : Int) (A : Option Addr) (cap : Nat) (w : World) (hr : RowCalls w A cs) (hl : cs.length ≤ 1048576) (hcap : cs.length ≤ cap) :
    Calls Try.prog 33 #[.slice A cs.length cap, .int .i64 x] w fun e w' => ∃ v, e = .returned v ∧ OwnCalls w' w.heap.size v (partB cs x) ∧ Below w.heap.size w w' := by
  obtain ⟨i0, hi0, hz0, hz1, hz2⟩ := info_parts info_impl_Call
  have HR := Lib.hid hr
  clear hr
  cases hv : histB cs
  · have e1 : partB cs x = [] := by simp [partB, hv]
    have E1 := Lib.hid e1
    have HV := Lib.hid hv
    clear hv e1
    go_enter Try.func33, Try.ntmps33
    go_wp2_with (go_at_call 25; refine (implValid_calls cs A cap _ (HR.out.below (below_alloc (Below.refl _ _) _)) hl hcap false HV.out).mono ?_; rintro e w1 ⟨rfl, hb1⟩)
    go_ret
    refine ⟨_, rfl, ?_, (by repeat (first | exact Below.refl _ _ | assumption | refine below_alloc ?_ _ | refine below_trans' ?_ (by assumption) | refine Below.drew ?_))⟩
    unfold OwnCalls
    rw [E1.out]
    have h0 : (w.alloc (.cells #[] 26)).ownsRow w.heap.size 26 7 (.slice (some ⟨w.heap.size, 0, none⟩) 0 0) 0 [] := World.ownsRow_made w #[] 0 (Nat.le_refl _) (by simp [maxLen]) rfl
    exact own_below h0 hb1
  · have e1 : partB cs x = cs.filter (objB x) := by simp [partB, hv]
    have E1 := Lib.hid e1
    have HV := Lib.hid hv
    clear hv e1
    have HC := Lib.hid (fun (W : World) (hW : RowCalls W A cs) => implValid_calls cs A cap W hW hl hcap true HV.out)
    generalize hn : cs.length = n at *
    have Hn := Lib.hid hn
    clear hn
    have hlen : (n : Int) ≤ 1048576 := by omega
    go_enter Try.func33, Try.ntmps33
    go_wp2_with (go_at_call 25; refine (HC.out _ (HR.out.below (below_alloc (Below.refl _ _) _))).mono ?_; rintro e w1 ⟨rfl, hb1⟩)
    have hbw1 : Below w.heap.size w w1 := (by repeat (first | exact Below.refl _ _ | assumption | refine below_alloc ?_ _ | refine below_trans' ?_ (by assumption) | refine Below.drew ?_))
    have ho1 : w1.ownsRow w.heap.size 26 7 (.slice (some ⟨w.heap.size, 0, none⟩) 0 0) 0 [] := own_below (World.ownsRow_made w #[] 0 (Nat.le_refl _) (by simp [maxLen]) rfl) hb1
    clear hb1
    go_loopw [5, 15] (fun v i wr => ∃ k : Nat, k ≤ n ∧ i = .int .i64 k ∧ wr.ownsRow w.heap.size 26 7 v (partTo cs x k).length ((partTo cs x k).flatMap CallD.vals) ∧ Below w.heap.size w wr) (fun _ i _ => n - (intOf i).toNat)
    case atStart => exact ⟨0, by omega, rfl, ho1, hbw1⟩
    case round =>
      clear ho1 hbw1
      obtain ⟨k, hk, rfl, hown, hb⟩ := hrel
      by_cases hlt : k < n
      · obtain ⟨b, off, rfl, hat⟩ := HR.out (by have := Hn.out; omega)
        obtain ⟨c, hc⟩ : ∃ c, cs[k]? = some c := ⟨cs[k]'(by have := Hn.out; omega), List.getElem?_eq_getElem _⟩
        obtain ⟨x0, x1, x2, x3, x4, x5, x6⟩ := (RowCalls.at7 hat hc).below hb
        have hst := partTo_succ (x := x) hc
        have hle := partTo_le (h := cs) (x := x) (k := k)
        generalize partTo cs x k = L at *
        have Hst := Lib.hid hst
        have Hb := Lib.hid hb
        clear HR hat hc hb hst HC
        have hk0 : (0 : Int) ≤ (k : Int) := by omega
        have hkn : (k : Int) < (n : Int) := by omega
        cases hob : objB x c
        · have hob' : (c.obj == x) = false := hob
          have Hob := Lib.hid hob
          clear hob
          go_wp2
          go_roundw
          case rel => exact ⟨k + 1, by omega, by go_num, by rw [Hst.out, Hob.out]; simpa using hown.alloc _, below_alloc Hb.out _⟩
          case measure => simp [intOf]; omega
        · have hob' : (c.obj == x) = true := hob
          have Hob := Lib.hid hob
          clear hob
          have hlt5 := hown.lt
          go_wp2_with (at_builtin; refine wpList_append_own _ rfl (.tmp 23) (.tmp 25) 36 rfl w.heap.size 26 i0 _ 7 56 Try.underlying36 hi0 hz0 hz1 hz2 rfl (by omega) _ L.length (L.flatMap CallD.vals) rfl ((hown.alloc _).alloc _) ⟨wr.heap.size + 1, 0, none⟩ 1 1 c.vals rfl rfl (call_new' _ _ _ (by simp)) (vals_one c) (by unfold maxLen; omega) (by omega) (by have := Hb.out.size; simp; omega) ?_; intro v1 w1 hown1 hgrow _)
          go_roundw
          case rel =>
            refine ⟨k + 1, by omega, by go_num, ?_, ?_⟩
            · rw [Hst.out, Hob.out]
              simpa using hown1
            · exact (below_alloc (below_alloc Hb.out _) _).grown hgrow (by have := Hb.out.size; simp; omega) (fun q hq => (hlt5 q hq).1)
          case measure => simp [intOf]; omega
      · have hge : ¬ ((k : Int) < (n : Int)) := by omega
        have e1 : partTo cs x k = cs.filter (objB x) := partTo_all (by rw [Hn.out]; omega)
        have E2 := Lib.hid e1
        clear e1
        go_wp2
        go_ret
        exact ⟨_, rfl, by unfold OwnCalls; rw [E1.out, ← E2.out]; exact hown, hb⟩

theorem specPartOf_calls (cs : List CallD) (x : Int) (A : Option Addr) (cap : Nat) (w : World) (hr : RowCalls w A cs) (hl : cs.length ≤ 1048576) :
    Calls Try.prog 32 #[.slice A cs.length cap, .int .i64 x] w fun e w' => ∃ v, e = .returned v ∧ OwnCalls w' w.heap.size v (partB cs x) ∧ Below w.heap.size w w' := by
  have HR := Lib.hid hr
  clear hr
  cases hv : histB cs
  · have e1 : partB cs x = [] := by simp [partB, hv]
    have E1 := Lib.hid e1
    have HV := Lib.hid hv
    clear hv e1
    go_enter Try.func32, Try.ntmps32
    go_wp2_with (go_at_call 42; refine (specValid_calls cs A cap _ HR.out hl false HV.out).mono ?_; rintro e w1 ⟨rfl, hb1⟩)
    go_ret
    exact ⟨_, rfl, by unfold OwnCalls; rw [E1.out]; exact World.ownsRow_nil _ _ _ _, hb1⟩
  · have e1 : partB cs x = cs.filter (objB x) := by simp [partB, hv]
    have E1 := Lib.hid e1
    have HV := Lib.hid hv
    clear hv e1
    go_enter Try.func32, Try.ntmps32
    go_wp2_with (go_at_call 42; refine (specValid_calls cs A cap _ HR.out hl true HV.out).mono ?_; rintro e w1 ⟨rfl, hb1⟩)
    refine (specPart_calls cs A cap x _ (HR.out.below hb1) hl).mono ?_
    rintro e w2 ⟨v, rfl, ho, hb2⟩
    go_wp2_with fail
    go_ret
    exact ⟨v, rfl, by unfold OwnCalls at ho ⊢; rw [E1.out]; exact own_base ho hb1.size, (by repeat (first | exact Below.refl _ _ | assumption | refine below_alloc ?_ _ | refine below_trans' ?_ (by assumption) | refine Below.drew ?_))⟩
end Go.Proofs.Ytooojfdjpmfalaa
