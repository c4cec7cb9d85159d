/-
  What BrokenAt of the reference answers for a promise. No condition but lengths of at most 2 to the 20.
-/
import Derived.Test.YtooigcfdkmgjnaaBroken
import Derived.Test.YtooigcfdkmgjnaaAcc
import Derived.Test.YtooigcfdkmgjnaaPairV
namespace Go.Proofs.Ytooigcfdkmgjnaa
open Go.RowKit
set_option maxRecDepth 100000


set_option maxHeartbeats 4000000 in
theorem specBroken_steady (p : ByteArray) (hp : p.toList = [115, 116, 101, 97, 100, 121]) (cs : List AccessD) (A : Option Addr) (n cap : Nat) (w : World) (hr : RowAccesss w A cs) (hn : cs.length = n) (hl : n ≤ 1048576) (v : Int × Bool) (hv : brokeV (some .steady) cs = v) :
    Calls Try.prog 30 #[.string p, .slice A n cap] w fun e w' => e = .returned (pairV v) ∧ Below w.heap.size w w' := by
  have HR := Lib.hid hr
  have Hn := Lib.hid hn
  have hw1 := below_alloc (Below.refl w.heap.size w) (.cells #[.int .i64 0, .bool true, .int .i64 0] 44)
  have hrow1 : RowAccesss (w.alloc (.cells #[.int .i64 0, .bool true, .int .i64 0] 44)) (some ⟨w.heap.size, 0, none⟩) [⟨0, true, 0⟩] := by
    intro _
    refine ⟨w.heap.size, 0, rfl, fun i c hi j u hu => ?_⟩
    match i, hi with
    | 0, hi =>
      simp at hi
      subst hi
      rw [World.cell?_alloc_new]
      simpa [AccessD.vals] using hu
    | i + 1, hi => simp at hi
  have H1 := Lib.hid (broken_steady p hp [⟨0, true, 0⟩] (by decide) 0 ⟨0, true, 0⟩ rfl (some ⟨w.heap.size, 0, none⟩) 1 1 _ hrow1 rfl false rfl)
  have Hw1 := Lib.hid hw1
  have HW := Lib.hid (fun (W : World) (hW : RowAccesss W A cs) (b : Bool) (hb : accB cs = b) => hn ▸ specValid_calls cs A cap W hW (by omega) b hb)
  clear hr hrow1 hw1
  cases hw : accB cs
  · have e1 : v = (-1, false) := by rw [← hv]; exact brokeV_bad hw
    subst e1
    have Hw := Lib.hid hw
    clear hv hw hn
    go_enter Try.func30, Try.ntmps30
    go_wp2_with fail
    refine H1.out.mono ?_
    rintro e w1 ⟨rfl, hb1⟩
    have HB1 := Lib.hid (below_trans' Hw1.out hb1)
    clear hb1
    go_wp2_with fail
    refine (HW.out _ (HR.out.below HB1.out) _ Hw.out).mono ?_
    rintro e w2 ⟨rfl, hb2⟩
    go_wp2_with fail
    go_ret2
    exact ⟨rfl, below_trans' HB1.out hb2⟩
  have HV := Lib.hid hv
  have Hw := Lib.hid hw
  have h10 := accB_len hw
  rw [hn] at h10
  have HBk := Lib.hid (fun (i : Nat) (c : AccessD) (hc : cs[i]? = some c) (W : World) (hW : RowAccesss W A cs) (b : Bool) (hb : brkB .steady cs i = b) => broken_steady p hp cs hw i c hc A n cap W hW hn b hb)
  have Hhit := Lib.hid (fun (i : Nat) (hi : i < n) (ha : (List.range i).all (fun j => !brkB .steady cs j) = true) (hb : brkB .steady cs i = true) => brokeV_hit (p := .steady) hw (show i < cs.length by omega) ha hb)
  have Hnone := Lib.hid (fun (ha : (List.range n).all (fun j => !brkB .steady cs j) = true) => brokeV_none (p := .steady) hw (by rw [hn]; exact ha))
  clear hv hw hn
  have hlen : (n : Int) ≤ 10 := by omega
  go_enter Try.func30, Try.ntmps30
  go_wp2_with fail
  refine H1.out.mono ?_
  rintro e w1 ⟨rfl, hb1⟩
  have HB1 := Lib.hid (below_trans' Hw1.out hb1)
  clear hb1
  go_wp2_with fail
  refine (HW.out _ (HR.out.below HB1.out) _ Hw.out).mono ?_
  rintro e w2 ⟨rfl, hb2⟩
  have HB2 := Lib.hid (below_trans' HB1.out hb2)
  clear hb2
  go_wp2_with fail
  go_loopw [8] (fun i wr => ∃ k : Nat, k ≤ n ∧ i = .int .i64 k ∧ Below w.heap.size w wr ∧ Hid ((List.range k).all (fun j => !brkB .steady cs j) = true)) (fun i _ => n - (intOf i).toNat)
  case atStart => exact ⟨0, by omega, rfl, HB2.out, rfl⟩
  case round =>
    obtain ⟨i, hi, rfl, hb, HG⟩ := hrel
    by_cases hlt : i < n
    · obtain ⟨c, hc⟩ : ∃ c, cs[i]? = some c := ⟨cs[i]'(by have := Hn.out; omega), List.getElem?_eq_getElem _⟩
      obtain ⟨b, hbb⟩ : ∃ b, brkB .steady cs i = b := ⟨_, rfl⟩
      have Hbb := Lib.hid hbb
      have HX := Lib.hid (fun (W : World) (hW : RowAccesss W A cs) => HBk.out i c hc W hW b hbb)
      have Hb := Lib.hid hb
      clear hb hc hbb
      have hi0 : (0 : Int) ≤ (i : Int) := by omega
      have hin : (i : Int) < (n : Int) := by omega
      go_wp2_with fail
      refine (HX.out _ (HR.out.below Hb.out)).mono ?_
      rintro e w3 ⟨rfl, hb3⟩
      have HB3 := Lib.hid (below_trans' Hb.out hb3)
      clear hb3
      cases b
      · have Hq : Hid ((List.range (i + 1)).all (fun j => !brkB .steady cs j) = true) := by show _ = _; rw [all_range_succ, HG.out, Hbb.out]; rfl
        go_wp2_with fail
        go_roundw
        case rel => exact ⟨i + 1, by omega, by go_num, HB3.out, Hq⟩
        case measure => simp [intOf]; omega
      · have Hq := Lib.hid (Hhit.out i hlt HG.out Hbb.out)
        go_wp2_with fail
        go_ret2
        exact ⟨by rw [← HV.out, Hq.out]; rfl, HB3.out⟩
    · have e1 : i = n := by omega
      subst e1
      have hge : ¬ ((i : Int) < (i : Int)) := by omega
      have Hq := Lib.hid (Hnone.out HG.out)
      have Hb := Lib.hid hb
      clear hb
      go_wp2
      go_ret2
      exact ⟨by rw [← HV.out, Hq.out]; rfl, Hb.out⟩
end Go.Proofs.Ytooigcfdkmgjnaa
