/-
  What BrokenAt of the program answers for a promise. No condition but lengths of at most 2 to the 20.
-/
import Derived.Test.YtooigcfdkmgjnaaStrs
import Derived.Test.YtooigcfdkmgjnaaBrk
import Derived.Test.YtooigcfdkmgjnaaAcc
import Derived.Test.YtooigcfdkmgjnaaPairV
namespace Go.Proofs.Ytooigcfdkmgjnaa
open Go.RowKit
set_option maxRecDepth 100000


set_option maxHeartbeats 4000000 in
theorem implBroken_steady (p : ByteArray) (hp : p.toList = [115, 116, 101, 97, 100, 121]) (cs : List AccessD) (A : Option Addr) (n cap : Nat) (w : World) (hr : RowAccesss w A cs) (hn : cs.length = n) (hl : n ≤ 1048576) (hcap : n ≤ cap) (v : Int × Bool) (hv : brokeV (some .steady) cs = v) :
    Calls Try.prog 31 #[.string p, .slice A n cap] w fun e w' => e = .returned (pairV v) ∧ Below w.heap.size w w' := by
  have HR := Lib.hid hr
  have Hn := Lib.hid hn
  have HW := Lib.hid (fun (b : Bool) (hb : accB cs = b) => hn ▸ implValidAccesses_calls cs A cap w hr (by omega) (by omega) b hb)
  have Hp := Lib.hid hp
  clear hr
  cases hw : accB cs
  · have e1 : v = (-1, false) := by rw [← hv]; exact brokeV_bad hw
    subst e1
    have Hw := Lib.hid hw
    clear hv hw hn
    go_enter Try.func31, Try.ntmps31
    go_wp2_with (go_at_call 16; refine (HW.out _ Hw.out).mono ?_; rintro e w1 ⟨rfl, hb1⟩)
    go_ret2
    exact ⟨rfl, hb1⟩
  have HV := Lib.hid hv
  have Hw := Lib.hid hw
  have h10 := accB_len hw
  rw [hn] at h10
  have HA := Lib.hid (add_step cs hw w.heap.size)
  have HBk := Lib.hid (fun (B g i : Nat) (c : AccessD) (hc : cs[i]? = some c) (w : World) (k : SessAt w B g cs i) (b : Bool) (hb : brk .steady cs i = b) => breaks_steady p hp cs hw B g i c hc w k b hb)
  have HIn := Lib.hid (fun (W : World) => contains_str pr4 p W.heap.size 4 4 _ (pr4_cells W) rfl (by omega) true (in_steady hp))
  have Hhit := Lib.hid (fun (i : Nat) (hi : i < n) (ha : (List.range i).all (fun j => !brkB .steady cs j) = true) (hb : brkB .steady cs i = true) => brokeV_hit (p := .steady) hw (show i < cs.length by omega) ha hb)
  have Hnone := Lib.hid (fun (ha : (List.range n).all (fun j => !brkB .steady cs j) = true) => brokeV_none (p := .steady) hw (by rw [hn]; exact ha))
  clear hv hw hn
  have hlen : (n : Int) ≤ 10 := by omega
  go_enter Try.func31, Try.ntmps31
  go_wp2_with (go_at_call 16; refine (HW.out _ Hw.out).mono ?_; rintro e w1 ⟨rfl, hb1⟩)
  refine (HIn.out w1).mono ?_
  rintro e w2 ⟨rfl, rfl⟩
  go_wp2_with fail
  have hb2 : Below w.heap.size w (w1.alloc (.cells #[.string { data := #[111, 119, 110] }, .string { data := #[115, 116, 101, 97, 100, 121] }, .string { data := #[114, 111, 119] }, .string { data := #[102, 111, 108, 108, 111, 119] }] 9)) := below_alloc hb1 _
  have hz2 : (w1.alloc (.cells #[.string { data := #[111, 119, 110] }, .string { data := #[115, 116, 101, 97, 100, 121] }, .string { data := #[114, 111, 119] }, .string { data := #[102, 111, 108, 108, 111, 119] }] 9)).heap.size = w1.heap.size + 1 := by simp
  generalize w1.alloc (.cells #[.string { data := #[111, 119, 110] }, .string { data := #[115, 116, 101, 97, 100, 121] }, .string { data := #[114, 111, 119] }, .string { data := #[102, 111, 108, 108, 111, 119] }] 9) = w2 at *
  have hs0 := sess_start w2 w.heap.size hb2.size cs
  have hbs : Below w.heap.size w (w2.alloc (.cells #[.int .i64 0, .int .i64 0, .int .i64 0, .int .i64 0, .int .i64 0, .int .i64 0, .slice none 0 0, .slice none 0 0, .slice none 0 0] 57)) := below_alloc hb2 _
  rw [hz2] at hs0
  clear hb1 hb2 hz2
  go_loopw [21] (fun i wr => ∃ k : Nat, k ≤ n ∧ i = .int .i64 k ∧ SessAt wr w.heap.size (w1.heap.size + 1) cs k ∧ Below w.heap.size w wr ∧ Hid ((List.range k).all (fun j => !brkB .steady cs j) = true)) (fun i _ => n - (intOf i).toNat)
  case atStart => exact ⟨0, by omega, rfl, hs0, hbs, rfl⟩
  case round =>
    clear hs0 hbs
    obtain ⟨i, hi, rfl, hk, hb, HG⟩ := hrel
    by_cases hlt : i < n
    · obtain ⟨b0, off, rfl, hat⟩ := HR.out (by have := Hn.out; omega)
      obtain ⟨c, hc⟩ : ∃ c, cs[i]? = some c := ⟨cs[i]'(by have := Hn.out; omega), List.getElem?_eq_getElem _⟩
      obtain ⟨x0, x1, x2⟩ := (RowAccesss.at_ hat hc).below hb
      have Hk := Lib.hid hk
      have Hb := Lib.hid hb
      have Hc := Lib.hid hc
      have hbq : brkB .steady cs i = (!c.write && brk .steady cs i) := by rw [brkB, aAt_eq hc]
      have Hbq := Lib.hid hbq
      obtain ⟨b, hbb⟩ : ∃ b, brk .steady cs i = b := ⟨_, rfl⟩
      have Hbb := Lib.hid hbb
      obtain ⟨wf, hwf⟩ : ∃ wf, c.write = wf := ⟨_, rfl⟩
      have Hwf := Lib.hid hwf
      have HAdd := Lib.hid (HA.out (w1.heap.size + 1) i c hc)
      have HBrk := Lib.hid (fun (W : World) (k : SessAt W w.heap.size (w1.heap.size + 1) cs i) => HBk.out w.heap.size (w1.heap.size + 1) i c hc W k b hbb)
      rw [hwf] at x1
      have hval : c.val = .agg #[.int .i64 c.session, .bool wf, .int .i64 c.seen] := by rw [AccessD.val, hwf]
      simp only [hval] at HAdd HBrk
      clear hat hc hk hb hbq hbb hwf hval
      have hi0 : (0 : Int) ≤ (i : Int) := by omega
      have hin : (i : Int) < (n : Int) := by omega
      cases wf
      · go_wp2_with fail
        refine (HBrk.out _ (Hk.out.below (below_alloc (Below.refl _ _) _))).mono ?_
        rintro e w3 ⟨rfl, hb3⟩
        have y0 : w3.cell? ⟨wr.heap.size, 0, none⟩ = some (.int .i64 c.session) := cell_below hb3 (by simp)
        have y1 : w3.cell? ⟨wr.heap.size, 1, none⟩ = some (.bool false) := cell_below hb3 (by simp)
        have y2 : w3.cell? ⟨wr.heap.size, 2, none⟩ = some (.int .i64 c.seen) := cell_below hb3 (by simp)
        have HK3 := Lib.hid (SessAt.below (Hk.out.below (below_alloc (Below.refl _ _) _)) hb3)
        have HB3 := Lib.hid (below_trans' (below_alloc Hb.out _) hb3)
        clear hb3 x0 x1 x2
        cases b
        · have Hq : Hid ((List.range (i + 1)).all (fun j => !brkB .steady cs j) = true) := by show _ = _; rw [all_range_succ, HG.out, Hbq.out, Hwf.out, Hbb.out]; rfl
          go_wp2_with fail
          refine (HAdd.out _ HK3.out).mono ?_
          intro e w4 hd
          unfold AddStep at hd
          obtain ⟨rfl, hk4, hb4⟩ := hd
          go_wp2_with fail
          go_roundw
          case rel => exact ⟨i + 1, by omega, by go_num, hk4, HB3.out.trans hb4, Hq⟩
          case measure => simp [intOf]; omega
        · have Hq := Lib.hid (Hhit.out i hlt HG.out (by rw [Hbq.out, Hwf.out, Hbb.out]; rfl))
          go_wp2_with fail
          go_ret2
          exact ⟨by rw [← HV.out, Hq.out]; rfl, HB3.out⟩
      · have Hq : Hid ((List.range (i + 1)).all (fun j => !brkB .steady cs j) = true) := by show _ = _; rw [all_range_succ, HG.out, Hbq.out, Hwf.out]; rfl
        go_wp2_with fail
        refine (HAdd.out _ (Hk.out.below (below_alloc (Below.refl _ _) _))).mono ?_
        intro e w4 hd
        unfold AddStep at hd
        obtain ⟨rfl, hk4, hb4⟩ := hd
        go_wp2_with fail
        go_roundw
        case rel => exact ⟨i + 1, by omega, by go_num, hk4, (below_alloc Hb.out _).trans hb4, Hq⟩
        case measure => simp [intOf]; omega
    · have e1 : i = n := by omega
      subst e1
      have hge : ¬ ((i : Int) < (i : Int)) := by omega
      have Hq := Lib.hid (Hnone.out HG.out)
      have Hb := Lib.hid hb
      clear hk hb
      go_wp2
      go_ret2
      exact ⟨by rw [← HV.out, Hq.out]; rfl, Hb.out⟩
end Go.Proofs.Ytooigcfdkmgjnaa
