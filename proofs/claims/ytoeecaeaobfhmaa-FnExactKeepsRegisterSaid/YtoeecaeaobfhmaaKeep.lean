/-
  Whether a history keeps a promise, of the program and of the reference: the same Lean function. No condition but lengths of at most 2 to the 20.
-/
import Derived.Test.YtoeecaeaobfhmaaKept
import Derived.Test.YtoeecaeaobfhmaaTurnOf
namespace Go.Proofs.Ytoeecaeaobfhmaa
open Go.RowKit
set_option maxRecDepth 100000

theorem lookB_skip (sf : Bool) {cs : List CallD} {i : Nat} {c : CallD} (hc : hAt cs i = c) (q : (c.kind != 2) = true) : lookB sf cs i = true := by
  have h1 : (c.kind == 2) = false := by simpa using q
  rw [lookB, hc, h1]; rfl
theorem lookB_look (sf : Bool) {cs : List CallD} {i : Nat} {c : CallD} (hc : hAt cs i = c) (q : (c.kind != 2) = false) : lookB sf cs i = rightB sf cs c := by
  have h1 : (c.kind == 2) = true := by simpa using q
  rw [lookB, hc, h1]; rfl
theorem turnV_is (cs : List CallD) : (turnV cs).2.2 = !(turnAt cs).isNone := by
  unfold turnV
  cases turnAt cs <;> rfl

set_option maxHeartbeats 16000000 in
theorem keeps_safe (s : ByteArray) (hs : s.toList = [115, 97, 102, 101]) (cs : List CallD) (A : Option Addr) (n cap : Nat) (w : World) (hr : RowCalls w A cs) (hn : cs.length = n) (hl : n ≤ 1048576) (hcap : n ≤ cap) (b : Bool) (hb : keepB true false cs = b) :
    Calls Try.prog 38 #[.string s, .slice A n cap] w fun e w' => e = .returned (.bool b) ∧ Below w.heap.size w w' := by
  have HR := Lib.hid hr
  have Hn := Lib.hid hn
  have HW := Lib.hid (fun (b : Bool) (hb : writerB cs = b) => hn ▸ implIsOneWriter_calls cs A cap w hr (by omega) (by omega) b hb)
  clear hr
  cases hw : writerB cs
  · have e1 : b = false := by rw [← hb, keepB, hw]; rfl
    subst e1
    have Hw := Lib.hid hw
    clear hb hw hn
    go_enter Try.func38, Try.ntmps38
    go_wp2_with (go_at_call 32; refine (HW.out _ Hw.out).mono ?_; rintro e w1 ⟨rfl, hb1⟩)
    go_ret
    exact ⟨rfl, hb1⟩
  rw [keepB_split hw, hn] at hb
  have h6 := writerB_len hw
  rw [hn] at h6
  have HV := Lib.hid hb
  have Hw := Lib.hid hw
  clear hb hw hn
  have hlen : (n : Int) ≤ 6 := by omega
  go_enter Try.func38, Try.ntmps38
  go_wp2_with (go_at_call 32; refine (HW.out _ Hw.out).mono ?_; rintro e w1 ⟨rfl, hb1⟩)
  have Hb1 := Lib.hid hb1
  clear hb1
  go_loopw [29] (fun i wr => ∃ k : Nat, k ≤ n ∧ i = .int .i64 k ∧ Below w.heap.size w wr ∧ Hid ((List.range k).all (lookB true cs) = true)) (fun i _ => n - (intOf i).toNat)
  case atStart => exact ⟨0, by omega, rfl, Hb1.out, rfl⟩
  case round =>
    obtain ⟨i, hi, rfl, hb, HG⟩ := hrel
    obtain ⟨wo, rfl⟩ : ∃ wo : World, wo = wr := ⟨_, rfl⟩
    by_cases hlt : i < n
    · obtain ⟨b0, off, rfl, hat⟩ := HR.out (by have := Hn.out; omega)
      obtain ⟨c, hc⟩ : ∃ c, cs[i]? = some c := ⟨cs[i]'(by have := Hn.out; omega), List.getElem?_eq_getElem _⟩
      obtain ⟨x0, x1, x2, x3, x4, x5, x6⟩ := (RowCalls.at7 hat hc).below hb
      have HrowW := Lib.hid HR.out
      have Hat := Lib.hid hat
      have Hc := Lib.hid (hAt_eq hc)
      have Hb := Lib.hid hb
      have HBad := Lib.hid (fun (e : lookB true cs i = false) => show b = false by rw [← HV.out, all_range_false hlt e]; rfl)
      have HOk := Lib.hid (fun (e : lookB true cs i = true) => show Hid ((List.range (i + 1)).all (lookB true cs) = true) by show _ = true; rw [all_range_succ, HG.out, e]; rfl)
      clear HR hat hc hb
      have hi0 : (0 : Int) ≤ (i : Int) := by omega
      have hin : (i : Int) < (n : Int) := by omega
      cases hq : (c.kind != 2)
      · have Hlook := Lib.hid (lookB_look true Hc.out hq)
        obtain ⟨v1, hv1⟩ : ∃ v1, srcB cs c = v1 := ⟨_, rfl⟩
        have Hv1 := Lib.hid hv1
        have hbd1 := srcB_bd cs c
        rw [hv1, Hn.out] at hbd1
        have HS1 := Lib.hid (fun (W : World) (hW : RowCalls W (some ⟨b0, off, none⟩) cs) => sourceOf_calls cs c (some ⟨b0, off, none⟩) n cap W hW Hn.out (by omega) v1 hv1)
        obtain ⟨l, hl2⟩ : ∃ l, lastI cs c n = l := ⟨_, rfl⟩
        have HL := Lib.hid (fun (W : World) (hW : RowCalls W (some ⟨b0, off, none⟩) cs) => lastBefore_calls cs c (some ⟨b0, off, none⟩) n cap W hW Hn.out (by omega) l hl2)
        obtain ⟨fb, hfb⟩ : ∃ fb, (v1 == l) = fb := ⟨_, rfl⟩
        have hfine : fineB cs c = fb := by rw [fineB, hv1, Hn.out, hl2, hfb]
        have Hfb := Lib.hid hfb
        have Hfine := Lib.hid hfine
        have hw0 : Below w.heap.size w (wo.alloc (.cells #[.int .i64 c.proc, .int .i64 c.obj, .int .i64 c.kind, .int .i64 c.arg, .int .i64 c.ret, .int .i64 c.fr, .int .i64 c.till] 45)) := below_alloc Hb.out _
        have Hrow0 := Lib.hid (HrowW.out.below hw0)
        clear hv1 hl2 hfb hfine
        go_wp2_with fail
        clear hq x0 x1 x2 x3 x4 x5 x6
        refine (HS1.out _ Hrow0.out).mono ?_
        rintro e w1 ⟨rfl, hb1⟩
        have hcc1 : At7 w1 wo.heap.size 0 c := by
          refine ⟨?_, ?_, ?_, ?_, ?_, ?_, ?_⟩ <;> (rw [hb1.cell (by simp)]; simp)
        have hbw1 : Below w.heap.size w w1 := below_trans' hw0 hb1
        have hz1 : wo.heap.size < w1.heap.size := by have := hb1.size; simp at this; omega
        have Hcc1 := Lib.hid hcc1
        obtain ⟨x0, x1, x2, x3, x4, x5, x6⟩ := hcc1
        have Hb1 := Lib.hid hbw1
        have Hrow1 := Lib.hid (HrowW.out.below hbw1)
        clear hb1 hbw1 hw0
        go_wp2_with fail
        clear x0 x1 x2 x3 x4 x5 x6
        refine (HL.out _ Hrow1.out).mono ?_
        rintro e w2 ⟨rfl, hb2⟩
        obtain ⟨x0, x1, x2, x3, x4, x5, x6⟩ := Hcc1.out.below hb2
        have hz2 : wo.heap.size < w2.heap.size := Nat.lt_of_lt_of_le hz1 hb2.size
        have hbw2 : Below w.heap.size w w2 := below_trans' Hb1.out hb2
        have Hb2 := Lib.hid hbw2
        have Hrow2 := Lib.hid (HrowW.out.below hbw2)
        clear hb2 hbw2 hz1
        have hfb : (v1 == l) = fb := Hfb.out
        skip
        obtain ⟨mt, hmt⟩ : ∃ mt, overB cs c n = mt := ⟨_, rfl⟩
        have Hmt := Lib.hid (show overB cs c cs.length = mt by rw [Hn.out]; exact hmt)
        have HO := Lib.hid (fun (W : World) (hW : RowCalls W (some ⟨b0, off, none⟩) cs) => overlapsPut_calls cs c (some ⟨b0, off, none⟩) n cap W hW Hn.out (by omega) mt hmt)
        have Hrt := Lib.hid (show rightB true cs c = (fb || mt) by rw [rightB, Hfine.out, Hmt.out]; rfl)
        clear hmt
        cases fb
        · go_wp2_with fail
          refine (HO.out _ Hrow2.out).mono ?_
          rintro e w3 ⟨rfl, hb3⟩
          have Hb3 := Lib.hid (below_trans' Hb2.out hb3)
          clear hb3
          clear x0 x1 x2 x3 x4 x5 x6
          cases mt
          · go_wp2_with fail
            go_ret
            have e2 := HBad.out (by rw [Hlook.out, Hrt.out]; rfl)
            exact ⟨by rw [e2]; rfl, Hb3.out⟩
          · have Hq := HOk.out (by rw [Hlook.out, Hrt.out]; rfl)
            go_wp2_with fail
            go_roundw
            case rel => exact ⟨i + 1, by omega, by go_num, Hb3.out, Hq⟩
            case measure => simp [intOf]; omega
        · have Hq := HOk.out (by rw [Hlook.out, Hrt.out]; rfl)
          go_wp2_with fail
          go_roundw
          case rel => exact ⟨i + 1, by omega, by go_num, Hb2.out, Hq⟩
          case measure => simp [intOf]; omega
      · have Hq := HOk.out (lookB_skip true Hc.out hq)
        go_wp2
        go_roundw
        case rel => exact ⟨i + 1, by omega, by go_num, below_alloc Hb.out _, Hq⟩
        case measure => simp [intOf]; omega
    · have hge : ¬ ((i : Int) < (n : Int)) := by omega
      have hall : (List.range n).all (lookB true cs) = true := by rw [show n = i by omega]; exact HG.out
      have hbv := HV.out
      rw [hall] at hbv
      have Hbv := Lib.hid hbv
      have Hb := Lib.hid hb
      clear hb hall hbv
      have e1 : b = true := by rw [← Hbv.out]; rfl
      subst e1
      go_wp2
      go_ret
      exact ⟨rfl, Hb.out⟩

theorem skeeps_safe (s : ByteArray) (hs : s.toList = [115, 97, 102, 101]) (cs : List CallD) (A : Option Addr) (n cap : Nat) (w : World) (hr : RowCalls w A cs) (hn : cs.length = n) (hl : n ≤ 1048576) (b : Bool) (hb : keepB true false cs = b) :
    Calls Try.prog 37 #[.string s, .slice A n cap] w fun e w' => e = .returned (.bool b) ∧ Below w.heap.size w w' := by
  have HR := Lib.hid hr
  have Hn := Lib.hid hn
  have HW := Lib.hid (fun (b : Bool) (hb : writerB cs = b) => hn ▸ specWriter_calls cs A cap w hr (by omega) b hb)
  clear hr
  cases hw : writerB cs
  · have e1 : b = false := by rw [← hb, keepB, hw]; rfl
    subst e1
    have Hw := Lib.hid hw
    clear hb hw hn
    go_enter Try.func37, Try.ntmps37
    go_wp2_with (go_at_call 58; refine (HW.out _ Hw.out).mono ?_; rintro e w1 ⟨rfl, hb1⟩)
    go_ret
    exact ⟨rfl, hb1⟩
  rw [keepB, hw, hn, Bool.true_and] at hb
  have HV := Lib.hid hb
  have Hw := Lib.hid hw
  have Hs := Lib.hid hs
  clear hb hw hn
  go_enter Try.func37, Try.ntmps37
  go_wp2_with (go_at_call 58; refine (HW.out _ Hw.out).mono ?_; rintro e w1 ⟨rfl, hb1⟩)
  refine (kept_safe s Hs.out cs Hw.out A n cap _ (HR.out.below hb1) Hn.out b HV.out).mono ?_
  rintro e w2 ⟨rfl, hb2⟩
  go_wp2_with fail
  go_ret
  exact ⟨rfl, below_trans' hb1 hb2⟩

set_option maxHeartbeats 16000000 in
theorem keeps_regular (s : ByteArray) (hs : s.toList = [114, 101, 103, 117, 108, 97, 114]) (cs : List CallD) (A : Option Addr) (n cap : Nat) (w : World) (hr : RowCalls w A cs) (hn : cs.length = n) (hl : n ≤ 1048576) (hcap : n ≤ cap) (b : Bool) (hb : keepB false false cs = b) :
    Calls Try.prog 38 #[.string s, .slice A n cap] w fun e w' => e = .returned (.bool b) ∧ Below w.heap.size w w' := by
  have HR := Lib.hid hr
  have Hn := Lib.hid hn
  have HW := Lib.hid (fun (b : Bool) (hb : writerB cs = b) => hn ▸ implIsOneWriter_calls cs A cap w hr (by omega) (by omega) b hb)
  clear hr
  cases hw : writerB cs
  · have e1 : b = false := by rw [← hb, keepB, hw]; rfl
    subst e1
    have Hw := Lib.hid hw
    clear hb hw hn
    go_enter Try.func38, Try.ntmps38
    go_wp2_with (go_at_call 32; refine (HW.out _ Hw.out).mono ?_; rintro e w1 ⟨rfl, hb1⟩)
    go_ret
    exact ⟨rfl, hb1⟩
  rw [keepB_split hw, hn] at hb
  have h6 := writerB_len hw
  rw [hn] at h6
  have HV := Lib.hid hb
  have Hw := Lib.hid hw
  clear hb hw hn
  have hlen : (n : Int) ≤ 6 := by omega
  go_enter Try.func38, Try.ntmps38
  go_wp2_with (go_at_call 32; refine (HW.out _ Hw.out).mono ?_; rintro e w1 ⟨rfl, hb1⟩)
  have Hb1 := Lib.hid hb1
  clear hb1
  go_loopw [29] (fun i wr => ∃ k : Nat, k ≤ n ∧ i = .int .i64 k ∧ Below w.heap.size w wr ∧ Hid ((List.range k).all (lookB false cs) = true)) (fun i _ => n - (intOf i).toNat)
  case atStart => exact ⟨0, by omega, rfl, Hb1.out, rfl⟩
  case round =>
    obtain ⟨i, hi, rfl, hb, HG⟩ := hrel
    obtain ⟨wo, rfl⟩ : ∃ wo : World, wo = wr := ⟨_, rfl⟩
    by_cases hlt : i < n
    · obtain ⟨b0, off, rfl, hat⟩ := HR.out (by have := Hn.out; omega)
      obtain ⟨c, hc⟩ : ∃ c, cs[i]? = some c := ⟨cs[i]'(by have := Hn.out; omega), List.getElem?_eq_getElem _⟩
      obtain ⟨x0, x1, x2, x3, x4, x5, x6⟩ := (RowCalls.at7 hat hc).below hb
      have HrowW := Lib.hid HR.out
      have Hat := Lib.hid hat
      have Hc := Lib.hid (hAt_eq hc)
      have Hb := Lib.hid hb
      have HBad := Lib.hid (fun (e : lookB false cs i = false) => show b = false by rw [← HV.out, all_range_false hlt e]; rfl)
      have HOk := Lib.hid (fun (e : lookB false cs i = true) => show Hid ((List.range (i + 1)).all (lookB false cs) = true) by show _ = true; rw [all_range_succ, HG.out, e]; rfl)
      clear HR hat hc hb
      have hi0 : (0 : Int) ≤ (i : Int) := by omega
      have hin : (i : Int) < (n : Int) := by omega
      cases hq : (c.kind != 2)
      · have Hlook := Lib.hid (lookB_look false Hc.out hq)
        obtain ⟨v1, hv1⟩ : ∃ v1, srcB cs c = v1 := ⟨_, rfl⟩
        have Hv1 := Lib.hid hv1
        have hbd1 := srcB_bd cs c
        rw [hv1, Hn.out] at hbd1
        have HS1 := Lib.hid (fun (W : World) (hW : RowCalls W (some ⟨b0, off, none⟩) cs) => sourceOf_calls cs c (some ⟨b0, off, none⟩) n cap W hW Hn.out (by omega) v1 hv1)
        obtain ⟨l, hl2⟩ : ∃ l, lastI cs c n = l := ⟨_, rfl⟩
        have HL := Lib.hid (fun (W : World) (hW : RowCalls W (some ⟨b0, off, none⟩) cs) => lastBefore_calls cs c (some ⟨b0, off, none⟩) n cap W hW Hn.out (by omega) l hl2)
        obtain ⟨fb, hfb⟩ : ∃ fb, (v1 == l) = fb := ⟨_, rfl⟩
        have hfine : fineB cs c = fb := by rw [fineB, hv1, Hn.out, hl2, hfb]
        have Hfb := Lib.hid hfb
        have Hfine := Lib.hid hfine
        have hw0 : Below w.heap.size w (wo.alloc (.cells #[.int .i64 c.proc, .int .i64 c.obj, .int .i64 c.kind, .int .i64 c.arg, .int .i64 c.ret, .int .i64 c.fr, .int .i64 c.till] 45)) := below_alloc Hb.out _
        have Hrow0 := Lib.hid (HrowW.out.below hw0)
        clear hv1 hl2 hfb hfine
        go_wp2_with fail
        clear hq x0 x1 x2 x3 x4 x5 x6
        refine (HS1.out _ Hrow0.out).mono ?_
        rintro e w1 ⟨rfl, hb1⟩
        have hcc1 : At7 w1 wo.heap.size 0 c := by
          refine ⟨?_, ?_, ?_, ?_, ?_, ?_, ?_⟩ <;> (rw [hb1.cell (by simp)]; simp)
        have hbw1 : Below w.heap.size w w1 := below_trans' hw0 hb1
        have hz1 : wo.heap.size < w1.heap.size := by have := hb1.size; simp at this; omega
        have Hcc1 := Lib.hid hcc1
        obtain ⟨x0, x1, x2, x3, x4, x5, x6⟩ := hcc1
        have Hb1 := Lib.hid hbw1
        have Hrow1 := Lib.hid (HrowW.out.below hbw1)
        clear hb1 hbw1 hw0
        go_wp2_with fail
        clear x0 x1 x2 x3 x4 x5 x6
        refine (HL.out _ Hrow1.out).mono ?_
        rintro e w2 ⟨rfl, hb2⟩
        obtain ⟨x0, x1, x2, x3, x4, x5, x6⟩ := Hcc1.out.below hb2
        have hz2 : wo.heap.size < w2.heap.size := Nat.lt_of_lt_of_le hz1 hb2.size
        have hbw2 : Below w.heap.size w w2 := below_trans' Hb1.out hb2
        have Hb2 := Lib.hid hbw2
        have Hrow2 := Lib.hid (HrowW.out.below hbw2)
        clear hb2 hbw2 hz1
        have hfb : (v1 == l) = fb := Hfb.out
        go_wp2_with fail
        have hat4 : ∀ m : Nat, m < n → ∃ q, hAt cs m = q ∧ At7 w2 b0 (off + m * 7) q := by
          intro m hm
          have hg : cs[m]? = some (cs[m]'(by have := Hn.out; omega)) := List.getElem?_eq_getElem _
          exact ⟨_, hAt_eq hg, RowCalls.at7 Hat.out hg |>.below Hb2.out⟩
        have Hrt := Lib.hid (show rightB false cs c = (fb || besideB cs c) by rw [rightB, Hfine.out]; rfl)
        clear hfb
        cases fb
        · rcases src_ways v1 hbd1.1 with e1 | e1 | ⟨m1, e1⟩
          · have e2 := HBad.out (by rw [Hlook.out, Hrt.out, besideB, Hv1.out, e1]; rfl)
            subst e1
            clear hat4
            refine wp_region_grow (by kernel_rfl) (by kernel_rfl) ?_
            repeat (go_big_quiet_step (fail))
            refine wpQuiet_end ?_
            intro w6 hb6
            have Hb6 := Lib.hid (below_trans' Hb2.out hb6)
            clear hb6
            clear x0 x1 x2 x3 x4 x5 x6
            go_wp2_with fail
            go_ret
            exact ⟨by rw [e2]; rfl, Hb6.out⟩
          · have e2 := HBad.out (by rw [Hlook.out, Hrt.out, besideB, Hv1.out, e1]; rfl)
            subst e1
            clear hat4
            refine wp_region_grow (by kernel_rfl) (by kernel_rfl) ?_
            repeat (go_big_quiet_step (fail))
            refine wpQuiet_end ?_
            intro w6 hb6
            have Hb6 := Lib.hid (below_trans' Hb2.out hb6)
            clear hb6
            clear x0 x1 x2 x3 x4 x5 x6
            go_wp2_with fail
            go_ret
            exact ⟨by rw [e2]; rfl, Hb6.out⟩
          · obtain ⟨q, hqe, z0, z1, z2, z3, z4, z5, z6⟩ := hat4 m1 (by omega)
            have hbz : b0 < w2.heap.size := World.block_lt_of_cell? _ _ z0
            obtain ⟨p1, hp1⟩ : ∃ b, lapB q c = b := ⟨_, rfl⟩
            have hbe0 : besideB cs c = p1 := by rw [besideB, Hv1.out, e1, Int.toNat_natCast, hqe, hp1, decide_eq_true (by omega)]; rfl
            have Hp1 := Lib.hid hp1
            rw [hbe0] at Hrt
            subst e1
            clear hat4 hbe0 hp1 hqe
            have hm0 : (0 : Int) ≤ (m1 : Int) := by omega
            have hm1 : (m1 : Int) < (n : Int) := by omega
            cases p1
            · have e2 := HBad.out (by rw [Hlook.out, Hrt.out]; rfl)
              refine wp_region_grow (by kernel_rfl) (by kernel_rfl) ?_
              repeat (go_big_quiet_step ((go_at_call 67; exact Calls.ext_of (Nat.le_refl _) (implDoOverlap_calls q c _ Hp1.out _))))
              refine wpQuiet_end ?_
              intro w6 hb6
              have Hb6 := Lib.hid (below_trans' Hb2.out hb6)
              clear hb6
              clear x0 x1 x2 x3 x4 x5 x6
              go_wp2_with fail
              go_ret
              exact ⟨by rw [e2]; rfl, Hb6.out⟩
            · have Hq := HOk.out (by rw [Hlook.out, Hrt.out]; rfl)
              refine wp_region_grow (by kernel_rfl) (by kernel_rfl) ?_
              repeat (go_big_quiet_step ((go_at_call 67; exact Calls.ext_of (Nat.le_refl _) (implDoOverlap_calls q c _ Hp1.out _))))
              refine wpQuiet_end ?_
              intro w6 hb6
              have Hb6 := Lib.hid (below_trans' Hb2.out hb6)
              clear hb6
              clear x0 x1 x2 x3 x4 x5 x6
              go_wp2_with fail
              go_roundw
              case rel => exact ⟨i + 1, by omega, by go_num, Hb6.out, Hq⟩
              case measure => simp [intOf]; omega
        · have Hq := HOk.out (by rw [Hlook.out, Hrt.out]; rfl)
          clear hat4
          refine wp_region_grow (by kernel_rfl) (by kernel_rfl) ?_
          repeat (go_big_quiet_step (fail))
          refine wpQuiet_end ?_
          intro w6 hb6
          have Hb6 := Lib.hid (below_trans' Hb2.out hb6)
          clear hb6
          clear x0 x1 x2 x3 x4 x5 x6
          go_wp2_with fail
          go_roundw
          case rel => exact ⟨i + 1, by omega, by go_num, Hb6.out, Hq⟩
          case measure => simp [intOf]; omega
      · have Hq := HOk.out (lookB_skip false Hc.out hq)
        go_wp2
        go_roundw
        case rel => exact ⟨i + 1, by omega, by go_num, below_alloc Hb.out _, Hq⟩
        case measure => simp [intOf]; omega
    · have hge : ¬ ((i : Int) < (n : Int)) := by omega
      have hall : (List.range n).all (lookB false cs) = true := by rw [show n = i by omega]; exact HG.out
      have hbv := HV.out
      rw [hall] at hbv
      have Hbv := Lib.hid hbv
      have Hb := Lib.hid hb
      clear hb hall hbv
      have e1 : b = true := by rw [← Hbv.out]; rfl
      subst e1
      go_wp2
      go_ret
      exact ⟨rfl, Hb.out⟩

theorem skeeps_regular (s : ByteArray) (hs : s.toList = [114, 101, 103, 117, 108, 97, 114]) (cs : List CallD) (A : Option Addr) (n cap : Nat) (w : World) (hr : RowCalls w A cs) (hn : cs.length = n) (hl : n ≤ 1048576) (b : Bool) (hb : keepB false false cs = b) :
    Calls Try.prog 37 #[.string s, .slice A n cap] w fun e w' => e = .returned (.bool b) ∧ Below w.heap.size w w' := by
  have HR := Lib.hid hr
  have Hn := Lib.hid hn
  have HW := Lib.hid (fun (b : Bool) (hb : writerB cs = b) => hn ▸ specWriter_calls cs A cap w hr (by omega) b hb)
  clear hr
  cases hw : writerB cs
  · have e1 : b = false := by rw [← hb, keepB, hw]; rfl
    subst e1
    have Hw := Lib.hid hw
    clear hb hw hn
    go_enter Try.func37, Try.ntmps37
    go_wp2_with (go_at_call 58; refine (HW.out _ Hw.out).mono ?_; rintro e w1 ⟨rfl, hb1⟩)
    go_ret
    exact ⟨rfl, hb1⟩
  rw [keepB, hw, hn, Bool.true_and] at hb
  have HV := Lib.hid hb
  have Hw := Lib.hid hw
  have Hs := Lib.hid hs
  clear hb hw hn
  go_enter Try.func37, Try.ntmps37
  go_wp2_with (go_at_call 58; refine (HW.out _ Hw.out).mono ?_; rintro e w1 ⟨rfl, hb1⟩)
  refine (kept_regular s Hs.out cs Hw.out A n cap _ (HR.out.below hb1) Hn.out b HV.out).mono ?_
  rintro e w2 ⟨rfl, hb2⟩
  go_wp2_with fail
  go_ret
  exact ⟨rfl, below_trans' hb1 hb2⟩

set_option maxHeartbeats 16000000 in
theorem keeps_atomic (s : ByteArray) (hs : s.toList = [97, 116, 111, 109, 105, 99]) (cs : List CallD) (A : Option Addr) (n cap : Nat) (w : World) (hr : RowCalls w A cs) (hn : cs.length = n) (hl : n ≤ 1048576) (hcap : n ≤ cap) (b : Bool) (hb : keepB false true cs = b) :
    Calls Try.prog 38 #[.string s, .slice A n cap] w fun e w' => e = .returned (.bool b) ∧ Below w.heap.size w w' := by
  have HR := Lib.hid hr
  have Hn := Lib.hid hn
  have HW := Lib.hid (fun (b : Bool) (hb : writerB cs = b) => hn ▸ implIsOneWriter_calls cs A cap w hr (by omega) (by omega) b hb)
  clear hr
  cases hw : writerB cs
  · have e1 : b = false := by rw [← hb, keepB, hw]; rfl
    subst e1
    have Hw := Lib.hid hw
    clear hb hw hn
    go_enter Try.func38, Try.ntmps38
    go_wp2_with (go_at_call 32; refine (HW.out _ Hw.out).mono ?_; rintro e w1 ⟨rfl, hb1⟩)
    go_ret
    exact ⟨rfl, hb1⟩
  rw [keepB_split hw, hn] at hb
  have h6 := writerB_len hw
  rw [hn] at h6
  have HV := Lib.hid hb
  have Hw := Lib.hid hw
  clear hb hw hn
  have hlen : (n : Int) ≤ 6 := by omega
  go_enter Try.func38, Try.ntmps38
  go_wp2_with (go_at_call 32; refine (HW.out _ Hw.out).mono ?_; rintro e w1 ⟨rfl, hb1⟩)
  have Hb1 := Lib.hid hb1
  clear hb1
  go_loopw [29] (fun i wr => ∃ k : Nat, k ≤ n ∧ i = .int .i64 k ∧ Below w.heap.size w wr ∧ Hid ((List.range k).all (lookB false cs) = true)) (fun i _ => n - (intOf i).toNat)
  case atStart => exact ⟨0, by omega, rfl, Hb1.out, rfl⟩
  case round =>
    obtain ⟨i, hi, rfl, hb, HG⟩ := hrel
    obtain ⟨wo, rfl⟩ : ∃ wo : World, wo = wr := ⟨_, rfl⟩
    by_cases hlt : i < n
    · obtain ⟨b0, off, rfl, hat⟩ := HR.out (by have := Hn.out; omega)
      obtain ⟨c, hc⟩ : ∃ c, cs[i]? = some c := ⟨cs[i]'(by have := Hn.out; omega), List.getElem?_eq_getElem _⟩
      obtain ⟨x0, x1, x2, x3, x4, x5, x6⟩ := (RowCalls.at7 hat hc).below hb
      have HrowW := Lib.hid HR.out
      have Hat := Lib.hid hat
      have Hc := Lib.hid (hAt_eq hc)
      have Hb := Lib.hid hb
      have HBad := Lib.hid (fun (e : lookB false cs i = false) => show b = false by rw [← HV.out, all_range_false hlt e]; rfl)
      have HOk := Lib.hid (fun (e : lookB false cs i = true) => show Hid ((List.range (i + 1)).all (lookB false cs) = true) by show _ = true; rw [all_range_succ, HG.out, e]; rfl)
      clear HR hat hc hb
      have hi0 : (0 : Int) ≤ (i : Int) := by omega
      have hin : (i : Int) < (n : Int) := by omega
      cases hq : (c.kind != 2)
      · have Hlook := Lib.hid (lookB_look false Hc.out hq)
        obtain ⟨v1, hv1⟩ : ∃ v1, srcB cs c = v1 := ⟨_, rfl⟩
        have Hv1 := Lib.hid hv1
        have hbd1 := srcB_bd cs c
        rw [hv1, Hn.out] at hbd1
        have HS1 := Lib.hid (fun (W : World) (hW : RowCalls W (some ⟨b0, off, none⟩) cs) => sourceOf_calls cs c (some ⟨b0, off, none⟩) n cap W hW Hn.out (by omega) v1 hv1)
        obtain ⟨l, hl2⟩ : ∃ l, lastI cs c n = l := ⟨_, rfl⟩
        have HL := Lib.hid (fun (W : World) (hW : RowCalls W (some ⟨b0, off, none⟩) cs) => lastBefore_calls cs c (some ⟨b0, off, none⟩) n cap W hW Hn.out (by omega) l hl2)
        obtain ⟨fb, hfb⟩ : ∃ fb, (v1 == l) = fb := ⟨_, rfl⟩
        have hfine : fineB cs c = fb := by rw [fineB, hv1, Hn.out, hl2, hfb]
        have Hfb := Lib.hid hfb
        have Hfine := Lib.hid hfine
        have hw0 : Below w.heap.size w (wo.alloc (.cells #[.int .i64 c.proc, .int .i64 c.obj, .int .i64 c.kind, .int .i64 c.arg, .int .i64 c.ret, .int .i64 c.fr, .int .i64 c.till] 45)) := below_alloc Hb.out _
        have Hrow0 := Lib.hid (HrowW.out.below hw0)
        clear hv1 hl2 hfb hfine
        go_wp2_with fail
        clear hq x0 x1 x2 x3 x4 x5 x6
        refine (HS1.out _ Hrow0.out).mono ?_
        rintro e w1 ⟨rfl, hb1⟩
        have hcc1 : At7 w1 wo.heap.size 0 c := by
          refine ⟨?_, ?_, ?_, ?_, ?_, ?_, ?_⟩ <;> (rw [hb1.cell (by simp)]; simp)
        have hbw1 : Below w.heap.size w w1 := below_trans' hw0 hb1
        have hz1 : wo.heap.size < w1.heap.size := by have := hb1.size; simp at this; omega
        have Hcc1 := Lib.hid hcc1
        obtain ⟨x0, x1, x2, x3, x4, x5, x6⟩ := hcc1
        have Hb1 := Lib.hid hbw1
        have Hrow1 := Lib.hid (HrowW.out.below hbw1)
        clear hb1 hbw1 hw0
        go_wp2_with fail
        clear x0 x1 x2 x3 x4 x5 x6
        refine (HL.out _ Hrow1.out).mono ?_
        rintro e w2 ⟨rfl, hb2⟩
        obtain ⟨x0, x1, x2, x3, x4, x5, x6⟩ := Hcc1.out.below hb2
        have hz2 : wo.heap.size < w2.heap.size := Nat.lt_of_lt_of_le hz1 hb2.size
        have hbw2 : Below w.heap.size w w2 := below_trans' Hb1.out hb2
        have Hb2 := Lib.hid hbw2
        have Hrow2 := Lib.hid (HrowW.out.below hbw2)
        clear hb2 hbw2 hz1
        have hfb : (v1 == l) = fb := Hfb.out
        go_wp2_with fail
        have hat4 : ∀ m : Nat, m < n → ∃ q, hAt cs m = q ∧ At7 w2 b0 (off + m * 7) q := by
          intro m hm
          have hg : cs[m]? = some (cs[m]'(by have := Hn.out; omega)) := List.getElem?_eq_getElem _
          exact ⟨_, hAt_eq hg, RowCalls.at7 Hat.out hg |>.below Hb2.out⟩
        have Hrt := Lib.hid (show rightB false cs c = (fb || besideB cs c) by rw [rightB, Hfine.out]; rfl)
        clear hfb
        cases fb
        · rcases src_ways v1 hbd1.1 with e1 | e1 | ⟨m1, e1⟩
          · have e2 := HBad.out (by rw [Hlook.out, Hrt.out, besideB, Hv1.out, e1]; rfl)
            subst e1
            clear hat4
            refine wp_region_grow (by kernel_rfl) (by kernel_rfl) ?_
            repeat (go_big_quiet_step (fail))
            refine wpQuiet_end ?_
            intro w6 hb6
            have Hb6 := Lib.hid (below_trans' Hb2.out hb6)
            clear hb6
            clear x0 x1 x2 x3 x4 x5 x6
            go_wp2_with fail
            go_ret
            exact ⟨by rw [e2]; rfl, Hb6.out⟩
          · have e2 := HBad.out (by rw [Hlook.out, Hrt.out, besideB, Hv1.out, e1]; rfl)
            subst e1
            clear hat4
            refine wp_region_grow (by kernel_rfl) (by kernel_rfl) ?_
            repeat (go_big_quiet_step (fail))
            refine wpQuiet_end ?_
            intro w6 hb6
            have Hb6 := Lib.hid (below_trans' Hb2.out hb6)
            clear hb6
            clear x0 x1 x2 x3 x4 x5 x6
            go_wp2_with fail
            go_ret
            exact ⟨by rw [e2]; rfl, Hb6.out⟩
          · obtain ⟨q, hqe, z0, z1, z2, z3, z4, z5, z6⟩ := hat4 m1 (by omega)
            have hbz : b0 < w2.heap.size := World.block_lt_of_cell? _ _ z0
            obtain ⟨p1, hp1⟩ : ∃ b, lapB q c = b := ⟨_, rfl⟩
            have hbe0 : besideB cs c = p1 := by rw [besideB, Hv1.out, e1, Int.toNat_natCast, hqe, hp1, decide_eq_true (by omega)]; rfl
            have Hp1 := Lib.hid hp1
            rw [hbe0] at Hrt
            subst e1
            clear hat4 hbe0 hp1 hqe
            have hm0 : (0 : Int) ≤ (m1 : Int) := by omega
            have hm1 : (m1 : Int) < (n : Int) := by omega
            cases p1
            · have e2 := HBad.out (by rw [Hlook.out, Hrt.out]; rfl)
              refine wp_region_grow (by kernel_rfl) (by kernel_rfl) ?_
              repeat (go_big_quiet_step ((go_at_call 67; exact Calls.ext_of (Nat.le_refl _) (implDoOverlap_calls q c _ Hp1.out _))))
              refine wpQuiet_end ?_
              intro w6 hb6
              have Hb6 := Lib.hid (below_trans' Hb2.out hb6)
              clear hb6
              clear x0 x1 x2 x3 x4 x5 x6
              go_wp2_with fail
              go_ret
              exact ⟨by rw [e2]; rfl, Hb6.out⟩
            · have Hq := HOk.out (by rw [Hlook.out, Hrt.out]; rfl)
              refine wp_region_grow (by kernel_rfl) (by kernel_rfl) ?_
              repeat (go_big_quiet_step ((go_at_call 67; exact Calls.ext_of (Nat.le_refl _) (implDoOverlap_calls q c _ Hp1.out _))))
              refine wpQuiet_end ?_
              intro w6 hb6
              have Hb6 := Lib.hid (below_trans' Hb2.out hb6)
              clear hb6
              clear x0 x1 x2 x3 x4 x5 x6
              go_wp2_with fail
              go_roundw
              case rel => exact ⟨i + 1, by omega, by go_num, Hb6.out, Hq⟩
              case measure => simp [intOf]; omega
        · have Hq := HOk.out (by rw [Hlook.out, Hrt.out]; rfl)
          clear hat4
          refine wp_region_grow (by kernel_rfl) (by kernel_rfl) ?_
          repeat (go_big_quiet_step (fail))
          refine wpQuiet_end ?_
          intro w6 hb6
          have Hb6 := Lib.hid (below_trans' Hb2.out hb6)
          clear hb6
          clear x0 x1 x2 x3 x4 x5 x6
          go_wp2_with fail
          go_roundw
          case rel => exact ⟨i + 1, by omega, by go_num, Hb6.out, Hq⟩
          case measure => simp [intOf]; omega
      · have Hq := HOk.out (lookB_skip false Hc.out hq)
        go_wp2
        go_roundw
        case rel => exact ⟨i + 1, by omega, by go_num, below_alloc Hb.out _, Hq⟩
        case measure => simp [intOf]; omega
    · have hge : ¬ ((i : Int) < (n : Int)) := by omega
      have hall : (List.range n).all (lookB false cs) = true := by rw [show n = i by omega]; exact HG.out
      have hbv := HV.out
      rw [hall] at hbv
      have Hbv := Lib.hid hbv
      have Hb := Lib.hid hb
      clear hb hall hbv
      obtain ⟨v, hv⟩ : ∃ v, turnV cs = v := ⟨_, rfl⟩
      have Hv := Lib.hid hv
      have e1 : b = !v.2.2 := by rw [← Hbv.out, ← hv, turnV_is, Bool.not_not]; rfl
      subst e1
      have HT := Lib.hid (fun (W : World) (hW : RowCalls W A cs) => turnOf_calls cs A n cap W hW Hn.out (by omega) v hv)
      clear hv
      obtain ⟨a1, a2, a3⟩ := v
      go_wp2_with fail
      refine (HT.out _ (HR.out.below Hb.out)).mono ?_
      rintro e w5 ⟨rfl, hb5⟩
      unfold tripV
      go_wp2_with fail
      go_ret
      exact ⟨rfl, below_trans' Hb.out hb5⟩

theorem skeeps_atomic (s : ByteArray) (hs : s.toList = [97, 116, 111, 109, 105, 99]) (cs : List CallD) (A : Option Addr) (n cap : Nat) (w : World) (hr : RowCalls w A cs) (hn : cs.length = n) (hl : n ≤ 1048576) (b : Bool) (hb : keepB false true cs = b) :
    Calls Try.prog 37 #[.string s, .slice A n cap] w fun e w' => e = .returned (.bool b) ∧ Below w.heap.size w w' := by
  have HR := Lib.hid hr
  have Hn := Lib.hid hn
  have HW := Lib.hid (fun (b : Bool) (hb : writerB cs = b) => hn ▸ specWriter_calls cs A cap w hr (by omega) b hb)
  clear hr
  cases hw : writerB cs
  · have e1 : b = false := by rw [← hb, keepB, hw]; rfl
    subst e1
    have Hw := Lib.hid hw
    clear hb hw hn
    go_enter Try.func37, Try.ntmps37
    go_wp2_with (go_at_call 58; refine (HW.out _ Hw.out).mono ?_; rintro e w1 ⟨rfl, hb1⟩)
    go_ret
    exact ⟨rfl, hb1⟩
  rw [keepB, hw, hn, Bool.true_and] at hb
  have HV := Lib.hid hb
  have Hw := Lib.hid hw
  have Hs := Lib.hid hs
  clear hb hw hn
  go_enter Try.func37, Try.ntmps37
  go_wp2_with (go_at_call 58; refine (HW.out _ Hw.out).mono ?_; rintro e w1 ⟨rfl, hb1⟩)
  refine (kept_atomic s Hs.out cs Hw.out A n cap _ (HR.out.below hb1) Hn.out b HV.out).mono ?_
  rintro e w2 ⟨rfl, hb2⟩
  go_wp2_with fail
  go_ret
  exact ⟨rfl, below_trans' hb1 hb2⟩

theorem keeps_none (s : ByteArray) (h1 : ¬ s.toList = [115, 97, 102, 101]) (h2 : ¬ s.toList = [114, 101, 103, 117, 108, 97, 114]) (h3 : ¬ s.toList = [97, 116, 111, 109, 105, 99]) (cs : List CallD) (A : Option Addr) (n cap : Nat) (w : World) (hr : RowCalls w A cs) (hn : cs.length = n) (hl : n ≤ 1048576) (hcap : n ≤ cap) :
    Calls Try.prog 38 #[.string s, .slice A n cap] w fun e w' => e = .returned (.bool false) ∧ Below w.heap.size w w' := by
  obtain ⟨b, hb⟩ : ∃ b, writerB cs = b := ⟨_, rfl⟩
  have HW := Lib.hid (hn ▸ implIsOneWriter_calls cs A cap w hr (by omega) (by omega) b hb)
  have g1 : (!s.toList == [115, 97, 102, 101]) = true := by simpa using h1
  have g2 : (!s.toList == [114, 101, 103, 117, 108, 97, 114]) = true := by simpa using h2
  have g3 : (!s.toList == [97, 116, 111, 109, 105, 99]) = true := by simpa using h3
  clear hb hn hr h1 h2 h3
  cases b
  all_goals
    go_enter Try.func38, Try.ntmps38
    go_wp2_with (go_at_call 32; refine HW.out.mono ?_; rintro e w1 ⟨rfl, hb1⟩)
    go_ret
    exact ⟨rfl, hb1⟩
theorem skeeps_none (s : ByteArray) (h1 : ¬ s.toList = [115, 97, 102, 101]) (h2 : ¬ s.toList = [114, 101, 103, 117, 108, 97, 114]) (h3 : ¬ s.toList = [97, 116, 111, 109, 105, 99]) (A : Option Addr) (n cap : Nat) (w : World) :
    Calls Try.prog 37 #[.string s, .slice A n cap] w fun e w' => e = .returned (.bool false) ∧ Below w.heap.size w w' := by
  go_enter Try.func37, Try.ntmps37
  go_wp2_with fail
  go_ret
  exact ⟨rfl, Below.refl _ _⟩

/-- What KeepsRegister says of a promise's name. -/
def keepsV (s : ByteArray) (cs : List CallD) : Bool := if s.toList = [115, 97, 102, 101] then keepB true false cs else if s.toList = [114, 101, 103, 117, 108, 97, 114] then keepB false false cs else if s.toList = [97, 116, 111, 109, 105, 99] then keepB false true cs else false
theorem implKeepsRegister_calls (s : ByteArray) (cs : List CallD) (A : Option Addr) (n cap : Nat) (w : World) (hr : RowCalls w A cs) (hn : cs.length = n) (hl : n ≤ 1048576) (hcap : n ≤ cap) (b : Bool) (hb : keepsV s cs = b) :
    Calls Try.prog 38 #[.string s, .slice A n cap] w fun e w' => e = .returned (.bool b) ∧ Below w.heap.size w w' := by
  unfold keepsV at hb
  by_cases h1 : s.toList = [115, 97, 102, 101]
  · rw [if_pos h1] at hb; exact keeps_safe s h1 cs A n cap w hr hn hl hcap b hb
  by_cases h2 : s.toList = [114, 101, 103, 117, 108, 97, 114]
  · rw [if_neg h1, if_pos h2] at hb; exact keeps_regular s h2 cs A n cap w hr hn hl hcap b hb
  by_cases h3 : s.toList = [97, 116, 111, 109, 105, 99]
  · rw [if_neg h1, if_neg h2, if_pos h3] at hb; exact keeps_atomic s h3 cs A n cap w hr hn hl hcap b hb
  · rw [if_neg h1, if_neg h2, if_neg h3] at hb
    subst hb
    exact keeps_none s h1 h2 h3 cs A n cap w hr hn hl hcap
theorem specKeepsRegister_calls (s : ByteArray) (cs : List CallD) (A : Option Addr) (n cap : Nat) (w : World) (hr : RowCalls w A cs) (hn : cs.length = n) (hl : n ≤ 1048576) (b : Bool) (hb : keepsV s cs = b) :
    Calls Try.prog 37 #[.string s, .slice A n cap] w fun e w' => e = .returned (.bool b) ∧ Below w.heap.size w w' := by
  unfold keepsV at hb
  by_cases h1 : s.toList = [115, 97, 102, 101]
  · rw [if_pos h1] at hb; exact skeeps_safe s h1 cs A n cap w hr hn hl b hb
  by_cases h2 : s.toList = [114, 101, 103, 117, 108, 97, 114]
  · rw [if_neg h1, if_pos h2] at hb; exact skeeps_regular s h2 cs A n cap w hr hn hl b hb
  by_cases h3 : s.toList = [97, 116, 111, 109, 105, 99]
  · rw [if_neg h1, if_neg h2, if_pos h3] at hb; exact skeeps_atomic s h3 cs A n cap w hr hn hl b hb
  · rw [if_neg h1, if_neg h2, if_neg h3] at hb
    subst hb
    exact skeeps_none s h1 h2 h3 A n cap w
end Go.Proofs.Ytoeecaeaobfhmaa
