/-
  What IsCausal answers, of the program and of the reference. No condition but lengths of at most 2 to the 20.
-/
import Derived.Test.YtooigcfdkmgjnaaAddS
import Derived.Test.YtooigcfdkmgjnaaCau
import Derived.Test.YtooigcfdkmgjnaaAcc
namespace Go.Proofs.Ytooigcfdkmgjnaa
open Go.RowKit
set_option maxRecDepth 100000

theorem needK_lt {more start m : Nat} {L : List Nat} (hs : start < 2 ^ m) (hL : ∀ j, L.getD j 0 < 2 ^ m) : ∀ n, needK more L start n < 2 ^ m
  | 0 => hs
  | n + 1 => by
    have ih := needK_lt (more := more) hs hL n
    rw [needK]
    split
    · exact Nat.or_lt_two_pow ih (hL n)
    · exact ih
theorem ne_zero_sub (m s : Nat) : ((((m ^^^ (m &&& s) : Nat)) : Int) != 0) = !subN m s := by
  by_cases h : m &&& s = m
  · have h0 := (xor_and_zero m s).2 h
    simp [subN, h]
  · have h0 : ¬ (m ^^^ (m &&& s) = 0) := fun e => h ((xor_and_zero m s).1 e)
    have h1 : (m &&& s == m) = false := by simpa using h
    rw [subN, h1]
    simp only [Bool.not_false, bne_iff_ne, ne_eq]
    omega

theorem ne_sub (m s : Nat) : (((m &&& s : Nat) : Int) != (m : Int)) = !subN m s := by
  rw [subN, bne]
  congr 1
  rw [Bool.eq_iff_iff, beq_iff_eq, beq_iff_eq]
  omega

set_option maxHeartbeats 2000000 in
theorem implIsCausal_calls (cs : List AccessD) (A : Option Addr) (cap : Nat) (w : World) (hr : RowAccesss w A cs) (hl : cs.length ≤ 1048576) (hcap : cs.length ≤ cap) (b : Bool) (hb : causalB cs = b) :
    Calls Try.prog 20 #[.slice A cs.length cap] w fun e w' => e = .returned (.bool b) ∧ Below w.heap.size w w' := by
  have HR := Lib.hid hr
  clear hr
  cases hv : accB cs
  · have e1 : b = false := by rw [← hb]; simp [causalB, hv]
    subst e1
    have HV := Lib.hid hv
    clear hv hb
    go_enter Try.func20, Try.ntmps20
    go_wp2_with (go_at_call 16; refine (implValidAccesses_calls cs A cap _ HR.out hl hcap false HV.out).mono ?_; rintro e w1 ⟨rfl, hb1⟩)
    go_ret
    exact ⟨rfl, hb1⟩
  · have HV := Lib.hid hv
    have HQ := Lib.hid hb
    have h6 := accB_len hv
    have HA := Lib.hid (add_step cs hv w.heap.size)
    have HS := Lib.hid (fun (i : Nat) (c : AccessD) (hc : cs[i]? = some c) => acc_session hv hc)
    have HN := Lib.hid (fun (i : Nat) (c : AccessD) (hc : cs[i]? = some c) => acc_seen hv hc)
    have HT := Lib.hid (wrN_ten hv)
    have HSL := Lib.hid (seenK_lt hv)
    clear hv hb
    go_enter Try.func20, Try.ntmps20
    go_wp2_with (go_at_call 16; refine (implValidAccesses_calls cs A cap _ HR.out hl hcap true HV.out).mono ?_; rintro e w1 ⟨rfl, hb1⟩)
    have hs0 := sess_start w1 w.heap.size hb1.size cs
    have hbs : Below w.heap.size w (w1.alloc (.cells #[.int .i64 0, .int .i64 0, .int .i64 0, .int .i64 0, .int .i64 0, .int .i64 0, .slice none 0 0, .slice none 0 0, .slice none 0 0] 57)) := below_alloc hb1 _
    generalize hn : cs.length = n at *
    have Hn := Lib.hid hn
    clear hn
    have hlen : (n : Int) ≤ 10 := by omega
    go_loopw [13] (fun i wr => ∃ k : Nat, k ≤ n ∧ i = .int .i64 k ∧ SessAt wr w.heap.size w1.heap.size cs k ∧ Below w.heap.size w wr ∧ Hid ((List.range k).all (causRow cs) = true)) (fun i _ => n - (intOf i).toNat)
    case atStart => exact ⟨0, by omega, rfl, hs0, hbs, rfl⟩
    case round =>
      clear hs0 hbs
      obtain ⟨i, hi, rfl, hk, hb, HG⟩ := hrel
      by_cases hlt : i < n
      · obtain ⟨b0, off, rfl, hat⟩ := HR.out (by have := Hn.out; omega)
        obtain ⟨c, hc⟩ : ∃ c, cs[i]? = some c := ⟨cs[i]'(by have := Hn.out; omega), List.getElem?_eq_getElem _⟩
        obtain ⟨s, hse, hs3⟩ := HS.out i c hc
        obtain ⟨sn, hsn, hsnl⟩ := HN.out i c hc
        have hcr : causRow cs i = (c.write || subN ((mineK cs (s : Int) i ||| seenK cs (s : Int) i) ||| cauK sn (cauN cs i) sn (wrN cs i)) sn) := by
          rw [causRow, aAt_eq hc, nearN_eq hc, seenN, aAt_eq hc, hse, hsn]; rfl
        obtain ⟨x0, x1, x2⟩ := (RowAccesss.at_ hat hc).below hb
        obtain ⟨Ar, cr, Af, cf, Ac, cc, hm, hh, _, _, c8, _, _, rc, _, hgz, _⟩ := hk.cells
        have cm := hm s hs3
        have ch := hh s hs3
        have hten := HT.out i
        have hp : 2 ^ wrN cs i ≤ 2 ^ 10 := Nat.pow_le_pow_right (by omega) hten
        have lm := mineK_lt cs (s : Int) i (by have := Hn.out; omega)
        have lh := HSL.out (s : Int) i (by have := Hn.out; omega)
        have hcl := cauN_len cs i (by have := Hn.out; omega)
        have hcv := cauN_lt cs i (by have := Hn.out; omega)
        have hck : cauK sn (cauN cs i) sn (wrN cs i) < 2 ^ 10 := cauK_lt _ _ _ _ (by omega) (fun j => by have := hcv j; omega) _
        have lo : mineK cs (s : Int) i ||| seenK cs (s : Int) i < 2 ^ 10 := Nat.or_lt_two_pow (by omega) (by omega)
        have lo2 : (mineK cs (s : Int) i ||| seenK cs (s : Int) i) ||| cauK sn (cauN cs i) sn (wrN cs i) < 2 ^ 10 := Nat.or_lt_two_pow lo hck
        have hor1 := i64_or_nat (mineK cs (s : Int) i) (seenK cs (s : Int) i) (by omega) (by omega)
        have hor2 := i64_or_nat (mineK cs (s : Int) i ||| seenK cs (s : Int) i) (cauK sn (cauN cs i) sn (wrN cs i)) (by omega) (by omega)
        have hand := i64_andNot_nat ((mineK cs (s : Int) i ||| seenK cs (s : Int) i) ||| cauK sn (cauN cs i) sn (wrN cs i)) sn (by omega) (by omega)
        have hnz := ne_zero_sub ((mineK cs (s : Int) i ||| seenK cs (s : Int) i) ||| cauK sn (cauN cs i) sn (wrN cs i)) sn
        rw [hcl] at c8
        have HCL := Lib.hid (fun (W : World) (hcell : W.cell? ⟨w1.heap.size, 8, none⟩ = some (.slice Ac (wrN cs i) cc)) (hrw : RowInts W Ac ((cauN cs i).map Int.ofNat)) => closed_calls w1.heap.size (cauN cs i) (wrN cs i) sn Ac cc W hcell hrw hcl (by omega) (by omega) (fun j => by have := hcv j; omega))
        have C8 := Lib.hid c8
        have RC := Lib.hid rc
        have hval : c.val = .agg #[.int .i64 s, .bool c.write, .int .i64 sn] := by simp only [AccessD.val, hse, hsn]
        have HAdd := Lib.hid (HA.out w1.heap.size i c hc)
        rw [hval] at HAdd
        rw [hse] at x0
        rw [hsn] at x2
        have Hk := Lib.hid hk
        have Hb := Lib.hid hb
        have Hcr := Lib.hid hcr
        clear hat hc hk hb c8 rc hm hh hcv hck lo hcl hval hsn hse hp lm lh hcr
        generalize mineK cs (s : Int) i = M at *
        generalize seenK cs (s : Int) i = H at *
        generalize cauK sn (cauN cs i) sn (wrN cs i) = K at *
        generalize M ||| H = MH at *
        generalize MH ||| K = MK at *
        obtain ⟨q, hq⟩ : ∃ q, MK ^^^ (MK &&& sn) = q := ⟨_, rfl⟩
        rw [hq] at hand hnz
        clear hq
        have hi0 : (0 : Int) ≤ (i : Int) := by omega
        have hin : (i : Int) < (n : Int) := by omega
        have hs0' : (0 : Int) ≤ (s : Int) := by omega
        have hs3' : (s : Int) < 3 := by omega
        generalize c.write = wf at *
        go_wp2_with fail
        refine wp_region_grow (by kernel_rfl) (by kernel_rfl) ?_
        repeat (go_big_quiet_step ((go_at_call 49; exact Calls.ext_same (HCL.out _ (by rw [Wx.cell_eq _ _ _ (by simp; omega)]; first | exact cell_below (below_alloc (Below.refl _ _) _) C8.out | exact cell_below (below_alloc (Below.refl _ _) _).drew C8.out) (RC.out.below (by first | exact (below_alloc (Below.refl _ _) _).trans ((Wx.h _).mono (by simp)) | exact ((below_alloc (Below.refl _ _) _).drew).trans ((Wx.h _).mono (by simp))))))))
        refine wpQuiet_end ?_
        intro w3 hb3
        have hbw3 : Below wr.heap.size wr w3 := by
          have := hb3.size
          simp at this
          exact ⟨hb3.os, hb3.tape, hb3.output, by omega, fun j hj => (hb3.block j (by simp; omega)).trans (heap_alloc_old _ _ hj)⟩
        have y0 : w3.cell? ⟨wr.heap.size, 0, none⟩ = some (.int .i64 s) := cell_below hb3 (by simp)
        have y1 : w3.cell? ⟨wr.heap.size, 1, none⟩ = some (.bool wf) := cell_below hb3 (by simp)
        have y2 : w3.cell? ⟨wr.heap.size, 2, none⟩ = some (.int .i64 sn) := cell_below hb3 (by simp)
        have HS3 := Lib.hid (Hk.out.below hbw3)
        have HB3 := Lib.hid (below_trans' Hb.out hbw3)
        clear hb3 hbw3 x0 x1 x2 cm ch hor1 hor2
        cases wf
        · obtain ⟨t, ht⟩ : ∃ t, subN MK sn = t := ⟨_, rfl⟩
          rw [ht] at hnz
          have Ht := Lib.hid ht
          clear ht
          cases t
          · go_wp2_with fail
            go_ret
            have hf : causRow cs i = false := by rw [Hcr.out, Ht.out]; rfl
            have := causalB_row (by rw [Hn.out]; exact hlt) hf
            exact ⟨by rw [← HQ.out, this]; rfl, HB3.out⟩
          · go_wp2_with fail
            refine (HAdd.out _ HS3.out).mono ?_
            intro e w4 hd
            unfold AddStep at hd
            obtain ⟨rfl, hk4, hb4⟩ := hd
            go_wp2_with fail
            go_roundw
            case rel => exact ⟨i + 1, by omega, by go_num, hk4, HB3.out.trans hb4, by rw [all_range_succ, HG, Hcr.out, Ht.out]; rfl⟩
            case measure => simp [intOf]; omega
        · go_wp2_with fail
          refine (HAdd.out _ HS3.out).mono ?_
          intro e w4 hd
          unfold AddStep at hd
          obtain ⟨rfl, hk4, hb4⟩ := hd
          go_wp2_with fail
          go_roundw
          case rel => exact ⟨i + 1, by omega, by go_num, hk4, HB3.out.trans hb4, by rw [all_range_succ, HG, Hcr.out]; rfl⟩
          case measure => simp [intOf]; omega
      · have e1 : i = n := by omega
        subst e1
        have hge : ¬ ((i : Int) < (i : Int)) := by omega
        have Hb := Lib.hid hb
        clear hk hb
        go_wp2_with fail
        go_ret
        refine ⟨?_, Hb.out⟩
        rw [← HQ.out, causalB, HV.out, Hn.out, HG]; rfl

set_option maxHeartbeats 2000000 in
theorem specIsCausal_calls (cs : List AccessD) (A : Option Addr) (cap : Nat) (w : World) (hr : RowAccesss w A cs) (hl : cs.length ≤ 1048576) (b : Bool) (hb : causalB cs = b) :
    Calls Try.prog 19 #[.slice A cs.length cap] w fun e w' => e = .returned (.bool b) ∧ Below w.heap.size w w' := by
  have HR := Lib.hid hr
  clear hr
  cases hv : accB cs
  · have e1 : b = false := by rw [← hb]; simp [causalB, hv]
    subst e1
    have HV := Lib.hid hv
    clear hv hb
    go_enter Try.func19, Try.ntmps19
    go_wp2_with (go_at_call 39; refine (specValid_calls cs A cap _ HR.out hl false HV.out).mono ?_; rintro e w1 ⟨rfl, hb1⟩)
    go_ret
    exact ⟨rfl, hb1⟩
  · have HV := Lib.hid hv
    have HQ := Lib.hid hb
    have h6 := accB_len hv
    have HN := Lib.hid (fun (i : Nat) (c : AccessD) (hc : cs[i]? = some c) => acc_seen hv hc)
    have HT := Lib.hid (wrN_ten hv)
    have HSL := Lib.hid (seenK_lt hv)
    have HSame := Lib.hid (fun (i : Nat) => @caus_same cs hv i)
    have HMC := Lib.hid (fun (i : Nat) (c : AccessD) (hc : cs[i]? = some c) (W : World) (hW : RowAccesss W A cs) => mine_calls cs i c A cap W hW (by omega) hc)
    have HSC := Lib.hid (fun (i : Nat) (c : AccessD) (hc : cs[i]? = some c) (W : World) (hW : RowAccesss W A cs) => seen_calls cs i c A cap W hW hv hc)
    have hclen := cauN_len cs cs.length (Nat.le_refl _)
    have hcv := cauN_lt cs cs.length (Nat.le_refl _)
    have hten := wrN_ten hv cs.length
    have HCV := Lib.hid hcv
    have HWM := Lib.hid (fun (i : Nat) (h : i ≤ cs.length) => wrN_mono cs h)
    clear hv hb hcv
    go_enter Try.func19, Try.ntmps19
    go_wp2_with (go_at_call 39; refine (specValid_calls cs A cap _ HR.out hl true HV.out).mono ?_; rintro e w1 ⟨rfl, hb1⟩)
    refine (speccauses_calls cs A cap _ (HR.out.below hb1) HV.out).mono ?_
    rintro e w2 ⟨v, rfl, ho, hb2⟩
    have hbw : Below w.heap.size w w2 := below_trans' hb1 hb2
    obtain ⟨Ac, cc, rfl, _, _, _⟩ := own_form ho
    have hrc : RowInts w2 Ac (cauI cs cs.length) := RowOf.of_own rfl (fun _ _ => rfl) ho
    have HRC := Lib.hid hrc
    have HBW := Lib.hid hbw
    have HGT := Lib.hid (fun (k : Nat) (hk : k < wrN cs cs.length) => cauI_get (cs := cs) (Nat.le_refl _) hk)
    have hil : (cauI cs cs.length).length = wrN cs cs.length := cauI_len (Nat.le_refl _)
    rw [hil]
    have Hil := Lib.hid hil
    clear ho hb1 hb2 hbw hrc hil hclen
    have hp : 2 ^ wrN cs cs.length ≤ 2 ^ 10 := Nat.pow_le_pow_right (by omega) hten
    obtain ⟨W, hW⟩ : ∃ W, wrN cs cs.length = W := ⟨_, rfl⟩
    rw [hW] at HGT HCV Hil hten hp HSame ⊢
    clear hW
    generalize hn : cs.length = n at *
    have Hn := Lib.hid hn
    clear hn
    have hlen : (n : Int) ≤ 10 := by omega
    have hW10 : (W : Int) ≤ 10 := by omega
    have hW0 : (0 : Int) ≤ (W : Int) := by omega
    go_wp2_with fail
    go_loopw [4, 5, 6] (fun i _ _ wr => ∃ k : Nat, k ≤ n ∧ i = .int .i64 k ∧ Below w2.heap.size w2 wr ∧ Hid ((List.range k).all (causRow cs) = true)) (fun i _ _ _ => n - (intOf i).toNat)
    case atStart => exact ⟨0, by omega, rfl, Below.refl _ _, rfl⟩
    case round =>
      obtain ⟨i, hi, rfl, hb, HG⟩ := hrel
      by_cases hlt : i < n
      · obtain ⟨b0, off, rfl, hat⟩ := HR.out (by have := Hn.out; omega)
        obtain ⟨c, hc⟩ : ∃ c, cs[i]? = some c := ⟨cs[i]'(by have := Hn.out; omega), List.getElem?_eq_getElem _⟩
        obtain ⟨sn, hsn, hsnl⟩ := HN.out i c hc
        have hwm := HWM.out i (by have := Hn.out; omega)
        have hbw := HBW.out.trans (hb.mono HBW.out.size)
        obtain ⟨x0, x1, x2⟩ := (RowAccesss.at_ hat hc).below hbw
        have hbz : b0 < wr.heap.size := World.block_lt_of_cell? _ _ x0
        have hcr : causRow cs i = (c.write || subN ((mineK cs c.session i ||| seenK cs c.session i) ||| cauK sn (cauN cs i) sn (wrN cs i)) sn) := by
          rw [causRow, aAt_eq hc, nearN_eq hc, seenN, aAt_eq hc, hsn]; rfl
        have hsame := HSame.out i (by have := Hn.out; omega)
        have hnear : nearN cs i = mineK cs c.session i ||| seenK cs c.session i := nearN_eq hc
        rw [show seenN cs i = sn by rw [seenN, aAt_eq hc, hsn]; rfl, hnear] at hsame
        have lm := mineK_lt cs c.session i (by have := Hn.out; omega)
        have lh := HSL.out c.session i (by have := Hn.out; omega)
        have hp2 : 2 ^ wrN cs i ≤ 2 ^ 10 := Nat.pow_le_pow_right (by omega) (HT.out i)
        have ln : mineK cs c.session i ||| seenK cs c.session i < 2 ^ 10 := Nat.or_lt_two_pow (by omega) (by omega)
        have lsn : sn < 2 ^ 10 := by omega
        have hor := i64_or_nat (mineK cs c.session i) (seenK cs c.session i) (by omega) (by omega)
        have lnk := needK_lt (more := sn) (L := cauN cs n) ln (fun j => by have := HCV.out j; omega)
        have HMi := Lib.hid (HMC.out i c hc)
        have HSi := Lib.hid (HSC.out i c hc)
        rw [hsn] at x2
        rw [← hsame] at hcr
        have hfin := i64_and_nat (needK sn (cauN cs n) (mineK cs c.session i ||| seenK cs c.session i) W) sn (by have := lnk W; omega) (by omega)
        have hne := ne_sub (needK sn (cauN cs n) (mineK cs c.session i ||| seenK cs c.session i) W) sn
        have hst : needK sn (cauN cs n) (mineK cs c.session i ||| seenK cs c.session i) 0 = mineK cs c.session i ||| seenK cs c.session i := rfl
        have hsuc : ∀ j, needK sn (cauN cs n) (mineK cs c.session i ||| seenK cs c.session i) (j + 1) = if bitN (sn ||| needK sn (cauN cs n) (mineK cs c.session i ||| seenK cs c.session i) j) j = 1 then needK sn (cauN cs n) (mineK cs c.session i ||| seenK cs c.session i) j ||| (cauN cs n).getD j 0 else needK sn (cauN cs n) (mineK cs c.session i ||| seenK cs c.session i) j := fun j => rfl
        generalize mineK cs c.session i = M at *
        generalize seenK cs c.session i = H at *
        generalize M ||| H = MH at *
        have Hcr := Lib.hid hcr
        have Hb := Lib.hid hb
        have Hbw := Lib.hid hbw
        have Lnk := Lib.hid lnk
        have Hst := Lib.hid hst
        have Hsuc := Lib.hid hsuc
        have Hfin := Lib.hid hfin
        have Hne := Lib.hid hne
        have Hat := Lib.hid hat
        have Hc := Lib.hid hc
        have Hsn := Lib.hid hsn
        clear hcr hb hbw lnk hst hsuc hfin hne hat hc hsn hsame hnear lm lh hp2 hwm HMC HSC HSame
        have hi0 : (0 : Int) ≤ (i : Int) := by omega
        have hin : (i : Int) < (n : Int) := by omega
        generalize hwf : c.write = wf at *
        clear hwf
        cases wf
        · go_wp2_with (first
            | (go_at_call 46; refine (HMi.out _ (HR.out.below Hbw.out)).mono ?_; rintro e w3 ⟨rfl, hb3⟩)
            | (go_at_call 47; refine (HSi.out _ (HR.out.below (below_trans' Hbw.out hb3))).mono ?_; rintro e w4 ⟨rfl, hb4⟩))
          have hbo4 : Below wr.heap.size wr w4 := below_trans' hb3 hb4
          have z2 := cell_below hbo4 x2
          have Hbo4 := Lib.hid hbo4
          have Hbw4 := Lib.hid (below_trans' Hbw.out hbo4)
          have H24 := Lib.hid (below_trans' Hb.out hbo4)
          clear hb3 hb4 hbo4 hor x0 x1 x2
          obtain ⟨wo, hwo⟩ : ∃ wo : World, wo = wr := ⟨_, rfl⟩
          go_loop [5, 6] (fun m j => ∃ k : Nat, k ≤ W ∧ j = .int .i64 k ∧ m = .int .i64 (needK sn (cauN cs n) MH k)) (fun _ j => W - (intOf j).toNat)
          case atStart => exact ⟨0, by omega, rfl, by rw [Hst.out]⟩
          case round =>
            obtain ⟨j, hj, rfl, rfl⟩ := hrel
            by_cases hjl : j < W
            · obtain ⟨gb, goff, rfl, hgat⟩ := HRC.out (by rw [Hil.out]; omega)
              have r0 := cell_below H24.out (RowInts.at_ hgat (HGT.out j hjl))
              have hgb : gb < w4.heap.size := World.block_lt_of_cell? _ _ r0
              have hs := Hsuc.out j
              have lj := Lnk.out j
              have lv := HCV.out j
              have hor1 := i64_or_nat sn (needK sn (cauN cs n) MH j) (by omega) (by omega)
              have hor2 := i64_or_nat (needK sn (cauN cs n) MH j) ((cauN cs n).getD j 0) (by omega) (by omega)
              have lo : sn ||| needK sn (cauN cs n) MH j < 2 ^ 10 := Nat.or_lt_two_pow (by omega) lj
              have HBC := Lib.hid (fun (V : World) => bit_calls (sn ||| needK sn (cauN cs n) MH j) j (by omega) (by omega) V)
              have hbl := bitN_le (sn ||| needK sn (cauN cs n) MH j) j
              generalize needK sn (cauN cs n) MH j = s at *
              generalize (cauN cs n).getD j 0 = t at *
              generalize sn ||| s = q at *
              generalize bitN q j = bb at *
              have Hs := Lib.hid hs
              clear hgat hs
              have hj0 : (0 : Int) ≤ (j : Int) := by omega
              have hjW : (j : Int) < (W : Int) := by omega
              have hbb : bb = 0 ∨ bb = 1 := by omega
              rcases hbb with rfl | rfl
              all_goals
                go_wp2_with (go_at_call 48; refine (HBC.out _).mono ?_; rintro e w' ⟨rfl, rfl⟩)
                first
                  | exact ⟨⟨j + 1, by omega, by go_num, by rw [Hs.out]; simp⟩, by simp [intOf]; omega⟩
                  | (go_round
                     case rel => exact ⟨j + 1, by omega, by go_num, by rw [Hs.out]; simp⟩
                     case measure => simp [intOf]; omega)
            · have e1 : j = W := by omega
              subst e1
              have hge : ¬ ((j : Int) < (j : Int)) := by omega
              have hfin := Hfin.out
              have hne := Hne.out
              generalize needK sn (cauN cs n) MH j = s at *
              obtain ⟨q, hq⟩ : ∃ q, s &&& sn = q := ⟨_, rfl⟩
              rw [hq] at hfin hne
              clear hq
              obtain ⟨t, ht⟩ : ∃ t, subN s sn = t := ⟨_, rfl⟩
              rw [ht] at hne
              have Ht := Lib.hid ht
              clear ht
              cases t
              · go_wp2_with fail
                go_ret
                have hf : causRow cs i = false := by rw [Hcr.out, Ht.out]; rfl
                have := causalB_row (by rw [Hn.out]; exact hlt) hf
                exact ⟨by rw [← HQ.out, this]; rfl, Hbw4.out⟩
              · go_wp2_with fail
                go_roundw
                case rel => exact ⟨i + 1, by omega, by go_num, H24.out, by rw [all_range_succ, HG, Hcr.out, Ht.out]; rfl⟩
                case measure => simp [intOf]; omega
        · go_wp2_with fail
          go_roundw
          case rel => exact ⟨i + 1, by omega, by go_num, Hb.out, by rw [all_range_succ, HG, Hcr.out]; rfl⟩
          case measure => simp [intOf]; omega
      · have e1 : i = n := by omega
        subst e1
        have hge : ¬ ((i : Int) < (i : Int)) := by omega
        have Hb := Lib.hid hb
        clear hb
        go_wp2_with fail
        go_ret
        refine ⟨?_, HBW.out.trans (Hb.out.mono HBW.out.size)⟩
        rw [← HQ.out, causalB, HV.out, Hn.out, HG]; rfl
end Go.Proofs.Ytooigcfdkmgjnaa
