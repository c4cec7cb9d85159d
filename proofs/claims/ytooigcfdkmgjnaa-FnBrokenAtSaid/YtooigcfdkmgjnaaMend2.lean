/-
  What MendReads answers, of the reference, in memory of its own. No condition but lengths of at most 2 to the 20.
-/
import Derived.Test.YtooigcfdkmgjnaaIsCausal
import Derived.Test.YtooigcfdkmgjnaaMndR
import Derived.Test.YtooigcfdkmgjnaaGenB
import Derived.Test.YtooigcfdkmgjnaaAccessS
namespace Go.Proofs.Ytooigcfdkmgjnaa
open Go.RowKit Go.Deep
set_option maxRecDepth 100000

section
variable {P : Program}
/-- Nothing is appended to a row of none. -/
theorem wpList_append_zero {ops : Array Oper} {rest : List Oper} {o : Oper} {a : Act} {w : World} {Q : Exit → Act → World → Prop} (hgd : o.guard = none) (s x : Operand) (t : TypeId)
    (ho : o.op = .call { callee := .builtin .append, args := #[s, x], argTypes := #[t, t] }) (e : TypeId) (i : TypeInfo) (ht : P.underlying t = some (.slice e)) (hi : P.info? e = some i)
    (g cap : Nat) (hs : a.eval s = .slice (some ⟨g, 0, none⟩) 0 cap) (A : Option Addr) (c : Nat) (hx : a.eval x = .slice A 0 c)
    (h : wpList P ops Q rest (a.put o.dst (.slice (some ⟨g, 0, none⟩) 0 cap)) w) : wpList P ops Q (o :: rest) a w := by
  refine wpList_plain hgd fun K hK => ?_
  have hr : (Builtin.append_ #[t, t] o.type #[.slice (some ⟨g, 0, none⟩) 0 cap, .slice A 0 c]).run P w = .ok (.slice (some ⟨g, 0, none⟩) 0 cap) w := by
    cases A <;> simp [Builtin.append_, run_underlying ht, sizeOf, typeInfo, hi, Builtin.lenOf, Builtin.firstCells, storeCells, loadCells, loadCellsFrom]
  unfold Oper.wp execOp
  simp only [ho, resolve, invoke, builtin, Sem.run_bind, Sem.run_pure, Result.andThen_ok, List.map_toArray, List.map_cons, List.map_nil, hs, hx, hr]
  exact hK _ _ h
end
theorem acc_cells {w : World} {b off : Nat} {cs : List AccessD} (hat : ∀ i c, cs[i]? = some c → ∀ j u, (AccessD.vals c)[j]? = some u → w.cell? ⟨b, off + i * 3 + j, none⟩ = some u) : ∀ j u, (cs.flatMap AccessD.vals)[j]? = some u → w.cell? ((⟨b, off, none⟩ : Addr).add j) = some u := by
  intro j u hu
  have hj : j < (cs.flatMap AccessD.vals).length := (List.getElem?_eq_some_iff.1 hu).1
  rw [flat_len _ (fun c _ => AccessD.vals_len c)] at hj
  have hi : j / 3 < cs.length := by omega
  have h1 : cs[j / 3]? = some cs[j / 3] := List.getElem?_eq_getElem hi
  have h2 : (AccessD.vals cs[j / 3])[j % 3]? = some ((AccessD.vals cs[j / 3])[j % 3]'(by rw [AccessD.vals_len]; omega)) := List.getElem?_eq_getElem _
  have h3 := flat_at cs (fun c _ => AccessD.vals_len c) (j / 3) _ h1 (j % 3) _ h2
  rw [show j / 3 * 3 + j % 3 = j by omega, hu] at h3
  injection h3 with h3
  have h4 := hat _ _ h1 _ _ h2
  rw [← h3, show off + j / 3 * 3 + j % 3 = off + j by omega] at h4
  rw [Addr.add_lit]
  exact h4
theorem ones_of (cs : List AccessD) : ∀ u ∈ cs.flatMap AccessD.vals, u.oneCell' = true := by
  intro u hu
  rw [List.mem_flatMap] at hu
  obtain ⟨c, _, h⟩ := hu
  exact vals_one c u h

set_option maxHeartbeats 4000000 in
theorem specMendReads_calls (cs : List AccessD) (A : Option Addr) (cap : Nat) (w : World) (hr : RowAccesss w A cs) (hl : cs.length ≤ 1048576) :
    Calls Try.prog 33 #[.slice A cs.length cap] w fun e w' => ∃ v, e = .returned v ∧ OwnAccesss w' w.heap.size v (mendB cs) ∧ Below w.heap.size w w' := by
  obtain ⟨i0, hi0, hz0, hz1, hz2⟩ := info_parts info_impl_Access
  have HR := Lib.hid hr
  clear hr
  cases hv : accB cs
  · have E1 := Lib.hid (show mendB cs = [] by simp [mendB, hv])
    have HV := Lib.hid hv
    clear hv
    go_enter Try.func33, Try.ntmps33
    go_wp2_with (go_at_call 39; refine (specValid_calls cs A cap _ HR.out hl false HV.out).mono ?_; rintro e w1 ⟨rfl, hb1⟩)
    go_ret
    exact ⟨_, rfl, by unfold OwnAccesss; rw [E1.out]; exact World.ownsRow_nil _ _ _ _, hb1⟩
  have E1 := Lib.hid (show mendB cs = mendK cs cs.length by simp [mendB, hv])
  have EL := Lib.hid (mendK_len cs cs.length)
  have EA := Lib.hid (mendTo_all cs)
  have EZ := Lib.hid (mendTo_zero cs)
  have HV := Lib.hid hv
  have h6 := accB_len hv
  have HTL := Lib.hid (fun k (h : k ≤ cs.length) => mendTo_len (cs := cs) (k := k) h)
  have HTV := Lib.hid (fun k (h : k ≤ cs.length) => mendTo_valid hv k h)
  have HKV := Lib.hid (fun k (h : k ≤ cs.length) => mendK_valid hv k h)
  have HDR := Lib.hid (fun (i : Nat) (c : AccessD) (hc : cs[i]? = some c) => due_ref hv hc)
  have HDL := Lib.hid (fun (i : Nat) (c : AccessD) (hc : cs[i]? = some c) => due_lt hv hc)
  have HSN := Lib.hid (fun (i : Nat) (c : AccessD) (hc : cs[i]? = some c) => acc_seen hv hc)
  have HWN := Lib.hid (fun i : Nat => wrN_ten hv i)
  clear hv
  rcases Nat.eq_zero_or_pos cs.length with h0 | hpos
  · -- no accesses at all
    have e0 : cs = [] := List.length_eq_zero_iff.1 h0
    subst e0
    clear EL EA EZ HTL HTV HKV HDR HDL HSN HWN h0
    go_enter Try.func33, Try.ntmps33
    go_wp2_with (first
      | (go_at_call 39; refine (specValid_calls [] A cap _ HR.out hl true HV.out).mono ?_; rintro e w1 ⟨rfl, hb1⟩)
      | (at_builtin; refine wpList_append_zero rfl (.tmp 11) (.tmp 12) 25 rfl 44 i0 Try.underlying25 hi0 _ _ rfl A _ rfl ?_))
    have hown : (w1.alloc (.cells #[] 44)).ownsRow w.heap.size 44 3 (.slice (some ⟨w1.heap.size, 0, none⟩) 0 0) 0 [] := World.ownsRow_made w1 #[] 0 hb1.size (by simp [maxLen]) rfl
    have hbw : Below w.heap.size w (w1.alloc (.cells #[] 44)) := below_alloc hb1 _
    go_loopw [4, 5, 6, 7] (fun i _ _ _ wr => i = .int .i64 0 ∧ wr = (w1.alloc (.cells #[] 44))) (fun _ _ _ _ _ => 0)
    case atStart => exact ⟨rfl, rfl⟩
    case round =>
      obtain ⟨rfl, rfl⟩ := hrel
      go_wp2_with fail
      go_ret
      exact ⟨_, rfl, by unfold OwnAccesss; rw [E1.out]; exact hown, hbw⟩
  obtain ⟨b0, off, rfl, hat⟩ := HR.out hpos
  have Hat := Lib.hid (fun (W : World) (hW : Below w.heap.size w W) => acc_cells (w := W) (b := b0) (off := off) (cs := cs) (fun i c hc j u hu => cell_below hW (hat i c hc j u hu)))
  have HC := Lib.hid (flat_len cs (fun c _ => AccessD.vals_len c))
  clear hat
  generalize hn : cs.length = n at *
  have Hn := Lib.hid hn
  clear hn
  have hlen : (n : Int) ≤ 10 := by omega
  go_enter Try.func33, Try.ntmps33
  go_wp2_with (first
    | (go_at_call 39; refine (Hn.out ▸ specValid_calls cs (some ⟨b0, off, none⟩) cap _ HR.out (by have := Hn.out; omega) true HV.out).mono ?_; rintro e w1 ⟨rfl, hb1⟩)
    | (at_builtin; refine wpList_append_own _ rfl (.tmp 11) (.tmp 12) 25 rfl w.heap.size 44 i0 _ 3 24 Try.underlying25 hi0 hz0 hz1 hz2 rfl (by omega) _ 0 [] rfl (World.ownsRow_made w1 #[] 0 hb1.size (by simp [maxLen]) rfl) ⟨b0, off, none⟩ n cap (cs.flatMap AccessD.vals) rfl HC.out (Hat.out _ (below_alloc hb1 _)) (ones_of cs) (by unfold maxLen; omega) (by omega) (by have := hb1.size; simp; omega) ?_; intro v2 w2 hown2 hgrow2 _))
  rw [Nat.zero_add, List.nil_append] at hown2
  obtain ⟨A2, c2, rfl, hnc2, hcm2, _⟩ := own_form hown2
  obtain ⟨g2, rfl⟩ : ∃ g, A2 = some ⟨g, 0, none⟩ := by
    rcases hown2.2 with ⟨h0, _⟩ | ⟨g', cap', cur, hv', _⟩
    · injection h0 with _ h0 _; omega
    · injection hv' with h1; exact ⟨g', h1⟩
  have hbw2 : Below w.heap.size w w2 := (below_alloc hb1 _).grown hgrow2 (by have := hb1.size; simp; omega) (by intro k hk; have hk2 : some w1.heap.size = some k := hk; injection hk2 with hk2; have := hb1.size; omega)
  have H0 : w2.ownsRow w.heap.size 44 3 (.slice (some ⟨g2, 0, none⟩) n c2) n ((mendTo cs 0).flatMap AccessD.vals) := by rw [EZ.out]; exact hown2
  clear hown2 hgrow2 EZ Hat HC
  go_loopw [4, 5, 6, 7] (fun i _ _ _ wr => ∃ k : Nat, k ≤ n ∧ i = .int .i64 k ∧ Below w.heap.size w wr ∧ wr.ownsRow w.heap.size 44 3 (.slice (some ⟨g2, 0, none⟩) n c2) n ((mendTo cs k).flatMap AccessD.vals)) (fun i _ _ _ _ => n - (intOf i).toNat)
  case atStart => exact ⟨0, by omega, rfl, hbw2, H0⟩
  case round =>
    clear hbw2 H0 hb1
    obtain ⟨i, hi, rfl, hb, ho⟩ := hrel
    by_cases hlt : i < n
    · obtain ⟨c, hc⟩ : ∃ c, cs[i]? = some c := ⟨cs[i]'(by have := Hn.out; omega), List.getElem?_eq_getElem _⟩
      have hL := mendTo_here hc
      have hset := mendTo_set hc
      have hwri := mendTo_write hc
      have hread := mendOne_read (M := mendK cs i) (c := c)
      have htl := HTL.out i hi
      have htv := HTV.out i hi
      have hkv := HKV.out i hi
      have hdr := HDR.out i c hc
      have hdl := HDL.out i c hc
      obtain ⟨sn, hsn, hsnl⟩ := HSN.out i c hc
      have hten := HWN.out i
      have hps : 2 ^ wrN cs i ≤ 2 ^ 10 := Nat.pow_le_pow_right (by omega) hten
      have hsn10 : sn < 2 ^ 10 := by omega
      clear hps hsnl
      have hkl := mendK_len cs i
      have htk := mendTo_take cs i
      have hkw := wrN_ten hkv i
      have hcil : (cauI (mendK cs i) i).length = wrN (mendK cs i) i := cauI_len (by rw [hkl]; exact Nat.le_refl _)
      have hcig := fun (k : Nat) (hk : k < wrN (mendK cs i) i) => cauI_get (cs := mendK cs i) (i := i) (by rw [hkl]; exact Nat.le_refl _) hk
      have hcv := cauN_lt (mendK cs i) i (by rw [hkl]; exact Nat.le_refl _)
      have lm := mineK_lt (mendTo cs i) c.session i (by rw [htl]; exact hi)
      have lh := seenK_lt htv c.session i (by rw [htl]; exact hi)
      have hwt := wrN_ten htv i
      have hzn : (0 : Int) ≤ (sn : Int) := by omega
      rw [hsn, Int.toNat_natCast] at hdr
      have hrow : RowAccesss wr (some ⟨g2, 0, none⟩) (mendTo cs i) := RowOf.of_own htl.symm (fun c _ => AccessD.vals_len c) ho
      have x1 : wr.cell? ⟨g2, i * 3 + 1, none⟩ = some (.bool c.write) := own_cell ho (flat_at _ (fun c _ => AccessD.vals_len c) i c hL 1 _ rfl)
      have x2 : wr.cell? ⟨g2, i * 3 + 2, none⟩ = some (.int .i64 c.seen) := own_cell ho (flat_at _ (fun c _ => AccessD.vals_len c) i c hL 2 _ rfl)
      rw [hsn] at x2
      have hgz : g2 < wr.heap.size := World.block_lt_of_cell? _ _ x2
      have hpw : 2 ^ wrN (mendTo cs i) i ≤ 2 ^ 10 := Nat.pow_le_pow_right (by omega) hwt
      have hpk : 2 ^ wrN (mendK cs i) i ≤ 2 ^ 10 := Nat.pow_le_pow_right (by omega) hkw
      have HCA := Lib.hid (fun (W : World) (hW : RowAccesss W (some ⟨g2, 0, none⟩) (mendTo cs i)) => speccauses_calls (mendK cs i) (some ⟨g2, 0, none⟩) c2 W (by have := hW.take i; rwa [htk] at this) hkv)
      have HMC := Lib.hid (fun (W : World) (hW : RowAccesss W (some ⟨g2, 0, none⟩) (mendTo cs i)) => mine_calls (mendTo cs i) i c (some ⟨g2, 0, none⟩) c2 W hW (by omega) hL)
      have HSC := Lib.hid (fun (W : World) (hW : RowAccesss W (some ⟨g2, 0, none⟩) (mendTo cs i)) => seen_calls (mendTo cs i) i c (some ⟨g2, 0, none⟩) c2 W hW htv hL)
      rw [hkl] at HCA
      rw [htl] at HMC HSC
      have hfl := flat_set (fun c => AccessD.vals_len c) (mendTo cs i) i 2 c (mendOne (mendK cs i) c) (.int .i64 (dueN (mendK cs i) c : Int)) hL (by omega)
      have hvals : c.write = false → AccessD.vals (mendOne (mendK cs i) c) = (AccessD.vals c).set 2 (.int .i64 (dueN (mendK cs i) c : Int)) := by
        intro h
        rw [hread h]
        simp only [AccessD.vals, h, List.set_cons_succ, List.set_cons_zero]
      have HFL := Lib.hid (fun h => hfl (hvals h))
      have Hrow := Lib.hid hrow
      have Hset := Lib.hid hset
      have Hwri := Lib.hid hwri
      have HO := Lib.hid ho
      have HB := Lib.hid hb
      clear hfl hvals hrow hset hwri hread htv hkv htk hb ho hc hL htl hkl HTL HTV HKV HDR HDL HSN HWN
      have hi0 : (0 : Int) ≤ (i : Int) := by omega
      have hin : (i : Int) < (n : Int) := by omega
      have hic : (i : Int) ≤ (c2 : Int) := by omega
      cases hw : c.write
      · have hfalse := HFL.out hw
        rw [hw] at x1
        have HFL2 := Lib.hid hfalse
        clear HFL hfalse
        generalize mineK (mendTo cs i) c.session i = M at *
        generalize seenK (mendTo cs i) c.session i = H at *
        have ln : M ||| H < 2 ^ 10 := Nat.or_lt_two_pow (by omega) (by omega)
        have ln2 : (M ||| H) ||| sn < 2 ^ 10 := Nat.or_lt_two_pow ln (by omega)
        have hor1 := i64_or_nat M H (by omega) (by omega)
        have hor2 := i64_or_nat (M ||| H) sn (by omega) (by omega)
        have lnk := needK_lt (more := 0) (L := cauN (mendK cs i) i) ln2 (fun j => by have := hcv j; omega)
        have hst : needK 0 (cauN (mendK cs i) i) ((M ||| H) ||| sn) 0 = (M ||| H) ||| sn := rfl
        have hsuc : ∀ j, needK 0 (cauN (mendK cs i) i) ((M ||| H) ||| sn) (j + 1) = if bitN (needK 0 (cauN (mendK cs i) i) ((M ||| H) ||| sn) j) j = 1 then needK 0 (cauN (mendK cs i) i) ((M ||| H) ||| sn) j ||| (cauN (mendK cs i) i).getD j 0 else needK 0 (cauN (mendK cs i) i) ((M ||| H) ||| sn) j := fun j => by rw [needK, Nat.zero_or]
        have Lnk := Lib.hid lnk
        have Hst := Lib.hid hst
        have Hsuc := Lib.hid hsuc
        have HCV := Lib.hid hcv
        have HGT := Lib.hid hcig
        have Hil := Lib.hid hcil
        have Hdr := Lib.hid hdr
        have Hdl := Lib.hid hdl
        clear lnk hst hsuc hcv hcig hcil lm lh hdr hdl
        generalize dueN (mendK cs i) c = D at *
        generalize M ||| H = MH at *
        generalize MH ||| sn = S at *
        go_wp2_with fail
        refine (HCA.out _ Hrow.out).mono ?_
        rintro e w4 ⟨v4, rfl, o4, hb4⟩
        obtain ⟨A4, c4, rfl, _, _, _⟩ := own_form o4
        have hrc : RowInts w4 A4 (cauI (mendK cs i) i) := RowOf.of_own rfl (fun _ _ => rfl) o4
        have HRC := Lib.hid hrc
        have Hrow4 := Lib.hid (Hrow.out.below hb4)
        have y2 := cell_below hb4 x2
        have hgz4 : g2 < w4.heap.size := World.block_lt_of_cell? _ _ y2
        have HB4 := Lib.hid hb4
        rw [Hil.out]
        obtain ⟨W, hW⟩ : ∃ W, wrN (mendK cs i) i = W := ⟨_, rfl⟩
        rw [hW] at HGT HCV Hil hkw hpk Hdr ⊢
        clear hW hrc o4 hb4 HCA x1 x2
        have hW10 : (W : Int) ≤ 10 := by omega
        have hW0 : (0 : Int) ≤ (W : Int) := by omega
        go_wp2_with fail
        refine wp_region_grow (by kernel_rfl) (by kernel_rfl) ?_
        repeat (go_big_quiet_step ((first
          | (go_at_call 46; with_reducible exact Calls.ext_of (Nat.le_refl _) (HMC.out _ (Hrow4.out.below (Wx.h _))))
          | (go_at_call 47; with_reducible exact Calls.ext_of (Nat.le_refl _) (HSC.out _ (Hrow4.out.below (Wx.h _)))))))
        refine wpQuiet_end ?_
        intro w5 hb5
        have z2 := cell_below hb5 y2
        have HB5 := Lib.hid (below_trans' HB4.out hb5)
        have HRC5 := Lib.hid (HRC.out.below hb5)
        have f2 := own_free (own_below HO.out HB5.out) (i * 3 + 2)
        have O5 := Lib.hid (own_below HO.out HB5.out)
        have HBW5 := Lib.hid (below_trans' HB.out HB5.out)
        have hgz5 : g2 < w5.heap.size := World.block_lt_of_cell? _ _ z2
        clear hb5 y2 HB4 HB5 HRC Hrow4 Hrow HMC HSC HO HB
        go_wp2_with fail
        go_loop [6, 7] (fun m j => ∃ k : Nat, k ≤ W ∧ j = .int .i64 k ∧ m = .int .i64 (needK 0 (cauN (mendK cs i) i) S k)) (fun _ j => W - (intOf j).toNat)
        case atStart => exact ⟨0, by omega, rfl, by rw [Hst.out]⟩
        case round =>
          obtain ⟨j, hj, rfl, rfl⟩ := hrel
          by_cases hjl : j < W
          · obtain ⟨gb, goff, rfl, hgat⟩ := HRC5.out (by rw [Hil.out]; omega)
            have r0 := RowInts.at_ hgat (HGT.out j hjl)
            have hgb : gb < w5.heap.size := World.block_lt_of_cell? _ _ r0
            have hs := Hsuc.out j
            have lj := Lnk.out j
            have lv := HCV.out j
            have hor3 := i64_or_nat (needK 0 (cauN (mendK cs i) i) S j) ((cauN (mendK cs i) i).getD j 0) (by omega) (by omega)
            have HBC := Lib.hid (fun (V : World) => bit_calls (needK 0 (cauN (mendK cs i) i) S j) j (by omega) (by omega) V)
            have hbl := bitN_le (needK 0 (cauN (mendK cs i) i) S j) j
            generalize needK 0 (cauN (mendK cs i) i) S j = s at *
            generalize (cauN (mendK cs i) i).getD j 0 = t at *
            generalize bitN s j = bb at *
            have Hs := Lib.hid hs
            clear hgat hs
            have hj0 : (0 : Int) ≤ (j : Int) := by omega
            have hjW : (j : Int) < (W : Int) := by omega
            have hbb : bb = 0 ∨ bb = 1 := by omega
            rcases hbb with rfl | rfl
            all_goals
              go_wp2_with (go_at_call 48; refine (HBC.out _).mono ?_; rintro e w' ⟨rfl, rfl⟩)
              first
                | exact ⟨⟨j + 1, by omega, by go_num, by rw [Hs.out]; simp⟩, by simp [intOf]; omega⟩
                | (go_round
                   case rel => exact ⟨j + 1, by omega, by go_num, by rw [Hs.out]; simp⟩
                   case measure => simp [intOf]; omega)
          · have e1 : j = W := by omega
            subst e1
            have hge : ¬ ((j : Int) < (j : Int)) := by omega
            rw [Hdr.out]
            have hO6 := own_set O5.out (show i * 3 + 2 < n * 3 by omega) (.int .i64 (D : Int))
            rw [HFL2.out, Hset.out] at hO6
            have HO6 := Lib.hid hO6
            have HB6 := Lib.hid (HBW5.out.setCell (p := ⟨g2, i * 3 + 2, none⟩) ((O5.out.lt g2 rfl).1) (.int .i64 (D : Int)))
            clear hO6
            go_wp2_with fail
            go_roundw
            case rel => exact ⟨i + 1, by omega, by go_num, HB6.out, HO6.out⟩
            case measure => simp [intOf]; omega
      · rw [hw] at x1
        have HO2 := Lib.hid (show wr.ownsRow w.heap.size 44 3 (.slice (some ⟨g2, 0, none⟩) n c2) n ((mendTo cs (i + 1)).flatMap AccessD.vals) by rw [Hwri.out hw]; exact HO.out)
        go_wp2_with fail
        go_roundw
        case rel => exact ⟨i + 1, by omega, by go_num, HB.out, HO2.out⟩
        case measure => simp [intOf]; omega
    · have e1 : i = n := by omega
      subst e1
      have hge : ¬ ((i : Int) < (i : Int)) := by omega
      have HB := Lib.hid hb
      have HO := Lib.hid ho
      clear hb ho
      go_wp2_with fail
      go_ret
      refine ⟨_, rfl, ?_, HB.out⟩
      unfold OwnAccesss
      rw [E1.out, EL.out, ← EA.out]
      exact HO.out
end Go.Proofs.Ytooigcfdkmgjnaa
