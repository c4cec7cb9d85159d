/-
  The generator of right calls leaves a row of at most six calls of the call's own. No condition but few picks before.
-/
import Derived.Test.YtooojfdjpmfalaaGenR
import Derived.Deep.RegionHeld3
import Derived.Deep.DeepCutAuto
import Derived.Deep.CutBlock
namespace Go.Proofs.Ytooojfdjpmfalaa
open Go.RowKit Go.Deep
set_option maxRecDepth 100000

theorem below_alloc0 {w w' : World} (h : Below w.drew.heap.size w.drew w') : Below w.heap.size w w' := ⟨h.os, h.tape, h.output, h.size, h.block⟩
def nmRegister : ByteArray := { data := #[114, 101, 103, 105, 115, 116, 101, 114] }
theorem ob_register : obOf { data := #[114, 101, 103, 105, 115, 116, 101, 114] } = some .register := by
  unfold obOf
  rw [if_pos (by simp [Ob.text])]

theorem rc_start (W : World) (g : Nat) (hg : g < W.heap.size) :
    RC W ((((W.alloc (.cells #[] 26)).alloc (.cells #[] 3)).alloc (.cells #[] 3)).alloc (.cells #[.slice (some ⟨W.heap.size + 1, 0, none⟩) 0 0, .slice (some ⟨W.heap.size + 1 + 1, 0, none⟩) 0 0] 53))
      g (W.heap.size + 1 + 1 + 1) [W.heap.size + 1 + 1 + 1, g] (.slice (some ⟨W.heap.size, 0, none⟩) 0 0) [] 0 := by
  have b1 : Below W.heap.size W (W.alloc (.cells #[] 26)) := below_alloc (Below.refl _ _) _
  have o1 : (W.alloc (.cells #[] 26)).ownsRow W.heap.size 26 7 (.slice (some ⟨W.heap.size, 0, none⟩) 0 0) 0 [] := World.ownsRow_made W #[] 0 (Nat.le_refl _) (by simp [maxLen]) rfl
  refine ⟨((((But.refl g W).alloc _).alloc _).alloc _).alloc _, own_below (own_below (own_below o1 (below_alloc (Below.refl _ _) _)) (below_alloc (Below.refl _ _) _)) (below_alloc (Below.refl _ _) _), hg, by omega, ?_, by simp, by simp, ?_, ?_⟩
  · simp only [Value.ownBlock, ne_eq, Option.some.injEq]
    omega
  · intro k hk
    simp only [List.mem_cons, List.not_mem_nil, or_false] at hk
    simp only [World.size_alloc]
    omega
  · refine ⟨_, 0, 0, _, 0, 0, heap_alloc_new' (by simp), ?_, ?_, Nat.le_refl _, Nat.le_refl _⟩
    · exact ⟨[], RowOf.nil, rfl, Nat.le_refl _, by simp [maxLen], fun x h0 => absurd h0 (by omega)⟩
    · exact ⟨[], RowOf.nil, rfl, Nat.le_refl _, by simp [maxLen], fun x h0 => absurd h0 (by omega)⟩

set_option maxHeartbeats 16000000 in
theorem rightCalls_calls : RightCalls := by
  intro s g p W h hp
  obtain ⟨e0, he0, hy0, hy1, hy2⟩ := info_parts info_impl_Call
  have hgz := h.lt
  have HR := Lib.hid h
  clear h
  go_enter Try.func58, Try.ntmps58
  go_upto_if 18 with (go_at_call 60; refine (isObj_calls s _).mono ?_; rintro e w1 ⟨rfl, rfl⟩)
  go_cut [1] (fun v wx => (∃ nm o, v = .string nm ∧ obOf nm = some o) ∧ W = wx)
  case first =>
    cases ho : obOf s with
    | none =>
      go_wp2_with fail
      go_meet
      exact ⟨⟨_, _, rfl, ob_register⟩, rfl⟩
    | some o =>
      go_wp2_with fail
      go_meet
      exact ⟨⟨_, _, rfl, ho⟩, rfl⟩
  case rest =>
    obtain ⟨⟨nm, o, rfl, ho⟩, rfl⟩ := hcut
    go_wp2_with fail
    have hst := rc_start W g hgz
    have hr0 := HR.out.below (w' := (((W.alloc (.cells #[] 26)).alloc (.cells #[] 3)).alloc (.cells #[] 3)).alloc (.cells #[.slice (some ⟨W.heap.size + 1, 0, none⟩) 0 0, .slice (some ⟨W.heap.size + 1 + 1, 0, none⟩) 0 0] 53)) (by repeat (first | exact Below.refl _ _ | assumption | refine below_alloc ?_ _ | refine below_trans' ?_ (by assumption) | refine Below.drew ?_))
    have hsz : ((((W.alloc (.cells #[] 26)).alloc (.cells #[] 3)).alloc (.cells #[] 3)).alloc (.cells #[.slice (some ⟨W.heap.size + 1, 0, none⟩) 0 0, .slice (some ⟨W.heap.size + 1 + 1, 0, none⟩) 0 0] 53)).heap.size = W.heap.size + 1 + 1 + 1 + 1 := by simp
    generalize (((W.alloc (.cells #[] 26)).alloc (.cells #[] 3)).alloc (.cells #[] 3)).alloc (.cells #[.slice (some ⟨W.heap.size + 1, 0, none⟩) 0 0, .slice (some ⟨W.heap.size + 1 + 1, 0, none⟩) 0 0] 53) = w3 at *
    with_reducible refine (one_at g p [1, 1, 2] 3 #[.int .i64 1, .int .i64 1, .int .i64 2] w3 _ hr0 hsz (by omega) rfl rfl (by omega) (by omega)).mono ?_
    intro e w4 hone
    obtain ⟨pr, hpr, rfl, hr1, hg1⟩ := hone
    obtain ⟨P, hP, hP1, hP2⟩ : ∃ P : Nat, pr = P ∧ 1 ≤ P ∧ P ≤ 2 := ⟨pr.toNat, by simp at hpr; omega, by simp at hpr; omega, by simp at hpr; omega⟩
    subst hP
    have HS1 := Lib.hid (hst.pick hg1)
    have HR1 := Lib.hid hr1
    obtain ⟨gs, hgs⟩ : ∃ gs, W.heap.size + 1 + 1 + 1 = gs := ⟨_, rfl⟩
    rw [hgs] at HS1 ⊢
    clear hr1 hg1 hst hr0 hsz hpr
    go_wp2_with fail
    with_reducible refine (one_at g (p + 1) [4, 5, 3, 6, 2, 1, 0] 7 #[.int .i64 4, .int .i64 5, .int .i64 3, .int .i64 6, .int .i64 2, .int .i64 1, .int .i64 0] w4 _ HR1.out rfl (by omega) rfl rfl (by omega) (by omega)).mono ?_
    intro e w5 hone
    obtain ⟨n0, hn0, rfl, hr2, hg2⟩ := hone
    obtain ⟨N, hN, hN6⟩ : ∃ N : Nat, n0 = N ∧ N ≤ 6 := ⟨n0.toNat, by simp at hn0; omega, by simp at hn0; omega⟩
    subst hN
    have HS2 := Lib.hid (HS1.out.pick hg2)
    have HR2 := Lib.hid hr2
    clear hr2 hg2 hn0 HS1 HR1
    go_wp2_with fail
    go_loopw [7, 10, 11] (fun v at_ n wr => ∃ (m q : Nat) (cs : List CallD), n = .int .i64 m ∧ at_ = .int .i64 cs.length ∧ RC W wr g gs [gs, g] v cs cs.length ∧ cs.length + m ≤ 6 ∧ Rdr wr g q ∧ q + 6 * m ≤ p + 40) (fun _ _ n _ => (intOf n).toNat)
    case atStart => exact ⟨N, p + 2, [], rfl, rfl, HS2.out, by simp; omega, HR2.out, by omega⟩
    case round =>
      clear HS2 HR2 hN6
      obtain ⟨m, q, cs, rfl, rfl, hrc, hlen, hrd, hq⟩ := hrel
      obtain ⟨wo, rfl⟩ : ∃ wo : World, wo = wr := ⟨_, rfl⟩
      obtain ⟨Ao, co, rfl, hoc, hom, _⟩ := own_form hrc.oo
      have HC := Lib.hid hrc
      have HRd := Lib.hid hrd
      clear hrc hrd
      obtain ⟨l, hl⟩ : ∃ l, cs.length = l := ⟨_, rfl⟩
      have HL := Lib.hid hl
      rw [hl] at HC hlen hoc ⊢
      clear hl
      by_cases hm : 0 < m
      · have hm0 : (0 : Int) < (m : Int) := by omega
        have hm7 : (m : Int) ≤ 6 := by omega
        have hl0 : (0 : Int) ≤ (l : Int) := by omega
        have hl6 : (l : Int) < 6 := by omega
        have hwz := HC.out.but.size
        have hgl : gs < wo.heap.size := HC.out.lt _ HC.out.mgs
        go_wp2_with fail
        with_reducible refine (pick_at g q 3 3 _ HRd.out rfl (by omega) (by omega) (by omega)).mono ?_
        intro e w6 hpk
        obtain ⟨x1, hx1, rfl, hr6, hg6⟩ := hpk
        have HC6 := Lib.hid (HC.out.pick hg6)
        have HR6 := Lib.hid hr6
        clear hg6 hr6 HC HRd
        go_wp2_with fail
        with_reducible refine (pick_calls g (q + 1) P _ HR6.out (by omega) hP1 (by omega)).mono ?_
        intro e w7 hpk
        obtain ⟨x2, hx2, rfl, hr7, hg7⟩ := hpk
        have HC7 := Lib.hid (HC6.out.pick hg7)
        have HR7 := Lib.hid (show Rdr w7 g (q + 2) from hr7)
        clear hg7 hr7 HC6 HR6
        go_wp2_with fail
        with_reducible refine (one_at g (q + 2) [0, 2, 0, 1] 4 #[.int .i64 0, .int .i64 2, .int .i64 0, .int .i64 1] w7 _ HR7.out rfl (by omega) rfl rfl (by omega) (by omega)).mono ?_
        intro e w8 hone
        obtain ⟨kd, hkd, rfl, hr8, hg8⟩ := hone
        have HC8 := Lib.hid (HC7.out.pick hg8)
        have HR8 := Lib.hid (show Rdr w8 g (q + 3) from hr8)
        clear hg8 hr8 HC7 HR7 hkd
        go_wp2_with fail
        with_reducible refine (one_at g (q + 3) [1, 2, 3, 0] 4 #[.int .i64 1, .int .i64 2, .int .i64 3, .int .i64 0] w8 _ HR8.out rfl (by omega) rfl rfl (by omega) (by omega)).mono ?_
        intro e w9 hone
        obtain ⟨ar, har, rfl, hr9, hg9⟩ := hone
        have HC9 := Lib.hid (HC8.out.pick hg9)
        have HR9 := Lib.hid (show Rdr w9 g (q + 4) from hr9)
        clear hg9 hr9 HC8 HR8 har
        go_upto_region 11 with fail
        obtain ⟨bc, hbc⟩ : ∃ bc, w9.heap.size = bc := ⟨_, rfl⟩
        have HI := Lib.hid (show RIn W (w9.alloc (.cells #[.int .i64 x1, .int .i64 x2, .int .i64 kd, .int .i64 ar, .int .i64 0, .int .i64 (2 * l + 1), .int .i64 (2 * l + 2)] 26)) g gs bc (.slice Ao l co) cs l x2 (q + 4) from RIn.start HC9.out HR9.out (c := ⟨x1, x2, kd, ar, 0, 2 * l + 1, 2 * l + 2⟩) rfl hbc)
        rw [hbc]
        clear HC9 HR9 hbc
        generalize w9.alloc (.cells #[.int .i64 x1, .int .i64 x2, .int .i64 kd, .int .i64 ar, .int .i64 0, .int .i64 (2 * l + 1), .int .i64 (2 * l + 2)] 26) = wa at *
        go_cut [63] (fun t wx => (∃ b, t = .bool b) ∧ RIn W wx g gs bc (.slice Ao l co) cs l x2 (q + 4))
        case first =>
          obtain ⟨c, hco, hcb⟩ := HI.out.blk
          have k2 := hcb.cell (i := 2) rfl
          have hbz := hcb.lt
          clear hcb
          cases q1 : (nm.toList == [114, 101, 103, 105, 115, 116, 101, 114])
          · go_wp2_with fail
            go_meet
            exact ⟨⟨_, rfl⟩, HI.out⟩
          · cases q2 : (c.kind == 1)
            all_goals
              go_wp2_with fail
              go_meet
              exact ⟨⟨_, rfl⟩, HI.out⟩
        case rest =>
          obtain ⟨⟨b1, rfl⟩, hi1⟩ := hcut
          have HI1 := Lib.hid hi1
          clear hi1 HI
          go_upto_if 63 with fail
          go_cut [] (fun wx => RIn W wx g gs bc (.slice Ao l co) cs l x2 (q + 4))
          case first =>
            obtain ⟨c, hco, hcb⟩ := HI1.out.blk
            have k2 := hcb.cell (i := 2) rfl
            have hfz := hcb.free 2
            have hbz := hcb.lt
            have HB := Lib.hid hcb
            clear hcb
            cases b1
            · go_wp2_with fail
              go_meet
              exact HI1.out
            · go_wp2_with fail
              go_meet
              exact HI1.out.set_ (c := { c with kind := 2 }) hco (HB.out.kind_ 2)
          case rest =>
            have HI2 := Lib.hid hcut
            clear hcut HI1
            go_upto_region 13 with fail
            go_cut [71] (fun t wx => (∃ b, t = .bool b) ∧ RIn W wx g gs bc (.slice Ao l co) cs l x2 (q + 4))
            case first =>
              obtain ⟨c, hco, hcb⟩ := HI2.out.blk
              have k2 := hcb.cell (i := 2) rfl
              have hbz := hcb.lt
              clear hcb
              cases q1 : (c.kind != 0)
              · go_wp2_with fail
                go_meet
                exact ⟨⟨_, rfl⟩, HI2.out⟩
              · cases q2 : (nm.toList == [115, 101, 116])
                all_goals
                  go_wp2_with fail
                  go_meet
                  exact ⟨⟨_, rfl⟩, HI2.out⟩
            case rest =>
              obtain ⟨⟨b2, rfl⟩, hi1⟩ := hcut
              have HI3 := Lib.hid hi1
              clear hi1 HI2
              go_upto_if 71 with fail
              go_cut [] (fun wx => RIn W wx g gs bc (.slice Ao l co) cs l x2 (q + 4))
              case first =>
                obtain ⟨c, hco, hcb⟩ := HI3.out.blk
                have k2 := hcb.cell (i := 3) rfl
                have hfz := hcb.free 3
                have hbz := hcb.lt
                have HB := Lib.hid hcb
                clear hcb
                cases b2
                · go_wp2_with fail
                  go_meet
                  exact HI3.out
                · go_wp2_with fail
                  go_meet
                  exact HI3.out.set_ (c := { c with arg := 0 }) hco (HB.out.arg_ 0)
              case rest =>
                have HI4 := Lib.hid hcut
                clear hcut HI3
                have hx2' : x2 < 2 := by omega
                go_upto_block 2 with fail
                go_cut [] (fun wx => RIn W wx g gs bc (.slice Ao l co) cs (l + 1) x2 (q + 4))
                case first =>
                  go_wp2_with fail
                  go_loopw [13] (fun i wr => ∃ z : Int, -1 ≤ z ∧ z ≤ 21 ∧ i = .int .i64 z ∧ RIn W wr g gs bc (.slice Ao l co) cs l x2 (q + 4)) (fun i _ => (21 - intOf i).toNat)
                  case atStart => exact ⟨-1, by omega, by omega, rfl, HI4.out⟩
                  case round =>
                    clear HI4
                    obtain ⟨z, hz0, hz1, rfl, hi⟩ := hrel
                    obtain ⟨wl, rfl⟩ : ∃ wl : World, wl = wr := ⟨_, rfl⟩
                    by_cases hz : z ≤ 20
                    · obtain ⟨c, hco, hcb⟩ := hi.blk
                      obtain ⟨pr, ob, kx, ag, rt, fr, tl⟩ := c
                      simp only at hco
                      subst hco
                      have k4 := hcb.cell (i := 4) rfl
                      have hfz := hcb.free 4
                      have hbz := hcb.lt
                      have hcb2 := hcb.ret_ z
                      have HI5 := Lib.hid (hi.set_ (c := ⟨pr, x2, kx, ag, z, fr, tl⟩) rfl hcb2)
                      have HCB := Lib.hid (show CBlk (wl.setCell ⟨bc, 4, none⟩ (.int .i64 z)) bc ⟨pr, x2, kx, ag, z, fr, tl⟩ from hcb2)
                      clear hcb hcb2 hi
                      go_upto_region 19 with fail
                      generalize wl.setCell ⟨bc, 4, none⟩ (.int .i64 z) = w1 at *
                      clear k4 hfz hbz
                      obtain ⟨A, n, ca, ha1, ha2, hst, hnl⟩ := HI5.out.rc.at_ hx2'
                      obtain ⟨st, s1, s2, s3, s4, s5⟩ := hst
                      have hgz1 : gs < w1.heap.size := HI5.out.rc.lt _ HI5.out.rc.mgs
                      have d0 := HCB.out.cell (i := 0) rfl
                      have d1 := HCB.out.cell (i := 1) rfl
                      have d2 := HCB.out.cell (i := 2) rfl
                      have d3 := HCB.out.cell (i := 3) rfl
                      have d4 := HCB.out.cell (i := 4) rfl
                      have d5 := HCB.out.cell (i := 5) rfl
                      have d6 := HCB.out.cell (i := 6) rfl
                      have hbz := HCB.out.lt
                      simp only at d0 d1 d2 d3 d4 d5 d6
                      obtain ⟨bb, hbb⟩ : ∃ bb, (z == stepA o st kx ag) = bb := ⟨_, rfl⟩
                      have HSTEP := Lib.hid (fun (V : World) (hV : RowInts V A st) => show Calls Try.prog 61 #[.string nm, .slice A n ca, CallD.val ⟨pr, x2, kx, ag, z, fr, tl⟩] V fun e w' => StepTo V w' A n (stepS o st kx ag) bb e from hbb ▸ specStep_of o nm ho st A n ca ⟨pr, x2, kx, ag, z, fr, tl⟩ V hV s2 s3 s4 (by omega))
                      have HROW := Lib.hid s1
                      have HST := Lib.hid (show StAt w1 [bc, gs, g] (.slice Ao l co) A n ca from ⟨st, s1, s2, s3, s4, s5⟩)
                      have HN := Lib.hid s2
                      clear s1 s2 s3 s4 s5 hbb
                      have hx20 : (0 : Int) ≤ (x2 : Int) := by omega
                      have hx21 : (x2 : Int) < 2 := by omega
                      go_region_held3 (fun w' => w'.cell? ⟨bc, 0, none⟩ = some (.int .i64 pr) ∧ w'.cell? ⟨bc, 1, none⟩ = some (.int .i64 x2) ∧ w'.cell? ⟨bc, 2, none⟩ = some (.int .i64 kx) ∧ w'.cell? ⟨bc, 3, none⟩ = some (.int .i64 ag) ∧ w'.cell? ⟨bc, 4, none⟩ = some (.int .i64 z) ∧ w'.cell? ⟨bc, 5, none⟩ = some (.int .i64 fr) ∧ w'.cell? ⟨bc, 6, none⟩ = some (.int .i64 tl) ∧ w'.cell? ⟨gs, x2, none⟩ = some (.slice A n ca))
                        (first | exact ⟨t0, t1, t2, t3, t4, t5, t6, t7⟩ | go_keep)
                        (first | (go_at_call 61; with_reducible refine (HSTEP.out _ ?_).mono ?_; exact HROW.out.below (by repeat (first | exact Below.refl _ _ | assumption | refine below_alloc ?_ _ | refine below_trans' ?_ (by assumption) | refine Below.drew ?_)); intro e w2 hd; unfold StepTo at hd; obtain ⟨A', n', c', he, r1, r2, r3, r4, r5, hb2⟩ := hd; subst he; have t0 := cell_below (w := w1) (w' := w2) (by repeat (first | exact Below.refl _ _ | assumption | refine below_alloc ?_ _ | refine below_trans' ?_ (by assumption) | refine Below.drew ?_)) d0; have t1 := cell_below (w := w1) (w' := w2) (by repeat (first | exact Below.refl _ _ | assumption | refine below_alloc ?_ _ | refine below_trans' ?_ (by assumption) | refine Below.drew ?_)) d1; have t2 := cell_below (w := w1) (w' := w2) (by repeat (first | exact Below.refl _ _ | assumption | refine below_alloc ?_ _ | refine below_trans' ?_ (by assumption) | refine Below.drew ?_)) d2; have t3 := cell_below (w := w1) (w' := w2) (by repeat (first | exact Below.refl _ _ | assumption | refine below_alloc ?_ _ | refine below_trans' ?_ (by assumption) | refine Below.drew ?_)) d3; have t4 := cell_below (w := w1) (w' := w2) (by repeat (first | exact Below.refl _ _ | assumption | refine below_alloc ?_ _ | refine below_trans' ?_ (by assumption) | refine Below.drew ?_)) d4; have t5 := cell_below (w := w1) (w' := w2) (by repeat (first | exact Below.refl _ _ | assumption | refine below_alloc ?_ _ | refine below_trans' ?_ (by assumption) | refine Below.drew ?_)) d5; have t6 := cell_below (w := w1) (w' := w2) (by repeat (first | exact Below.refl _ _ | assumption | refine below_alloc ?_ _ | refine below_trans' ?_ (by assumption) | refine Below.drew ?_)) d6; have t7 := cell_below (w := w1) (w' := w2) (by repeat (first | exact Below.refl _ _ | assumption | refine below_alloc ?_ _ | refine below_trans' ?_ (by assumption) | refine Below.drew ?_)) ha1))
                      have HI6 := Lib.hid (show RIn W w2 g gs bc (.slice Ao l co) cs l x2 (q + 4) from (HI5.out.below (below_alloc0 hb2)))
                      have HS6 := Lib.hid (show StAt w2 [bc, gs, g] (.slice Ao l co) A' n' c' from HST.out.of_step (w' := w2) (fun k hk => HI5.out.rc.lt k hk) (fun k hk => (HI5.out.rc.ow k hk).2) r1 r2 r3 r4 r5)
                      have hn' : n' ≤ l + 1 := by
                        have h1 := stepS_len o st kx ag
                        have h2 := HN.out
                        omega
                      obtain ⟨_, _, _, f1, f2, _⟩ := HI6.out.rc.at_ hx2'
                      have hgz2 : gs < w2.heap.size := HI6.out.rc.lt _ HI6.out.rc.mgs
                      have hbz2 : bc < w2.heap.size := HI6.out.rc.lt _ (by simp)
                      clear d0 d1 d2 d3 d4 d5 d6 ha1 ha2 hb2 r1 r2 r5 HI5 HST HROW HSTEP HCB t0 t2 t3 t4 t5 t6 f1
                      cases bb
                      · go_wp2_with fail
                        go_roundw
                        case rel => exact ⟨z + 1, by omega, by omega, by go_num, HI6.out⟩
                        case measure => simp [intOf]; omega
                      · go_wp2_with fail
                        go_meet
                        exact HI6.out.put hx2' HS6.out hn' (by omega)
                    · have HI5 := Lib.hid hi
                      clear hi
                      go_wp2_with fail
                      go_meet
                      exact HI5.out.weak (by omega)
                case rest =>
                  have HI7 := Lib.hid hcut
                  clear hcut HI4
                  go_wp2_with fail
                  with_reducible refine (pick_at g (q + 4) 12 12 _ HI7.out.rdr rfl (by omega) (by omega) (by omega)).mono ?_
                  intro e w2 hpk
                  obtain ⟨x, hx, rfl, hr8, hg8⟩ := hpk
                  have HI8 := Lib.hid (show RIn W w2 g gs bc (.slice Ao l co) cs (l + 1) x2 (q + 5) from HI7.out.pick hg8 hr8)
                  clear hg8 hr8 HI7
                  obtain ⟨b3, hb3⟩ : ∃ b3, ((x : Int) == 0) = b3 := ⟨_, rfl⟩
                  go_upto_if 98 with fail
                  go_cut [] (fun wx => ∃ q', q' ≤ q + 6 ∧ RIn W wx g gs bc (.slice Ao l co) cs (l + 1) x2 q')
                  case first =>
                    obtain ⟨c, hco, hcb⟩ := HI8.out.blk
                    have HB := Lib.hid hcb
                    clear hcb
                    cases b3
                    · go_wp2_with fail
                      go_meet
                      exact ⟨q + 5, by omega, HI8.out⟩
                    · go_wp2_with fail
                      with_reducible refine (one_at g (q + 5) [0, 1, -1, 2] 4 #[.int .i64 0, .int .i64 1, .int .i64 (-1), .int .i64 2] w2 _ HI8.out.rdr rfl (by omega) rfl rfl (by omega) (by omega)).mono ?_
                      intro e w9 hone
                      obtain ⟨y, _, rfl, hr9, hg9⟩ := hone
                      have HI9 := Lib.hid (show RIn W w9 g gs bc (.slice Ao l co) cs (l + 1) x2 (q + 6) from HI8.out.pick hg9 hr9)
                      clear hr9 hg9 HB hco
                      obtain ⟨c, hco, hcb⟩ := HI9.out.blk
                      have k4 := hcb.cell (i := 4) rfl
                      have hfz := hcb.free 4
                      have hbz := hcb.lt
                      have HB := Lib.hid hcb
                      clear hcb
                      go_wp2_with fail
                      go_meet
                      exact ⟨q + 6, by omega, HI9.out.set_ (c := { c with ret := y }) hco (HB.out.ret_ y)⟩
                  case rest =>
                    obtain ⟨q', hq', hi9⟩ := hcut
                    have HI9 := Lib.hid hi9
                    obtain ⟨c, hco, hcb⟩ := hi9.blk
                    obtain ⟨pr, ob, kx, ag, rt, fr, tl⟩ := c
                    have d0 := hcb.cell (i := 0) rfl
                    have d1 := hcb.cell (i := 1) rfl
                    have d2 := hcb.cell (i := 2) rfl
                    have d3 := hcb.cell (i := 3) rfl
                    have d4 := hcb.cell (i := 4) rfl
                    have d5 := hcb.cell (i := 5) rfl
                    have d6 := hcb.cell (i := 6) rfl
                    simp only at d0 d1 d2 d3 d4 d5 d6
                    have hbz := hcb.lt
                    clear hcb hi9 HI8 hco hb3
                    have HOO := Lib.hid (HL.out ▸ HI9.out.rc.oo)
                    go_wp2_with (at_builtin; refine wpList_append_lies _ rfl (.tmp 103) (.tmp 105) 36 rfl W.heap.size 26 e0 _ 7 56 Try.underlying36 he0 hy0 hy1 hy2 rfl (by omega) _ l (cs.flatMap CallD.vals) rfl (own_below HOO.out (by repeat (first | exact Below.refl _ _ | assumption | refine below_alloc ?_ _ | refine below_trans' ?_ (by assumption) | refine Below.drew ?_))) _ 1 1 (CallD.vals ⟨pr, ob, kx, ag, rt, fr, tl⟩) rfl rfl (call_new _ ⟨pr, ob, kx, ag, rt, fr, tl⟩ _) (vals_one ⟨pr, ob, kx, ag, rt, fr, tl⟩) (by omega) (by unfold maxLen; omega) (by omega) (Nat.le_trans HI9.out.rc.but.size (Below.size (below_alloc (Below.refl wc.heap.size wc) _))) _ rfl ?_; intro gg cap wn hown hgrow hat hlt)
                    have HOW := Lib.hid hown
                    have HGR := Lib.hid hgrow
                    have HAT := Lib.hid hat
                    clear hown hgrow hat hlt d0 d1 d2 d3 d4 d5 d6
                    go_roundw
                    case rel =>
                      have hl := HL.out
                      subst hl
                      have hrc := HI9.out.rc.less (fun e => by have := HI9.out.bcw; omega) HI9.out.bgs
                      have hrn := (hrc.below (below_alloc (Below.refl _ _) _)).app (c := ⟨pr, ob, kx, ag, rt, fr, tl⟩) HOW.out HGR.out HAT.out (by simp)
                      have hrd : Rdr wn g q' := (HI9.out.rdr.below (below_alloc (Below.refl _ _) _)).grown HGR.out (fun k hk => by have := (HI9.out.rc.ow k hk).1; omega)
                      exact ⟨m - 1, q', cs ++ [⟨pr, ob, kx, ag, rt, fr, tl⟩], by congr 1; omega, by simp, by simpa using hrn, by simp; omega, hrd, by omega⟩
                    case measure => simp [intOf]; omega
      · have e0 : m = 0 := by omega
        subst e0
        go_wp2_with fail
        go_ret
        exact ⟨_, cs, rfl, HC.out.oo, by rw [HL.out]; omega, HC.out.but, q, by omega, HRd.out⟩
end Go.Proofs.Ytooojfdjpmfalaa
