/-
  The vector times of events, as the program makes them, in memory of its own. No condition but lengths of at most 2 to the 20.
-/
import Derived.Test.YtcmecgnlhgjciaaVecS
import Derived.Test.YtcmecgnlhgjciaaVecP
import Derived.Test.YtcmecgnlhgjciaaIntB
import Derived.Test.YtcmecgnlhgjciaaEvTop
import Derived.Test.YtcmecgnlhgjciaaPast
namespace Go.Proofs.Ytcmecgnlhgjciaa
open Go.RowKit
set_option maxRecDepth 100000

theorem vecs_info : (Try.prog.info? 32).map (fun i => (i.zero, i.size, i.bytes)) = some (some (.slice none 0 0), 1, 24) := by kernel_rfl
theorem val_new' (w : World) (v : Value) (E : TypeId) {n : Nat} (hn : n = w.heap.size) : ∀ j u, [v][j]? = some u → (w.alloc (.cells #[v] E)).cell? ((⟨n, 0, none⟩ : Addr).add j) = some u := by
  subst hn
  intro j u hu
  rw [Addr.add_lit, Nat.zero_add, World.cell?_alloc_new]
  simpa using hu
theorem rowV_one (b : Nat) : ∀ u ∈ [rowV b], u.oneCell' = true := by
  intro u hu
  simp only [List.mem_cons, List.not_mem_nil, or_false] at hu
  subst hu; rfl
theorem Vecs.start (w : World) (base : Nat) (hb : base ≤ w.heap.size) : Vecs (w.alloc (.cells #[] 32)) base (some ⟨w.heap.size, 0, none⟩) 0 0 [] [] :=
  ⟨World.ownsRow_made w #[] 0 hb (by simp [maxLen]) rfl, rfl, rfl, fun i b r h => by simp at h, by simp, fun b hb => by simp at hb⟩
def VecPost (cs : List EventD) (w w' : World) (e : Ending) : Prop := ∃ A c bs, e = .returned (.slice A (vectorsL cs).length c) ∧ Vecs w' w.heap.size A (vectorsL cs).length c bs (vectorsL cs) ∧ Below w.heap.size w w'
theorem ev_proc {cs : List EventD} (hv : evB cs = true) {i : Nat} {c : EventD} (hc : cs[i]? = some c) : ∃ p : Nat, c.proc = p ∧ p < 3 := by
  have h := evB_at hv hc
  simp only [evOk, inB, Bool.and_eq_true, decide_eq_true_eq] at h
  exact ⟨c.proc.toNat, by omega, by omega⟩

set_option maxHeartbeats 4000000 in
theorem implVectorsOf_calls (cs : List EventD) (A : Option Addr) (cap : Nat) (w : World) (hr : RowEvents w A cs) (hl : cs.length ≤ 1048576) (hcap : cs.length ≤ cap) :
    Calls Try.prog 40 #[.slice A cs.length cap] w fun e w' => VecPost cs w w' e := by
  obtain ⟨i0, hi0, hz0, hz1, hz2⟩ := info_parts vecs_info
  obtain ⟨j0, hj0, hy0, hy1, hy2⟩ := info_parts ints_info
  have HR := Lib.hid hr
  clear hr
  cases hv : evB cs
  · have E1 := Lib.hid (show vectorsL cs = [] by simp [vectorsL, hv])
    have HV := Lib.hid hv
    clear hv
    go_enter Try.func40, Try.ntmps40
    go_wp2_with (go_at_call 18; refine (implValidEvents_calls cs A cap _ (HR.out.below (below_alloc (Below.refl _ _) _)) hl hcap false HV.out).mono ?_; rintro e w1 ⟨rfl, hb1⟩)
    go_ret
    unfold VecPost
    rw [E1.out]
    exact ⟨_, _, _, rfl, (Vecs.start w w.heap.size (Nat.le_refl _)).below hb1, (below_alloc (Below.refl _ _) _).trans (hb1.mono (by simp))⟩
  have E1 := Lib.hid (show vectorsL cs = vecsTo cs cs.length by simp [vectorsL, hv])
  have HV := Lib.hid hv
  have h7 := evB_len hv
  have HPC := Lib.hid (fun (i : Nat) (c : EventD) (hc : cs[i]? = some c) => ev_proc hv hc)
  clear hv
  go_enter Try.func40, Try.ntmps40
  go_wp2_with (go_at_call 18; refine (implValidEvents_calls cs A cap _ (HR.out.below (below_alloc (Below.refl _ _) _)) hl hcap true HV.out).mono ?_; rintro e w1 ⟨rfl, hb1⟩)
  have hV1 := (Vecs.start w w.heap.size (Nat.le_refl _)).below hb1
  have hbw1 : Below w.heap.size w w1 := (below_alloc (Below.refl _ _) _).trans (hb1.mono (by simp))
  have hz1' : w.heap.size < w1.heap.size := by have := hb1.size; simp at this; omega
  refine (implpast_calls cs A cap _ (HR.out.below hbw1) (by omega) hcap).mono ?_
  rintro e w2 ⟨vr, rfl, hor, hb2⟩
  have hV2 := hV1.below hb2
  have hbw2 : Below w.heap.size w w2 := below_trans' hbw1 hb2
  unfold OwnInts at hor
  rw [show (pastL cs).length = cs.length from pastI_len _ _] at hor
  have hapart : ∀ k, vr.ownBlock = some k → w.heap.size < k := fun k hk => by have := (hor.lt k hk).1; omega
  obtain ⟨Ar, cr, rfl, hrc, hrm, _⟩ := own_form hor
  unfold pastL at hor
  clear hV1 hb1 hb2 hbw1 hz1' HV
  generalize hn : cs.length = n at *
  have Hn := Lib.hid hn
  clear hn
  generalize hbr : w1.heap.size = br at *
  have HO := Lib.hid hor
  have HB2 := Lib.hid hbw2
  have HA := Lib.hid hapart
  have HV2 := Lib.hid hV2
  clear hor hbw2 hapart hV2
  have hlen : (n : Int) ≤ 7 := by omega
  go_wp2_with fail
  go_loopw [3, 17] (fun v i wr => ∃ (k : Nat) (Ao : Option Addr) (co : Nat) (bs : List Nat), k ≤ n ∧ i = .int .i64 k ∧ v = .slice Ao k co ∧ Vecs wr w.heap.size Ao k co bs (vecsTo cs k) ∧ Below w.heap.size w wr ∧ Hid (wr.ownsRow br 3 1 (.slice Ar n cr) n ((pastI cs n).flatMap intVals)) ∧ Hid (∀ k, Value.ownBlock (.slice Ar n cr) = some k → v.ownBlock ≠ some k)) (fun _ i _ => n - (intOf i).toNat)
  case atStart => exact ⟨0, _, _, _, by omega, rfl, rfl, HV2.out, HB2.out, HO.out, fun k hk h => by have := HA.out k hk; simp [Value.ownBlock] at h; omega⟩
  case round =>
    clear HO HB2 HA HV2
    obtain ⟨i, Ao, co, bs, hi, rfl, rfl, hV, hb, HP, HAp⟩ := hrel
    obtain ⟨wo, rfl⟩ : ∃ wo : World, wo = wr := ⟨_, rfl⟩
    by_cases hlt : i < n
    · have hrow : RowInts wo Ar (pastI cs n) := RowOf.of_own (pastI_len cs n).symm (fun _ _ => rfl) HP.out
      obtain ⟨gb, goff, rfl, hgat⟩ := hrow (by rw [pastI_len]; omega)
      have r0 := RowInts.at_ hgat (pastI_row cs hlt)
      have hgb : gb < wo.heap.size := World.block_lt_of_cell? _ _ r0
      have hrl := pastRow_lt cs i
      have hp1 : 2 ^ (i + 1) ≤ 2 ^ 8 := Nat.pow_le_pow_right (by omega) (by omega)
      have hr20 : pastRow cs i < 2 ^ 60 := by omega
      have HVo := Lib.hid hV
      have HBo := Lib.hid hb
      have hws := hb.size
      clear hrow hgat hV hb hrl hp1
      have hi0' : (0 : Int) ≤ (i : Int) := by omega
      have hin : (i : Int) < (n : Int) := by omega
      go_wp2_with (at_make; refine wpList_make_full _ rfl _ _ 32 rfl w.heap.size 3 j0 _ 1 Try.underlying32 hj0 hy0 hy1 _ _ _ _ 3 rfl rfl rfl rfl (by rw [hy2]; omega) (by unfold maxLen; omega) (by omega) ?_; intro w5 hown5 hgrow5)
      have hb5 : Below wo.heap.size wo w5 := (Below.refl _ _).grown hgrow5 (Nat.le_refl _) (by simp)
      have hk5 : IntBlk w5 wo.heap.size (vecI cs i 0) := by rw [vecI_zero]; exact IntBlk.made hown5
      obtain ⟨gv, hgv⟩ : ∃ gv, wo.heap.size = gv := ⟨_, rfl⟩
      rw [hgv] at hk5 ⊢
      have Hgv := Lib.hid hgv
      clear hown5 hgrow5 hgv
      go_loopw [24] (fun j wq => ∃ k : Nat, k ≤ n ∧ j = .int .i64 k ∧ Below wo.heap.size wo wq ∧ IntBlk wq gv (vecI cs i k)) (fun j _ => n - (intOf j).toNat)
      case atStart => exact ⟨0, by omega, rfl, hb5, hk5⟩
      case round =>
        clear hb5 hk5
        obtain ⟨k, hk, rfl, hbq, hkq⟩ := hrel
        by_cases hkl : k < n
        · obtain ⟨b0, off, rfl, hat⟩ := HR.out (by have := Hn.out; omega)
          obtain ⟨c, hc⟩ : ∃ c, cs[k]? = some c := ⟨cs[k]'(by have := Hn.out; omega), List.getElem?_eq_getElem _⟩
          obtain ⟨p, hp, hp3⟩ := HPC.out k c hc
          have hbw := HBo.out.trans (hbq.mono HBo.out.size)
          obtain ⟨x0, x1, x2⟩ := (RowEvents.at_ hat hc).below hbw
          have hbz : b0 < wr.heap.size := World.block_lt_of_cell? _ _ x0
          rw [hp] at x0
          have hgz := hkq.lt
          have cv := hkq.cell (vecI_get cs i k p hp3)
          have fv := hkq.free (i := p)
          have hset := vecI_set cs i k p hp3 (by rw [evAt_eq hc]; exact hp)
          have hvl := vecK_le cs i (p : Int) k
          have hbit := bit_and (r := pastRow cs i) hr20 k
          have hbl := bitN_le (pastRow cs i) k
          have Hset := Lib.hid hset
          have HBQ := Lib.hid hbq
          have HKQ := Lib.hid hkq
          clear hat hc hbw hbq hkq hset
          generalize vecK cs i (p : Int) k = vk at *
          generalize bitN (pastRow cs i) k = bb at *
          have hk0 : (0 : Int) ≤ (k : Int) := by omega
          have hkn : (k : Int) < (n : Int) := by omega
          have hk64 : (k : Int) ≤ 64 := by omega
          have hp0 : (0 : Int) ≤ (p : Int) := by omega
          have hp3' : (p : Int) < 3 := by omega
          have hvk : (vk : Int) ≤ 7 := by omega
          have hbb : (bb : Int) ≤ 1 := by omega
          have hvk0 : (0 : Int) ≤ (vk : Int) := by omega
          have hbb0 : (0 : Int) ≤ (bb : Int) := by omega
          have K6 := HKQ.out.set_ (i := p) ((vk + bb : Nat) : Int)
          rw [Hset.out, show ((vk + bb : Nat) : Int) = (vk : Int) + (bb : Int) by omega] at K6
          have B6 := HBQ.out.setCell (p := ⟨gv, p, none⟩) (by have := Hgv.out; show wo.heap.size ≤ gv; omega) (.int .i64 ((vk : Int) + (bb : Int)))
          have HK6 := Lib.hid K6
          have HB6 := Lib.hid B6
          clear K6 B6
          go_wp2
          exact ⟨⟨k + 1, by omega, by go_num, below_alloc' HB6.out _ (by simp), HK6.out.below (below_alloc (Below.refl _ _) _)⟩, by simp [intOf]; omega⟩
        · have e1 : k = n := by omega
          subst e1
          have hge : ¬ ((k : Int) < (k : Int)) := by omega
          have hVq := HVo.out.below hbq
          have hnb : gv ∉ bs := fun h => by have := (HVo.out.inn_ge gv h).2; have := Hgv.out; omega
          have hno : (Value.slice Ao i co).ownBlock ≠ some gv := fun h => by have := (HVo.out.out_ge gv h).2; have := Hgv.out; omega
          have hgl := hkq.lt
          have hrow := hkq.own (base := w.heap.size) (n := 3) (vecI_len cs i k) (by have := Hgv.out; omega) (by unfold maxLen; omega)
          rw [vecRow_all cs hlt] at hrow
          have hsz := hbq.size
          have HVq := Lib.hid hVq
          have Hrow := Lib.hid hrow
          have HBQ := Lib.hid (below_trans' HBo.out hbq)
          have HPQ := Lib.hid (own_below HP.out hbq)
          clear hVq hrow hkq hbq HP HVo HBo r0 hgb
          go_wp2_with (at_builtin; refine wpList_append_lies _ rfl (.tmp 42) (.tmp 44) 44 rfl w.heap.size 32 i0 _ 1 24 Try.underlying44 hi0 hz0 hz1 hz2 rfl (by omega) _ i (bs.map rowV) rfl (HVq.out.below (below_alloc (Below.refl _ _) _)).out _ 1 1 [rowV gv] rfl rfl (val_new' _ _ _ rfl) (rowV_one _) (by omega) (by unfold maxLen; omega) (by omega) (by simp; omega) _ rfl ?_; intro g1 cap1 wz hown1 hgrow1 hat1 hlt1)
          have hVz := (HVq.out.below (below_alloc (Below.refl _ _) _)).snoc (r := vecRow cs i) hown1 hgrow1 hat1 rfl rfl (Hrow.out.alloc _) hnb hno
          rw [← vecsTo_succ] at hVz
          have HVz := Lib.hid hVz
          have hPz : wz.ownsRow br 3 1 (.slice (some ⟨gb, goff, none⟩) k cr) k ((pastI cs k).flatMap intVals) := by
            refine (HPQ.out.alloc _).kept hgrow1 ?_
            cases hvr : Value.ownBlock (Value.slice (some ⟨gb, goff, none⟩) k cr) with
            | none => exact .inl rfl
            | some q => exact .inr fun e => HAp.out q hvr e.symm
          have hAz : ∀ q, Value.ownBlock (Value.slice (some ⟨gb, goff, none⟩) k cr) = some q → (Value.slice (some ⟨g1, 0, none⟩) (i + 1) cap1).ownBlock ≠ some q := by
            intro q hq h
            simp only [Value.ownBlock, Option.some.injEq] at h
            subst h
            rcases hat1 with e | e
            · exact HAp.out _ hq e
            · have h1 := (HPQ.out.lt _ hq).2
              simp at e
              omega
          have hBz : Below w.heap.size w wz := (below_alloc HBQ.out _).grown hgrow1 (by simp; omega) (fun q hq => (HVq.out.out_ge q hq).1)
          have HBz := Lib.hid hBz
          have HPz := Lib.hid hPz
          have HAz := Lib.hid hAz
          clear hVz hPz hAz hBz hown1 hgrow1 hat1
          go_roundw
          case rel => exact ⟨i + 1, _, _, _, by omega, by go_num, rfl, HVz.out, HBz.out, HPz.out, HAz.out⟩
          case measure => simp [intOf]; omega
    · have e1 : i = n := by omega
      subst e1
      have hge : ¬ ((i : Int) < (i : Int)) := by omega
      have hvl := vecsTo_len cs i
      have HVo := Lib.hid hV
      have HBo := Lib.hid hb
      clear hV hb HP HAp
      go_wp2_with fail
      go_ret
      unfold VecPost
      rw [E1.out, hvl]
      exact ⟨_, _, _, rfl, HVo.out, HBo.out⟩
end Go.Proofs.Ytcmecgnlhgjciaa
