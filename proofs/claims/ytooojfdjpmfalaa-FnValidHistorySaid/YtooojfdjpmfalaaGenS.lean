/-
  The stretching of a drawn history leaves a row of calls of the call's own, as long as it was. No condition but at most six calls and few picks before.
-/
import Derived.Test.YtooojfdjpmfalaaGenG
namespace Go.Proofs.Ytooojfdjpmfalaa
open Go.RowKit
set_option maxRecDepth 100000

theorem calls_ones (cs : List CallD) : ∀ u ∈ cs.flatMap CallD.vals, u.oneCell' = true := by
  intro u hu
  simp only [List.mem_flatMap] at hu
  obtain ⟨c, _, hc⟩ := hu
  exact vals_one c u hc
theorem own_atC {w : World} {B g n cap : Nat} {cs : List CallD} (h : w.ownsRow B 26 7 (.slice (some ⟨g, 0, none⟩) n cap) n (cs.flatMap CallD.vals)) : ∀ j u, (cs.flatMap CallD.vals)[j]? = some u → w.cell? ((⟨g, 0, none⟩ : Addr).add j) = some u := by
  intro j u hu
  rw [Addr.add_lit, Nat.zero_add]
  exact own_cell h hu

theorem set_call (c : CallD) {f : Nat} (hf : f < 7) (x : Int) : ∃ c', CallD.vals c' = (CallD.vals c).set f (.int .i64 x) := by
  have h : f = 0 ∨ f = 1 ∨ f = 2 ∨ f = 3 ∨ f = 4 ∨ f = 5 ∨ f = 6 := by omega
  rcases h with rfl | rfl | rfl | rfl | rfl | rfl | rfl
  · exact ⟨{ c with proc := x }, rfl⟩
  · exact ⟨{ c with obj := x }, rfl⟩
  · exact ⟨{ c with kind := x }, rfl⟩
  · exact ⟨{ c with arg := x }, rfl⟩
  · exact ⟨{ c with ret := x }, rfl⟩
  · exact ⟨{ c with fr := x }, rfl⟩
  · exact ⟨{ c with till := x }, rfl⟩
def InnerOK (wo : World) (g gb l cb q : Nat) (wq : World) : Prop := ∃ C : List CallD, wq.ownsRow wo.heap.size 26 7 (.slice (some ⟨gb, 0, none⟩) l cb) l (C.flatMap CallD.vals) ∧ C.length = l ∧ But g wo wq ∧ Rdr wq g q
theorem InnerOK.store {wo wq : World} {g gb l cb q j f : Nat} (h : InnerOK wo g gb l cb q wq) (hgb : wo.heap.size ≤ gb) (hg : g < wo.heap.size) (hj : j < l) (hf : f < 7) (x : Int) : InnerOK wo g gb l cb q (wq.setCell ⟨gb, j * 7 + f, none⟩ (.int .i64 x)) := by
  obtain ⟨C, ho, hC, hb, hr⟩ := h
  obtain ⟨c, hc⟩ : ∃ c, C[j]? = some c := ⟨C[j]'(by omega), List.getElem?_eq_getElem _⟩
  obtain ⟨c', he⟩ := set_call c hf x
  refine ⟨C.set j c', ?_, by simp [hC], hb.own (gset_grown wq gb _ _) (fun i hi => by injection hi with hi; omega), hr.grown (gset_grown wq gb _ _) (fun i hi => by injection hi with hi; omega)⟩
  rw [← flat_set (fun c => CallD.vals_len c) C j f c c' _ hc hf he]
  exact own_set ho (by omega) _

set_option maxHeartbeats 8000000 in
theorem stretched : Stretched := by
  intro w0 g p cs v w ho hl hb hr hp hgz
  obtain ⟨i0, hi0, hz0, hz1, hz2⟩ := info_parts info_impl_Call
  have HB := Lib.hid hb
  have HR := Lib.hid hr
  by_cases h0 : cs.length = 0
  · obtain ⟨Ao, co, rfl, hoc, hom, _⟩ := own_form ho
    have HO := Lib.hid ho
    have HZ := Lib.hid h0
    clear ho hb hr
    rw [h0]
    clear h0
    go_enter Try.func57, Try.ntmps57
    go_wp2_with fail
    go_ret
    have h := HO.out
    rw [HZ.out] at h
    exact ⟨_, cs, rfl, by rw [HZ.out]; exact h, by rw [HZ.out]; omega, HB.out, p, by omega, HR.out⟩
  obtain ⟨go, co, rfl, hgo, hgl⟩ := World.ownsRow.form ho (by omega)
  have hoc : cs.length ≤ co := by
    obtain ⟨_, _, e1, h2, _⟩ := own_form ho
    cases e1; exact h2
  have HO := Lib.hid ho
  clear ho hb hr
  have hl0 : (0 : Int) < (cs.length : Int) := by omega
  have hl7 : (cs.length : Int) ≤ 6 := by omega
  have hlz : ((cs.length : Int) == 0) = false := by rw [beq_eq_false_iff_ne]; omega
  obtain ⟨l, hll⟩ : ∃ l, cs.length = l := ⟨_, rfl⟩
  rw [hll] at HO hl0 hl7 hlz hl hoc h0 ⊢
  have HLL := Lib.hid hll
  clear hll
  have hmade : (w.alloc (.cells #[] 26)).ownsRow w0.heap.size 26 7 (.slice (some ⟨w.heap.size, 0, none⟩) 0 0) 0 [] := World.ownsRow_made w #[] 0 HB.out.size (by simp [maxLen]) rfl
  go_enter Try.func57, Try.ntmps57
  go_wp2_with (at_builtin; refine wpList_append_own _ rfl (.tmp 17) (.tmp 18) 36 rfl w0.heap.size 26 i0 _ 7 56 Try.underlying36 hi0 hz0 hz1 hz2 rfl (by omega) _ 0 [] rfl (World.ownsRow_made w #[] 0 HB.out.size (by simp [maxLen]) rfl) ⟨go, 0, none⟩ l co (cs.flatMap CallD.vals) rfl HO.out.1 (own_atC (own_below HO.out (below_alloc (Below.refl _ _) _))) (calls_ones cs) (by unfold maxLen; omega) (by omega) (by have := HB.out.size; simp; omega) ?_; intro v2 w2 hown2 hgrow2 _)
  rw [Nat.zero_add, List.nil_append] at hown2
  have HO2 := Lib.hid hown2
  have HB2 := Lib.hid ((HB.out.alloc (.cells #[] 26)).own hgrow2 (fun k hk => (hmade.lt k hk).1))
  have HR2 := Lib.hid ((HR.out.below (below_alloc (Below.refl _ _) (.cells #[] 26))).grown hgrow2 (fun k hk => by have h := (hmade.lt k hk).1; omega))
  clear hmade hown2 hgrow2 HB HR HO
  go_wp2_with fail
  with_reducible refine (one_at g p [4, 8, 2, 0, 12] 5 #[.int .i64 4, .int .i64 8, .int .i64 2, .int .i64 0, .int .i64 12] w2 _ HR2.out rfl (by omega) rfl rfl (by omega) (by omega)).mono ?_
  intro e w3 hone
  obtain ⟨z, hz, rfl, hr3, hg3⟩ := hone
  obtain ⟨m, rfl, hm12⟩ : ∃ m : Nat, z = m ∧ m ≤ 12 := ⟨z.toNat, by simp at hz; omega, by simp at hz; omega⟩
  have HB3 := Lib.hid (HB2.out.trans hg3)
  have HO3 := Lib.hid (own_high HO2.out hg3 (fun k hk => by injection hk with hk; omega))
  have HR3 := Lib.hid hr3
  clear hr3 hg3 hz HB2 HO2 HR2
  go_wp2_with fail
  go_loopw [5, 6] (fun v i wr => ∃ (m q : Nat) (L : List CallD), i = .int .i64 m ∧ m ≤ 12 ∧ wr.ownsRow w0.heap.size 26 7 v l (L.flatMap CallD.vals) ∧ L.length = l ∧ But g w0 wr ∧ Rdr wr g q ∧ q + 3 * m ≤ p + 37) (fun _ i _ => (intOf i).toNat)
  case atStart => exact ⟨m, p + 1, cs, rfl, hm12, HO3.out, HLL.out, HB3.out, HR3.out, by omega⟩
  case round =>
    clear HB3 HO3 HR3 hm12
    obtain ⟨m, q, L, rfl, hm, ho, hL, hb, hr, hq⟩ := hrel
    obtain ⟨wo, rfl⟩ : ∃ wo : World, wo = wr := ⟨_, rfl⟩
    have HO := Lib.hid ho
    have HB := Lib.hid hb
    have HR := Lib.hid hr
    have HL := Lib.hid hL
    obtain ⟨gh, ch, rfl, hgh, hghl⟩ := World.ownsRow.form ho (by omega)
    have hch : l ≤ ch := by
      obtain ⟨_, _, e1, h2, _⟩ := own_form ho
      cases e1; exact h2
    clear ho hb hr hL
    by_cases hm0 : 0 < m
    · have hmi : (0 : Int) < (m : Int) := by omega
      have hmj : (m : Int) ≤ 12 := by omega
      have hmade : (wo.alloc (.cells #[] 26)).ownsRow wo.heap.size 26 7 (.slice (some ⟨wo.heap.size, 0, none⟩) 0 0) 0 [] := World.ownsRow_made wo #[] 0 (Nat.le_refl _) (by simp [maxLen]) rfl
      go_wp2_with (at_builtin; refine wpList_append_own _ rfl (.tmp 27) (.tmp 28) 36 rfl wo.heap.size 26 i0 _ 7 56 Try.underlying36 hi0 hz0 hz1 hz2 rfl (by omega) _ 0 [] rfl (World.ownsRow_made wo #[] 0 (Nat.le_refl _) (by simp [maxLen]) rfl) ⟨gh, 0, none⟩ l ch (L.flatMap CallD.vals) rfl HO.out.1 (own_atC (own_below HO.out (below_alloc (Below.refl _ _) _))) (calls_ones L) (by unfold maxLen; omega) (by omega) (by simp) ?_; intro v4 w4 hown4 hgrow4 _)
      rw [Nat.zero_add, List.nil_append] at hown4
      obtain ⟨gb, cb, rfl, hgb, hgbl⟩ := World.ownsRow.form hown4 (by omega)
      have HO4 := Lib.hid hown4
      have HB4 := Lib.hid (show But g wo w4 from (((But.refl g wo).alloc (.cells #[] 26)).own hgrow4 (fun k hk => (hmade.lt k hk).1)))
      have HR4 := Lib.hid ((HR.out.below (below_alloc (Below.refl _ _) (.cells #[] 26))).grown hgrow4 (fun k hk => by have h := (hmade.lt k hk).1; have := HB.out.size; omega))
      clear hmade hown4 hgrow4
      go_wp2_with fail
      go_simp
      go_wp2_with fail
      with_reducible refine (pick_calls g q l _ HR4.out (by omega) (by omega) (by omega)).mono ?_
      intro e w5 hpk
      obtain ⟨k, hk, rfl, hr5, hg5⟩ := hpk
      have HB5 := Lib.hid (HB4.out.trans hg5)
      have HO5 := Lib.hid (own_high HO4.out hg5 (fun k hk => by injection hk with hk; have := HB.out.size; omega))
      have HR5 := Lib.hid hr5
      clear hr5 hg5 HB4 HO4 HR4
      obtain ⟨c, hc⟩ : ∃ c, L[k]? = some c := ⟨L[k]'(by have := HL.out; omega), List.getElem?_eq_getElem _⟩
      have hf5 := own_cell HO5.out (flat_at L (fun c _ => CallD.vals_len c) k c hc 5 _ rfl)
      have hf6 := own_cell HO5.out (flat_at L (fun c _ => CallD.vals_len c) k c hc 6 _ rfl)
      have hgb5 := (HO5.out.lt gb rfl).2
      have hk0 : (0 : Int) ≤ (k : Int) := by omega
      have hkl : (k : Int) < (l : Int) := by omega
      clear hc
      go_wp2_with fail
      with_reducible refine (pick_at g (q + 1) 2 2 _ HR5.out rfl (by omega) (by omega) (by omega)).mono ?_
      intro e w6 hpk
      obtain ⟨y, hy, rfl, hr6, hg6⟩ := hpk
      have HB6 := Lib.hid (HB5.out.trans hg6)
      have HO6 := Lib.hid (own_high HO5.out hg6 (fun k hk => by injection hk with hk; have := HB.out.size; omega))
      have HR6 := Lib.hid hr6
      clear hr6 hg6 HB5 HO5 HR5 hf5 hf6 hgb5
      have hyy : y = 0 ∨ y = 1 := by omega
      rcases hyy with rfl | rfl
      case' inl => generalize c.till = av
      case' inr => generalize c.fr = av
      all_goals
        go_wp2_with fail
        with_reducible refine (one_at g (q + 2) [1, -1] 2 #[.int .i64 1, .int .i64 (-1)] w6 _ HR6.out rfl (by omega) rfl rfl (by omega) (by omega)).mono ?_
        intro e w7 hone
        obtain ⟨d, hd, rfl, hr7, hg7⟩ := hone
        have HB7 := Lib.hid (HB6.out.trans hg7)
        have HO7 := Lib.hid (own_high HO6.out hg7 (fun k hk => by injection hk with hk; have := HB.out.size; omega))
        have HR7 := Lib.hid (show Rdr w7 g (q + 3) from hr7)
        clear hr7 hg7 hd HB6 HO6 HR6
        go_wp2_with fail
        go_loopw [12] (fun i wq => ∃ (j : Nat) (C : List CallD), j ≤ l ∧ i = .int .i64 j ∧ wq.ownsRow wo.heap.size 26 7 (.slice (some ⟨gb, 0, none⟩) l cb) l (C.flatMap CallD.vals) ∧ C.length = l ∧ But g wo wq ∧ Rdr wq g (q + 3)) (fun i _ => l - (intOf i).toNat)
        case atStart => exact ⟨0, L, by omega, rfl, HO7.out, HL.out, HB7.out, HR7.out⟩
        case round =>
          clear HB7 HO7 HR7
          obtain ⟨j, C, hj, rfl, ho, hC, hb, hr⟩ := hrel
          obtain ⟨wv, rfl⟩ : ∃ wv : World, wv = wr := ⟨_, rfl⟩
          have HOq := Lib.hid ho
          have HBq := Lib.hid hb
          have HRq := Lib.hid hr
          have HCq := Lib.hid hC
          clear ho hb hr hC
          by_cases hjl : j < l
          · have HIO := Lib.hid (show InnerOK wo g gb l cb (q + 3) wv from ⟨C, HOq.out, HCq.out, HBq.out, HRq.out⟩)
            obtain ⟨c', hc'⟩ : ∃ c, C[j]? = some c := ⟨C[j]'(by have := HCq.out; omega), List.getElem?_eq_getElem _⟩
            have hf5 := own_cell HOq.out (flat_at C (fun c _ => CallD.vals_len c) j c' hc' 5 _ rfl)
            have hf6 := own_cell HOq.out (flat_at C (fun c _ => CallD.vals_len c) j c' hc' 6 _ rfl)
            have hr5 := own_free HOq.out (j * 7 + 5)
            have hr6 := own_free HOq.out (j * 7 + 6)
            have hgbv := (HOq.out.lt gb rfl).2
            have hj0 : (0 : Int) ≤ (j : Int) := by omega
            have hjl' : (j : Int) < (l : Int) := by omega
            have hgo : g < wo.heap.size := by have := HB.out.size; omega
            clear hc'
            have HQ := Lib.hid (show ∀ (f : Nat), f < 7 → ∀ x, InnerOK wo g gb l cb (q + 3) (wv.setCell ⟨gb, j * 7 + f, none⟩ (.int .i64 x)) from fun f hf x => HIO.out.store hgb hgo hjl hf x)
            cases q1 : (c'.fr == wrap64 (av + d))
            · cases q2 : (c'.fr == av)
              · cases q3 : (c'.till == wrap64 (av + d))
                · cases q4 : (c'.till == av)
                  · go_wp2_with fail
                    go_roundw
                    case rel => exact ⟨j + 1, C, by omega, by go_num, HOq.out, HCq.out, HBq.out, HRq.out⟩
                    case measure => simp [intOf]; omega
                  · go_wp2_with fail
                    go_roundw
                    case rel => obtain ⟨C2, a1, a2, a3, a4⟩ := HQ.out 6 (by omega) _; exact ⟨j + 1, C2, by omega, by go_num, a1, a2, a3, a4⟩
                    case measure => simp [intOf]; omega
                · go_wp2_with fail
                  go_roundw
                  case rel => obtain ⟨C2, a1, a2, a3, a4⟩ := HQ.out 6 (by omega) _; exact ⟨j + 1, C2, by omega, by go_num, a1, a2, a3, a4⟩
                  case measure => simp [intOf]; omega
              · cases q3 : (c'.till == wrap64 (av + d))
                · cases q4 : (c'.till == av)
                  · go_wp2_with fail
                    go_roundw
                    case rel => obtain ⟨C2, a1, a2, a3, a4⟩ := HQ.out 5 (by omega) _; exact ⟨j + 1, C2, by omega, by go_num, a1, a2, a3, a4⟩
                    case measure => simp [intOf]; omega
                  · go_wp2_with fail
                    go_roundw
                    case rel => obtain ⟨C2, a1, a2, a3, a4⟩ := (HQ.out 5 (by omega) _).store (f := 6) hgb hgo hjl (by omega) _; exact ⟨j + 1, C2, by omega, by go_num, a1, a2, a3, a4⟩
                    case measure => simp [intOf]; omega
                · go_wp2_with fail
                  go_roundw
                  case rel => obtain ⟨C2, a1, a2, a3, a4⟩ := (HQ.out 5 (by omega) _).store (f := 6) hgb hgo hjl (by omega) _; exact ⟨j + 1, C2, by omega, by go_num, a1, a2, a3, a4⟩
                  case measure => simp [intOf]; omega
            · cases q3 : (c'.till == wrap64 (av + d))
              · cases q4 : (c'.till == av)
                · go_wp2_with fail
                  go_roundw
                  case rel => obtain ⟨C2, a1, a2, a3, a4⟩ := HQ.out 5 (by omega) _; exact ⟨j + 1, C2, by omega, by go_num, a1, a2, a3, a4⟩
                  case measure => simp [intOf]; omega
                · go_wp2_with fail
                  go_roundw
                  case rel => obtain ⟨C2, a1, a2, a3, a4⟩ := (HQ.out 5 (by omega) _).store (f := 6) hgb hgo hjl (by omega) _; exact ⟨j + 1, C2, by omega, by go_num, a1, a2, a3, a4⟩
                  case measure => simp [intOf]; omega
              · go_wp2_with fail
                go_roundw
                case rel => obtain ⟨C2, a1, a2, a3, a4⟩ := (HQ.out 5 (by omega) _).store (f := 6) hgb hgo hjl (by omega) _; exact ⟨j + 1, C2, by omega, by go_num, a1, a2, a3, a4⟩
                case measure => simp [intOf]; omega
          · have e1 : j = l := by omega
            have HJ := Lib.hid e1
            have hge : ¬ ((j : Int) < (l : Int)) := by omega
            clear e1
            have hrC : RowCalls wv (some ⟨gb, 0, none⟩) C := RowOf.of_own HCq.out.symm (fun c _ => c.vals_len) HOq.out
            obtain ⟨bv, hbv⟩ : ∃ bv, histB C = bv := ⟨_, rfl⟩
            have HVC := Lib.hid (HCq.out ▸ specValid_calls C (some ⟨gb, 0, none⟩) cb wv hrC (by have := HCq.out; omega) bv hbv)
            clear hrC hbv
            go_wp2_with fail
            refine HVC.out.mono ?_
            rintro e w8 ⟨rfl, hb8⟩
            have HB8 := Lib.hid ((HB.out.trans HBq.out).below hb8)
            have HR8 := Lib.hid (HRq.out.below hb8)
            have HO8 := Lib.hid (own_base (own_below HOq.out hb8) HB.out.size)
            have HH8 := Lib.hid (own_below (own_high HO.out HBq.out (fun k hk => by injection hk with hk; omega)) hb8)
            clear hb8
            cases bv
            · go_wp2_with fail
              go_roundw
              case rel => exact ⟨m - 1, q + 3, L, by congr 1; omega, by omega, HH8.out, HL.out, HB8.out, HR8.out, by omega⟩
              case measure => simp [intOf]; omega
            · go_wp2_with fail
              go_roundw
              case rel => exact ⟨m - 1, q + 3, C, by congr 1; omega, by omega, HO8.out, HCq.out, HB8.out, HR8.out, by omega⟩
              case measure => simp [intOf]; omega
    · have e0 : m = 0 := by omega
      subst e0
      go_wp2_with fail
      go_ret
      exact ⟨_, L, rfl, by rw [HL.out]; exact HO.out, by rw [HL.out]; omega, HB.out, q, by omega, HR.out⟩
end Go.Proofs.Ytooojfdjpmfalaa
