/-
  The first two looks that turn the time of puts around, of the program and of the reference: the same Lean function. No condition but lengths of at most 2 to the 20.
-/
import Derived.Test.YtoeecaeaobfhmaaSrc
import Derived.OwnWalk
namespace Go.Proofs.Ytoeecaeaobfhmaa
open Go.RowKit
set_option maxRecDepth 100000

def tripV (v : Int × Int × Bool) : Value := .tuple #[.int .i64 v.1, .int .i64 v.2.1, .bool v.2.2]
theorem turnV_hit {h : List CallD} {i k : Nat} (hi : i < h.length) (hk : k < h.length) (ha : (List.range i).all (noTurnB h) = true) (hp : (List.range k).all (fun k => !turnB h i k) = true) (ht : turnB h i k = true) : turnV h = ((i : Int), (k : Int), true) := by
  simp only [turnV, turnAt_some hi hk ha hp ht]
theorem turnV_none {h : List CallD} (ha : (List.range h.length).all (noTurnB h) = true) : turnV h = (-1, -1, false) := by
  simp only [turnV, turnAt_none ha]
theorem src_ways (v : Int) (h : -2 ≤ v) : v = -2 ∨ v = -1 ∨ ∃ m : Nat, v = (m : Int) := by
  by_cases h1 : v = -2
  · exact .inl h1
  · by_cases h2 : v = -1
    · exact .inr (.inl h2)
    · exact .inr (.inr ⟨v.toNat, by omega⟩)
theorem turnB_kind1 {h : List CallD} {i k : Nat} {c : CallD} (hc : hAt h i = c) (q : (c.kind != 2) = true) : turnB h i k = false := by
  have : (c.kind == 2) = false := by simpa using q
  rw [turnB, hc, this]; rfl
theorem turnB_kind2 {h : List CallD} {i k : Nat} {o : CallD} (ho : hAt h k = o) (q : (o.kind != 2) = true) : turnB h i k = false := by
  have : (o.kind == 2) = false := by simpa using q
  rw [turnB, ho, this, Bool.false_and, Bool.and_false]
theorem turnB_bef {h : List CallD} {i k : Nat} {c o : CallD} (hc : hAt h i = c) (ho : hAt h k = o) (q : befB c o = false) : turnB h i k = false := by
  rw [turnB, hc, ho, q, Bool.false_and, Bool.and_false, Bool.and_false]
theorem turnB_old {h : List CallD} {i k : Nat} {c o : CallD} {v1 v2 : Int} (hc : hAt h i = c) (ho : hAt h k = o) (q1 : (c.kind != 2) = false) (q2 : (o.kind != 2) = false) (q3 : befB c o = true) (e1 : srcB h c = v1) (e2 : srcB h o = v2) : turnB h i k = olderB h v2 v1 := by
  have k1 : (c.kind == 2) = true := by simpa using q1
  have k2 : (o.kind == 2) = true := by simpa using q2
  rw [turnB, hc, ho, k1, k2, q3, e1, e2]; rfl
theorem olderB_neg (h : List CallD) (a b : Int) (hb : b < 0) : olderB h a b = false := by simp [olderB, hb]
theorem olderB_first (h : List CallD) (b : Nat) : olderB h (-1) (b : Int) = true := by simp [olderB]
theorem olderB_none (h : List CallD) (b : Nat) : olderB h (-2) (b : Int) = false := by simp [olderB]
theorem olderB_nat (h : List CallD) (a b : Nat) : olderB h (a : Int) (b : Int) = befB (hAt h a) (hAt h b) := by
  have h1 : ¬ ((a : Int) < 0) := by omega
  have h2 : ¬ ((b : Int) < 0) := by omega
  have h3 : ((a : Int) == -1) = false := by simp
  simp [olderB, h1, h2, h3]

theorem ways3 (a b c : Bool) : a = true ∨ (a = false ∧ b = true) ∨ (a = false ∧ b = false ∧ c = false) ∨ (a = false ∧ b = false ∧ c = true) := by
  cases a <;> cases b <;> cases c <;> simp
theorem ways4 (a b c d : Bool) : a = false ∨ (a = true ∧ b = false) ∨ (a = true ∧ b = true ∧ c = false) ∨ (a = true ∧ b = true ∧ c = true ∧ d = false) ∨ (a = true ∧ b = true ∧ c = true ∧ d = true) := by
  cases a <;> cases b <;> cases c <;> cases d <;> simp

set_option maxHeartbeats 8000000 in
theorem turnOf_calls (cs : List CallD) (A : Option Addr) (n cap : Nat) (w : World) (hr : RowCalls w A cs) (hn : cs.length = n) (hl : n ≤ 1048576) (v : Int × Int × Bool) (hv : turnV cs = v) :
    Calls Try.prog 62 #[.slice A n cap] w fun e w' => e = .returned (tripV v) ∧ Below w.heap.size w w' := by
  have HR := Lib.hid hr
  have HV := Lib.hid hv
  have Hn := Lib.hid hn
  clear hr hv hn
  have hlen : (n : Int) ≤ 1048576 := by omega
  go_enter Try.func62, Try.ntmps62
  go_wp2
  go_loopw [13] (fun i wr => ∃ k : Nat, k ≤ n ∧ i = .int .i64 k ∧ Below w.heap.size w wr ∧ Hid ((List.range k).all (noTurnB cs) = true)) (fun i _ => n - (intOf i).toNat)
  case atStart => exact ⟨0, by omega, rfl, Below.refl _ _, rfl⟩
  case round =>
    obtain ⟨i, hi, rfl, hb, HG⟩ := hrel
    obtain ⟨wo, rfl⟩ : ∃ wo : World, wo = wr := ⟨_, rfl⟩
    by_cases hlt : i < n
    · obtain ⟨b0, off, rfl, hat⟩ := HR.out (by have := Hn.out; omega)
      obtain ⟨c, hc⟩ : ∃ c, cs[i]? = some c := ⟨cs[i]'(by have := Hn.out; omega), List.getElem?_eq_getElem _⟩
      obtain ⟨x0, x1, x2, x3, x4, x5, x6⟩ := (RowCalls.at7 hat hc).below hb
      have hrow : RowCalls w (some ⟨b0, off, none⟩) cs := HR.out
      have Hrow := Lib.hid hrow
      have Hat := Lib.hid hat
      have Hc := Lib.hid (hAt_eq hc)
      have Hb := Lib.hid hb
      obtain ⟨v1, hv1⟩ : ∃ v1, srcB cs c = v1 := ⟨_, rfl⟩
      have Hv1 := Lib.hid hv1
      have hbd1 := srcB_bd cs c
      rw [hv1, Hn.out] at hbd1
      have HS1 := Lib.hid (fun (W : World) (hW : RowCalls W (some ⟨b0, off, none⟩) cs) => sourceOf_calls cs c (some ⟨b0, off, none⟩) n cap W hW Hn.out hl v1 Hv1.out)
      clear HR hat hc hb hrow hv1
      have hi0 : (0 : Int) ≤ (i : Int) := by omega
      have hin : (i : Int) < (n : Int) := by omega
      have hic : (i : Int) ≤ (cap : Int) ∨ True := .inr trivial
      clear hic
      have hrefl : Below (wo.heap.size + 1) (wo.alloc (.cells #[.int .i64 c.proc, .int .i64 c.obj, .int .i64 c.kind, .int .i64 c.arg, .int .i64 c.ret, .int .i64 c.fr, .int .i64 c.till] 45)) (wo.alloc (.cells #[.int .i64 c.proc, .int .i64 c.obj, .int .i64 c.kind, .int .i64 c.arg, .int .i64 c.ret, .int .i64 c.fr, .int .i64 c.till] 45)) := Below.refl _ _
      have Hrefl := Lib.hid hrefl
      clear hrefl
      go_wp2
      clear x0 x1 x2 x3 x4 x5 x6
      go_loopw [20] (fun j wq => ∃ k : Nat, k ≤ n ∧ j = .int .i64 k ∧ Below (wo.heap.size + 1) (wo.alloc (.cells #[.int .i64 c.proc, .int .i64 c.obj, .int .i64 c.kind, .int .i64 c.arg, .int .i64 c.ret, .int .i64 c.fr, .int .i64 c.till] 45)) wq ∧ Hid ((List.range k).all (fun k => !turnB cs i k) = true)) (fun j _ => n - (intOf j).toNat)
      case atStart => exact ⟨0, by omega, rfl, Hrefl.out, rfl⟩
      case round =>
        obtain ⟨j, hj, rfl, hb2, HP⟩ := hrel
        have hz2 : wo.heap.size < wr.heap.size := by have := hb2.size; simp at this; omega
        have hbw2 : Below w.heap.size w wr := (below_alloc Hb.out _).trans (hb2.mono (by have := Hb.out.size; omega))
        by_cases hjlt : j < n
        · obtain ⟨o, ho⟩ : ∃ o, cs[j]? = some o := ⟨cs[j]'(by have := Hn.out; omega), List.getElem?_eq_getElem _⟩
          have hcc : At7 wr wo.heap.size 0 c := by
            refine ⟨?_, ?_, ?_, ?_, ?_, ?_, ?_⟩ <;> (rw [hb2.cell (by simp)]; simp)
          have Hcc := Lib.hid hcc
          obtain ⟨x0, x1, x2, x3, x4, x5, x6⟩ := hcc
          obtain ⟨y0, y1, y2, y3, y4, y5, y6⟩ := (RowCalls.at7 Hat.out ho).below hbw2
          have hbz : b0 < wr.heap.size := World.block_lt_of_cell? _ _ y0
          have Ho := Lib.hid (hAt_eq ho)
          have Hb2 := Lib.hid hb2
          have Hbw2 := Lib.hid hbw2
          clear ho hb2 hbw2
          have hj0 : (0 : Int) ≤ (j : Int) := by omega
          have hjn : (j : Int) < (n : Int) := by omega
          have hstep : turnB cs i j = false → Hid ((List.range (j + 1)).all (fun k => !turnB cs i k) = true) := fun e => by
            show _ = true
            rw [all_range_succ, HP.out, e]; rfl
          have Hstep := Lib.hid hstep
          clear hstep
          rcases ways3 (c.kind != 2) (o.kind != 2) (befB c o) with q1 | ⟨q1, q2⟩ | ⟨q1, q2, q3⟩ | ⟨q1, q2, q3⟩
          · have Hq := Hstep.out (turnB_kind1 Hc.out q1)
            go_wp2
            go_roundw
            case rel => exact ⟨j + 1, by omega, by go_num, below_alloc' Hb2.out _, Hq⟩
            case measure => simp [intOf]; omega
          · have Hq := Hstep.out (turnB_kind2 Ho.out q2)
            go_wp2
            go_roundw
            case rel => exact ⟨j + 1, by omega, by go_num, below_alloc' Hb2.out _, Hq⟩
            case measure => simp [intOf]; omega
          · have Hq := Hstep.out (turnB_bef Hc.out Ho.out q3)
            have H3 := Lib.hid q3
            clear q3
            go_wp2_with (go_at_call 50; refine (implIsBefore_calls c o false H3.out _).mono ?_; rintro e w3 ⟨rfl, hb3⟩)
            go_roundw
            case rel => exact ⟨j + 1, by omega, by go_num, (below_alloc' Hb2.out _).trans (hb3.mono (by have := Hb2.out.size; simp at this ⊢; omega)), Hq⟩
            case measure => simp [intOf]; omega
          · have H3 := Lib.hid q3
            obtain ⟨v2, hv2⟩ : ∃ v2, srcB cs o = v2 := ⟨_, rfl⟩
            have Hv2 := Lib.hid hv2
            have hbd2 := srcB_bd cs o
            rw [hv2, Hn.out] at hbd2
            have HS2 := Lib.hid (fun (W : World) (hW : RowCalls W (some ⟨b0, off, none⟩) cs) => sourceOf_calls cs o (some ⟨b0, off, none⟩) n cap W hW Hn.out hl v2 Hv2.out)
            have HT := Lib.hid (turnB_old Hc.out Ho.out q1 q2 q3 Hv1.out Hv2.out)
            clear q3 hv2
            go_wp2_with (go_at_call 50; refine (implIsBefore_calls c o true H3.out _).mono ?_; rintro e w3 ⟨rfl, hb3⟩; obtain ⟨hc3, _⟩ := bcell hb3)
            have hcc : At7 w3 wo.heap.size 0 c := Hcc.out.below (below_trans' (below_alloc (Below.refl _ _) _) hb3)
            have hoo : At7 w3 wr.heap.size 0 o := by
              refine ⟨?_, ?_, ?_, ?_, ?_, ?_, ?_⟩ <;> (rw [hc3 _ _ (by simp)]; simp)
            have hb3' : Below (wo.heap.size + 1) (wo.alloc (.cells #[.int .i64 c.proc, .int .i64 c.obj, .int .i64 c.kind, .int .i64 c.arg, .int .i64 c.ret, .int .i64 c.fr, .int .i64 c.till] 45)) w3 := (below_alloc' Hb2.out _).trans (hb3.mono (by have := Hb2.out.size; simp at this ⊢; omega))
            have hbw3 : Below w.heap.size w w3 := below_trans' Hbw2.out (below_trans' (below_alloc (Below.refl _ _) _) hb3)
            have hz3 : wr.heap.size < w3.heap.size := by have := hb3.size; simp at this; omega
            have hz4 : wo.heap.size < w3.heap.size := by omega
            have Hb3 := Lib.hid hb3'
            have Hbw3 := Lib.hid hbw3
            have Hrow3 := Lib.hid (Hrow.out.below hbw3)
            clear hb3 hc3 hb3' hbw3 x0 x1 x2 x3 x4 x5 x6 y0 y1 y2 y3 y4 y5 y6
            obtain ⟨x0, x1, x2, x3, x4, x5, x6⟩ := hcc
            obtain ⟨y0, y1, y2, y3, y4, y5, y6⟩ := hoo
            refine wp_region_grow (by kernel_rfl) (by kernel_rfl) ?_
            repeat (go_big_quiet_step ((first | (go_at_call 63; with_reducible exact Calls.ext_of (Nat.le_refl _) (HS1.out _ (Hrow3.out.below (Wx.h _)))) | (go_at_call 63; with_reducible exact Calls.ext_of (Nat.le_refl _) (HS2.out _ (Hrow3.out.below (Wx.h _)))))))
            refine wpQuiet_end ?_
            intro w4 hb4
            have hz5 : wr.heap.size < w4.heap.size := Nat.lt_of_lt_of_le hz3 hb4.size
            have hz6 : wo.heap.size < w4.heap.size := Nat.lt_of_lt_of_le hz4 hb4.size
            have hbz4 : b0 < w4.heap.size := by omega
            have hbw4 : Below w.heap.size w w4 := below_trans' Hbw3.out hb4
            have hb4' : Below (wo.heap.size + 1) (wo.alloc (.cells #[.int .i64 c.proc, .int .i64 c.obj, .int .i64 c.kind, .int .i64 c.arg, .int .i64 c.ret, .int .i64 c.fr, .int .i64 c.till] 45)) w4 := Hb3.out.trans (hb4.mono (by have := Hb3.out.size; simp at this ⊢; omega))
            clear x0 x1 x2 x3 x4 x5 x6 y0 y1 y2 y3 y4 y5 y6
            have hat4 : ∀ m : Nat, m < n → ∃ q, hAt cs m = q ∧ At7 w4 b0 (off + m * 7) q := by
              intro m hm
              have hg : cs[m]? = some (cs[m]'(by have := Hn.out; omega)) := List.getElem?_eq_getElem _
              exact ⟨_, hAt_eq hg, RowCalls.at7 Hat.out hg |>.below hbw4⟩
            have Hb4 := Lib.hid hb4'
            have Hbw4 := Lib.hid hbw4
            clear hb4 hb4' hbw4 q1 q2
            have hnext : turnB cs i j = true → turnV cs = ((i : Int), (j : Int), true) := fun e => turnV_hit (by have := Hn.out; omega) (by have := Hn.out; omega) HG.out HP.out e
            have Hnext := Lib.hid hnext
            clear hnext
            rcases src_ways v1 hbd1.1 with e1 | e1 | ⟨m1, e1⟩
            · subst e1
              have Hq := Hstep.out (by rw [HT.out]; exact olderB_neg _ _ _ (by omega))
              clear hat4
              go_wp2_with fail
              refine wp_region_grow (by kernel_rfl) (by kernel_rfl) ?_
              repeat (go_big_quiet_step (fail))
              refine wpQuiet_end ?_
              intro w5 hb5
              go_wp2_with fail
              go_roundw
              case rel => exact ⟨j + 1, by omega, by go_num, Hb4.out.trans (hb5.mono (by have := Hb4.out.size; simp at this ⊢; omega)), Hq⟩
              case measure => simp [intOf]; omega
            · subst e1
              have Hq := Hstep.out (by rw [HT.out]; exact olderB_neg _ _ _ (by omega))
              clear hat4
              go_wp2_with fail
              refine wp_region_grow (by kernel_rfl) (by kernel_rfl) ?_
              repeat (go_big_quiet_step (fail))
              refine wpQuiet_end ?_
              intro w5 hb5
              go_wp2_with fail
              go_roundw
              case rel => exact ⟨j + 1, by omega, by go_num, Hb4.out.trans (hb5.mono (by have := Hb4.out.size; simp at this ⊢; omega)), Hq⟩
              case measure => simp [intOf]; omega
            · subst e1
              rcases src_ways v2 hbd2.1 with e2 | e2 | ⟨m2, e2⟩
              · subst e2
                have Hq := Hstep.out (by rw [HT.out]; exact olderB_none _ _)
                clear hat4
                go_wp2_with fail
                refine wp_region_grow (by kernel_rfl) (by kernel_rfl) ?_
                repeat (go_big_quiet_step (fail))
                refine wpQuiet_end ?_
                intro w5 hb5
                go_wp2_with fail
                go_roundw
                case rel => exact ⟨j + 1, by omega, by go_num, Hb4.out.trans (hb5.mono (by have := Hb4.out.size; simp at this ⊢; omega)), Hq⟩
                case measure => simp [intOf]; omega
              · subst e2
                have Hq := Hnext.out (by rw [HT.out]; exact olderB_first _ _)
                clear hat4
                go_wp2_with fail
                refine wp_region_grow (by kernel_rfl) (by kernel_rfl) ?_
                repeat (go_big_quiet_step (fail))
                refine wpQuiet_end ?_
                intro w5 hb5
                go_wp2_with fail
                go_ret3
                exact ⟨by rw [← HV.out, Hq]; rfl, below_trans' Hbw4.out hb5⟩
              · subst e2
                obtain ⟨p1, hp1, z0, z1, z2, z3, z4, z5, z6⟩ := hat4 m1 (by omega)
                obtain ⟨p2, hp2, y0, y1, y2, y3, y4, y5, y6⟩ := hat4 m2 (by omega)
                clear hat4
                have hm1 : (m1 : Int) < (n : Int) := by omega
                have hm2 : (m2 : Int) < (n : Int) := by omega
                have hm10 : (0 : Int) ≤ (m1 : Int) := by omega
                have hm20 : (0 : Int) ≤ (m2 : Int) := by omega
                have hne : ((m2 : Int) == -1) = false := by simp
                have hT := HT.out
                rw [olderB_nat, hp1, hp2] at hT
                have HT2 := Lib.hid hT
                clear hT hp1 hp2 HT
                cases hbb : befB p2 p1
                · have HBB := Lib.hid hbb
                  have Hq := Hstep.out (by rw [HT2.out]; exact hbb)
                  clear hbb
                  go_wp2_with fail
                  refine wp_region_grow (by kernel_rfl) (by kernel_rfl) ?_
                  repeat (go_big_quiet_step ((go_at_call 50; exact Calls.ext_of (Nat.le_refl _) (implIsBefore_calls p2 p1 _ HBB.out _))))
                  refine wpQuiet_end ?_
                  intro w5 hb5
                  go_wp2_with fail
                  go_roundw
                  case rel => exact ⟨j + 1, by omega, by go_num, Hb4.out.trans (hb5.mono (by have := Hb4.out.size; simp at this ⊢; omega)), Hq⟩
                  case measure => simp [intOf]; omega
                · have HBB := Lib.hid hbb
                  have Hq := Hnext.out (by rw [HT2.out]; exact hbb)
                  clear hbb
                  go_wp2_with fail
                  refine wp_region_grow (by kernel_rfl) (by kernel_rfl) ?_
                  repeat (go_big_quiet_step ((go_at_call 50; exact Calls.ext_of (Nat.le_refl _) (implIsBefore_calls p2 p1 _ HBB.out _))))
                  refine wpQuiet_end ?_
                  intro w5 hb5
                  go_wp2_with fail
                  go_ret3
                  exact ⟨by rw [← HV.out, Hq]; rfl, below_trans' Hbw4.out hb5⟩
        · have hji : j = n := by omega
          subst hji
          have hlt' : ¬ ((j : Int) < (j : Int)) := by omega
          go_wp2
          go_roundw
          case rel =>
            refine ⟨i + 1, by omega, by go_num, hbw2, ?_⟩
            show _ = true
            have hno : noTurnB cs i = true := by rw [noTurnB, Hn.out]; exact HP.out
            rw [all_range_succ, HG.out, hno]; rfl
          case measure => simp [intOf]; omega
    · have hge : ¬ ((i : Int) < (n : Int)) := by omega
      have e1 : turnV cs = (-1, -1, false) := turnV_none (by rw [Hn.out, show n = i by omega]; exact HG.out)
      have E1 := Lib.hid e1
      have Hb := Lib.hid hb
      clear hb e1
      go_wp2
      go_ret3
      exact ⟨by rw [← HV.out, E1.out]; rfl, Hb.out⟩

set_option maxHeartbeats 4000000 in
theorem older_calls (cs : List CallD) (a b : Int) (A : Option Addr) (n cap : Nat) (w : World) (hr : RowCalls w A cs) (hn : cs.length = n) (hl : n ≤ 1048576) (ha : -2 ≤ a ∧ a < (n : Int)) (hb : -2 ≤ b ∧ b < (n : Int)) (v : Bool) (hv : olderB cs a b = v) :
    Calls Try.prog 60 #[.slice A n cap, .int .i64 a, .int .i64 b] w fun e w' => e = .returned (.bool v) ∧ Below w.heap.size w w' := by
  have hlen : (n : Int) ≤ 1048576 := by omega
  rcases src_ways b hb.1 with e1 | e1 | ⟨m1, e1⟩
  · subst e1
    have e2 : v = false := by rw [← hv]; exact olderB_neg _ _ _ (by omega)
    subst e2
    clear hv hr hn
    go_enter Try.func60, Try.ntmps60
    go_wp2_with fail
    go_ret
    exact ⟨rfl, Below.refl _ _⟩
  · subst e1
    have e2 : v = false := by rw [← hv]; exact olderB_neg _ _ _ (by omega)
    subst e2
    clear hv hr hn
    go_enter Try.func60, Try.ntmps60
    go_wp2_with fail
    go_ret
    exact ⟨rfl, Below.refl _ _⟩
  · subst e1
    rcases src_ways a ha.1 with e2 | e2 | ⟨m2, e2⟩
    · subst e2
      have e3 : v = false := by rw [← hv]; exact olderB_none _ _
      subst e3
      clear hv hr hn
      go_enter Try.func60, Try.ntmps60
      go_wp2_with fail
      refine wp_region_grow (by kernel_rfl) (by kernel_rfl) ?_
      repeat (go_big_quiet_step (fail))
      refine wpQuiet_end ?_
      intro w5 hb5
      go_wp2_with fail
      go_ret
      exact ⟨rfl, hb5⟩
    · subst e2
      have e3 : v = true := by rw [← hv]; exact olderB_first _ _
      subst e3
      clear hv hr hn
      go_enter Try.func60, Try.ntmps60
      go_wp2_with fail
      refine wp_region_grow (by kernel_rfl) (by kernel_rfl) ?_
      repeat (go_big_quiet_step (fail))
      refine wpQuiet_end ?_
      intro w5 hb5
      go_wp2_with fail
      go_ret
      exact ⟨rfl, hb5⟩
    · subst e2
      obtain ⟨b0, off, rfl, hat⟩ := hr (by omega)
      have hat4 : ∀ m : Nat, m < n → ∃ q, hAt cs m = q ∧ At7 w b0 (off + m * 7) q := by
        intro m hm
        have hg : cs[m]? = some (cs[m]'(by omega)) := List.getElem?_eq_getElem _
        exact ⟨_, hAt_eq hg, RowCalls.at7 hat hg⟩
      obtain ⟨p1, hp1, z0, z1, z2, z3, z4, z5, z6⟩ := hat4 m1 (by omega)
      obtain ⟨p2, hp2, y0, y1, y2, y3, y4, y5, y6⟩ := hat4 m2 (by omega)
      have hbz : b0 < w.heap.size := World.block_lt_of_cell? _ _ z0
      rw [olderB_nat, hp1, hp2] at hv
      have HV := Lib.hid hv
      clear hat4 hat hv hr hn hp1 hp2
      have hm1 : (m1 : Int) < (n : Int) := by omega
      have hm2 : (m2 : Int) < (n : Int) := by omega
      have hm10 : (0 : Int) ≤ (m1 : Int) := by omega
      have hm20 : (0 : Int) ≤ (m2 : Int) := by omega
      have hne : ((m2 : Int) == -1) = false := by simp
      go_enter Try.func60, Try.ntmps60
      go_wp2_with fail
      refine wp_region_grow (by kernel_rfl) (by kernel_rfl) ?_
      repeat (go_big_quiet_step ((go_at_call 59; exact Calls.ext_of (Nat.le_refl _) (before_calls p2 p1 _ HV.out _))))
      refine wpQuiet_end ?_
      intro w5 hb5
      go_wp2_with fail
      go_ret
      exact ⟨rfl, hb5⟩
end Go.Proofs.Ytoeecaeaobfhmaa
