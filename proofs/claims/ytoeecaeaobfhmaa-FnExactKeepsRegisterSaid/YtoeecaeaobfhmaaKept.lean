/-
  Whether all looks keep a promise, as the reference asks it, promise by promise. Asked: a history of one writer.
-/
import Derived.Test.YtoeecaeaobfhmaaTurn
import Derived.Test.YtoeecaeaobfhmaaLast
import Derived.Deep.DeepCutAuto
namespace Go.Proofs.Ytoeecaeaobfhmaa
open Go.RowKit
set_option maxRecDepth 100000

theorem keepAt_skip (sf at_ : Bool) {cs : List CallD} {i : Nat} {c : CallD} (hc : hAt cs i = c) (q : (c.kind != 2) = true) : keepAt sf at_ cs i = true := by
  have h1 : (c.kind == 2) = false := by simpa using q
  have h2 : noTurnB cs i = true := by
    rw [noTurnB, List.all_eq_true]
    intro k _
    rw [turnB_kind1 hc q]; rfl
  rw [keepAt, lookB, hc, h1, h2]; simp
theorem keepAt_look (sf at_ : Bool) {cs : List CallD} {i : Nat} {c : CallD} (hc : hAt cs i = c) (q : (c.kind != 2) = false) : keepAt sf at_ cs i = (rightB sf cs c && (!at_ || noTurnB cs i)) := by
  have h1 : (c.kind == 2) = true := by simpa using q
  rw [keepAt, lookB, hc, h1]; rfl
theorem five_ways (m k a b : Bool) : m = true ∨ (m = false ∧ k = false) ∨ (m = false ∧ k = true ∧ a = true) ∨ (m = false ∧ k = true ∧ a = false ∧ b = true) ∨ (m = false ∧ k = true ∧ a = false ∧ b = false) := by
  cases m <;> cases k <;> cases a <;> cases b <;> simp
theorem lap_cast (c d : CallD) : lapB c d = (!befB c d && !befB d c) := rfl

theorem or_ways3 (a b : Bool) : a = true ∨ (a = false ∧ b = true) ∨ (a = false ∧ b = false) := by
  cases a <;> cases b <;> simp
theorem and_ways (a b : Bool) : (a = true ∧ b = true) ∨ (a = true ∧ b = false) ∨ (a = false ∧ b = true) ∨ (a = false ∧ b = false) := by
  cases a <;> cases b <;> simp
theorem or_ways2' (a : Bool) : a = true ∨ a = false := by
  cases a <;> simp
theorem out_ways (a b : Bool) : a = true ∨ (a = false ∧ b = true) ∨ (a = false ∧ b = false) := or_ways3 a b

set_option maxHeartbeats 16000000 in
theorem kept_safe (s : ByteArray) (hs : s.toList = [115, 97, 102, 101]) (cs : List CallD) (hw : writerB cs = true) (A : Option Addr) (n cap : Nat) (w : World) (hr : RowCalls w A cs) (hn : cs.length = n) (b : Bool) (hb : (List.range n).all (keepAt true false cs) = b) :
    Calls Try.prog 64 #[.string s, .slice A n cap] w fun e w' => e = .returned (.bool b) ∧ Below w.heap.size w w' := by
  have h6 := writerB_len hw
  rw [hn] at h6
  have HR := Lib.hid hr
  have HV := Lib.hid hb
  have Hn := Lib.hid hn
  have HW := Lib.hid hw
  clear hr hn hb hw
  have hlen : (n : Int) ≤ 6 := by omega
  go_enter Try.func64, Try.ntmps64
  go_wp2
  go_loopw [5] (fun i wr => ∃ k : Nat, k ≤ n ∧ i = .int .i64 k ∧ Below w.heap.size w wr ∧ Hid ((List.range k).all (keepAt true false cs) = true)) (fun i _ => n - (intOf i).toNat)
  case atStart => exact ⟨0, by omega, rfl, Below.refl _ _, rfl⟩
  case round =>
    obtain ⟨i, hi, rfl, hb, HG⟩ := hrel
    obtain ⟨wo, rfl⟩ : ∃ wo : World, wo = wr := ⟨_, rfl⟩
    by_cases hlt : i < n
    · obtain ⟨b0, off, rfl, hat⟩ := HR.out (by have := Hn.out; omega)
      obtain ⟨c, hc⟩ : ∃ c, cs[i]? = some c := ⟨cs[i]'(by have := Hn.out; omega), List.getElem?_eq_getElem _⟩
      obtain ⟨x0, x1, x2, x3, x4, x5, x6⟩ := (RowCalls.at7 hat hc).below hb
      have Hrow := Lib.hid (HR.out.below hb)
      have HrowW := Lib.hid (HR.out)
      have Hat := Lib.hid hat
      have Hci := Lib.hid hc
      have Hc := Lib.hid (hAt_eq hc)
      have Hb := Lib.hid hb
      obtain ⟨v1, hv1⟩ : ∃ v1, srcB cs c = v1 := ⟨_, rfl⟩
      have Hv1 := Lib.hid hv1
      have hbd1 := srcB_bd cs c
      rw [hv1, Hn.out] at hbd1
      have HS1 := Lib.hid (fun (W : World) (hW : RowCalls W (some ⟨b0, off, none⟩) cs) => source_calls cs i c hc (some ⟨b0, off, none⟩) n cap W hW Hn.out (by omega) v1 hv1)
      have HBad := Lib.hid (fun (e : keepAt true false cs i = false) => show b = false by rw [← HV.out]; exact all_range_false hlt e)
      have HOk := Lib.hid (fun (e : keepAt true false cs i = true) => show Hid ((List.range (i + 1)).all (keepAt true false cs) = true) by show _ = true; rw [all_range_succ, HG.out, e]; rfl)
      clear HR hat hc hb hv1
      have hi0 : (0 : Int) ≤ (i : Int) := by omega
      have hin : (i : Int) < (n : Int) := by omega
      have hn0 : (0 : Int) < (n : Int) := by omega
      cases hq : (c.kind != 2)
      · have Hlook := Lib.hid (keepAt_look true false Hc.out hq)
        have Hk2 := Lib.hid hq
        go_wp2_with fail
        clear hq x0 x1 x2 x3 x4 x5 x6
        refine (HS1.out _ Hrow.out).mono ?_
        rintro e w1 ⟨rfl, hb1⟩
        have Hb1 := Lib.hid (below_trans' Hb.out hb1)
        clear hb1
        go_wp2_with fail
        -- puts that overlap it
        go_loopw [7, 8] (fun m j wq => ∃ k : Nat, k ≤ n ∧ j = .int .i64 k ∧ m = .bool (overB cs c k) ∧ Below w.heap.size w wq) (fun _ j _ => n - (intOf j).toNat)
        case atStart => exact ⟨0, by omega, rfl, rfl, Hb1.out⟩
        case round =>
          obtain ⟨j, hj, rfl, rfl, hb2⟩ := hrel
          by_cases hjlt : j < n
          · obtain ⟨o, ho⟩ : ∃ o, cs[j]? = some o := ⟨cs[j]'(by have := Hn.out; omega), List.getElem?_eq_getElem _⟩
            obtain ⟨x0, x1, x2, x3, x4, x5, x6⟩ := (RowCalls.at7 Hat.out Hci.out).below hb2
            obtain ⟨y0, y1, y2, y3, y4, y5, y6⟩ := (RowCalls.at7 Hat.out ho).below hb2
            have hbz : b0 < wr.heap.size := World.block_lt_of_cell? _ _ x0
            have hst : overB cs c (j + 1) = (overB cs c j || (o.kind == 0 && (!befB o c && !befB c o))) := by rw [overB, hAt_eq ho]; rfl
            obtain ⟨p1, hp1⟩ : ∃ b, befB o c = b := ⟨_, rfl⟩
            obtain ⟨p2, hp2⟩ : ∃ b, befB c o = b := ⟨_, rfl⟩
            rw [hp1, hp2] at hst
            have Hp1 := Lib.hid hp1
            have Hp2 := Lib.hid hp2
            generalize overB cs c j = m at *
            have Hst := Lib.hid hst
            have Hb2 := Lib.hid hb2
            clear ho hst hb2 hp1 hp2
            have hj0 : (0 : Int) ≤ (j : Int) := by omega
            have hjn : (j : Int) < (n : Int) := by omega
            rcases five_ways m (o.kind == 0) p1 p2 with q1 | ⟨q1, q2⟩ | ⟨q1, q2, q3⟩ | ⟨q1, q2, q3, q4⟩ | ⟨q1, q2, q3, q4⟩
            all_goals
              subst q1
              try subst q3
              try subst q4
              try rw [q2] at Hst
              go_wp2_with fail
              refine wp_region_grow (by kernel_rfl) (by kernel_rfl) ?_
              repeat (go_big_quiet_step ((first | (go_at_call 59; with_reducible exact Calls.ext_of (Nat.le_refl _) (before_calls o c _ Hp1.out _)) | (go_at_call 59; with_reducible exact Calls.ext_of (Nat.le_refl _) (before_calls c o _ Hp2.out _)))))
              refine wpQuiet_end ?_
              intro w5 hb5
              go_wp2_with fail
              go_roundw
              case rel => exact ⟨j + 1, by omega, by go_num, by rw [Hst.out]; rfl, below_trans' Hb2.out hb5⟩
              case measure => simp [intOf]; omega
          · have hji : j = n := by omega
            subst hji
            have hlt' : ¬ ((j : Int) < (j : Int)) := by omega
            have hrow2 : RowCalls wr (some ⟨b0, off, none⟩) cs := HrowW.out.below hb2
            have Hrow2 := Lib.hid hrow2
            obtain ⟨l, hl⟩ : ∃ l, lastR cs c j = l := ⟨_, rfl⟩
            have Hl := Lib.hid hl
            have HL := Lib.hid (fun (W : World) (hW : RowCalls W (some ⟨b0, off, none⟩) cs) => lastPut_calls cs i c Hci.out (some ⟨b0, off, none⟩) j cap W hW Hn.out (by omega) l hl)
            obtain ⟨fb, hfb⟩ : ∃ fb, (v1 == l) = fb := ⟨_, rfl⟩
            have hfine : fineB cs c = fb := by rw [fineB, Hv1.out, Hn.out, ← last_eq HW.out c j (by rw [Hn.out]; exact Nat.le_refl _), hl, hfb]
            have Hfb := Lib.hid hfb
            have Hfine := Lib.hid hfine
            have Hb2 := Lib.hid hb2
            obtain ⟨mt, hmt⟩ : ∃ mt, overB cs c j = mt := ⟨_, rfl⟩
            rw [hmt]
            have Hmt := Lib.hid (show overB cs c cs.length = mt by rw [Hn.out]; exact hmt)
            clear hb2 hl hfb hfine hrow2 hmt
            go_wp2_with fail
            refine (HL.out _ Hrow2.out).mono ?_
            rintro e w3 ⟨rfl, hb3⟩
            have Hb3 := Lib.hid (below_trans' Hb2.out hb3)
            clear hb3
            have hfb : (v1 == l) = fb := Hfb.out
            go_wp2_with fail
            clear hfb
            have hat4 : ∀ m : Nat, m < j → ∃ q, hAt cs m = q ∧ At7 w3 b0 (off + m * 7) q := by
              intro m hm
              have hg : cs[m]? = some (cs[m]'(by have := Hn.out; omega)) := List.getElem?_eq_getElem _
              exact ⟨_, hAt_eq hg, RowCalls.at7 Hat.out hg |>.below Hb3.out⟩
            have HN := Lib.hid Hn.out
            obtain ⟨ov, hov⟩ : ∃ ov, besideB cs c = ov := ⟨_, rfl⟩
            have Hbe := Lib.hid hov
            clear hov
            go_cut [10] (fun o wx => o = .bool ov ∧ Below w.heap.size w wx)
            case first =>
              rcases src_ways v1 hbd1.1 with e1 | e1 | ⟨m1, e1⟩
              · have hbe : ov = false := by rw [← Hbe.out, besideB, Hv1.out, e1]; rfl
                subst e1
                subst hbe
                clear hat4
                refine wp_region_grow (by kernel_rfl) (by kernel_rfl) ?_
                repeat (go_big_quiet_step (fail))
                refine wpQuiet_end ?_
                intro w6 hb6
                have Hb6 := Lib.hid (below_trans' Hb3.out hb6)
                clear hb6
                try clear x0 x1 x2 x3 x4 x5 x6 z0 z1 z2 z3 z4 z5 z6
                go_wp2_with fail
                go_meet
                exact ⟨rfl, Hb6.out⟩
              · have hbe : ov = false := by rw [← Hbe.out, besideB, Hv1.out, e1]; rfl
                subst e1
                subst hbe
                clear hat4
                refine wp_region_grow (by kernel_rfl) (by kernel_rfl) ?_
                repeat (go_big_quiet_step (fail))
                refine wpQuiet_end ?_
                intro w6 hb6
                have Hb6 := Lib.hid (below_trans' Hb3.out hb6)
                clear hb6
                try clear x0 x1 x2 x3 x4 x5 x6 z0 z1 z2 z3 z4 z5 z6
                go_wp2_with fail
                go_meet
                exact ⟨rfl, Hb6.out⟩
              · obtain ⟨q, hqe, z0, z1, z2, z3, z4, z5, z6⟩ := hat4 m1 (by omega)
                obtain ⟨x0, x1, x2, x3, x4, x5, x6⟩ := (RowCalls.at7 Hat.out Hci.out).below Hb3.out
                have hbz : b0 < w3.heap.size := World.block_lt_of_cell? _ _ x0
                have hbe0 : ov = (!befB q c && !befB c q) := by rw [← Hbe.out, besideB, Hv1.out, e1, Int.toNat_natCast, hqe, lapB, decide_eq_true (by omega)]; rfl
                obtain ⟨p1, hp1⟩ : ∃ b, befB q c = b := ⟨_, rfl⟩
                obtain ⟨p2, hp2⟩ : ∃ b, befB c q = b := ⟨_, rfl⟩
                rw [hp1, hp2] at hbe0
                have Hp1 := Lib.hid hp1
                have Hp2 := Lib.hid hp2
                subst e1
                subst hbe0
                clear hat4 hp1 hp2 hqe
                have hm0 : (0 : Int) ≤ (m1 : Int) := by omega
                have hm1 : (m1 : Int) < (j : Int) := by omega
                rcases out_ways p1 p2 with q1 | ⟨q1, q2⟩ | ⟨q1, q2⟩
                all_goals
                  subst q1
                  try subst q2
                  refine wp_region_grow (by kernel_rfl) (by kernel_rfl) ?_
                  repeat (go_big_quiet_step ((first | (go_at_call 59; with_reducible exact Calls.ext_of (Nat.le_refl _) (before_calls q c _ Hp1.out _)) | (go_at_call 59; with_reducible exact Calls.ext_of (Nat.le_refl _) (before_calls c q _ Hp2.out _)))))
                  refine wpQuiet_end ?_
                  intro w6 hb6
                  have Hb6 := Lib.hid (below_trans' Hb3.out hb6)
                  clear hb6
                  try clear x0 x1 x2 x3 x4 x5 x6 z0 z1 z2 z3 z4 z5 z6
                  go_wp2_with fail
                  go_meet
                  exact ⟨rfl, Hb6.out⟩
            case rest =>
              obtain ⟨rfl, hb6⟩ := hcut
              have Hb6 := Lib.hid hb6
              clear hb6 hat4
              have Hrt := Lib.hid (show rightB true cs c = (fb || mt) by rw [rightB, Hfine.out, Hmt.out]; rfl)
              rcases and_ways fb mt with ⟨g1, g2⟩ | ⟨g1, g2⟩ | ⟨g1, g2⟩ | ⟨g1, g2⟩
              all_goals
                subst g1
                subst g2
                go_wp2_with fail
                first
                  | (go_ret
                     have e2 := HBad.out (by rw [Hlook.out, Hrt.out]; rfl)
                     exact ⟨by rw [e2]; rfl, Hb6.out⟩)
                  | (have Hq := HOk.out (by rw [Hlook.out, Hrt.out]; rfl)
                     go_loopw [11] (fun k wq => ∃ t : Nat, t ≤ j ∧ k = .int .i64 t ∧ Below w.heap.size w wq) (fun k _ => j - (intOf k).toNat)
                     case atStart => exact ⟨0, by omega, rfl, Hb6.out⟩
                     case round =>
                       obtain ⟨t, ht, rfl, hb7⟩ := hrel
                       have Hb7 := Lib.hid hb7
                       clear hb7
                       by_cases htl : (t : Int) < (j : Int)
                       all_goals
                         go_wp2_with fail
                         go_roundw
                         case rel => first | exact ⟨i + 1, by omega, by go_num, Hb7.out, Hq⟩ | ((repeat apply Exists.intro); exact ⟨⟨i + 1, by omega, by go_num, Hb7.out, Hq⟩, rfl⟩)
                         case measure => simp [intOf]; omega)
      · have Hq := HOk.out (keepAt_skip true false Hc.out hq)
        go_wp2
        go_roundw
        case rel => exact ⟨i + 1, by omega, by go_num, Hb.out, Hq⟩
        case measure => simp [intOf]; omega
    · have hge : ¬ ((i : Int) < (n : Int)) := by omega
      have e1 : b = true := by rw [← HV.out, show n = i by omega]; exact HG.out
      subst e1
      have Hb := Lib.hid hb
      clear hb
      go_wp2
      go_ret
      exact ⟨rfl, Hb.out⟩

set_option maxHeartbeats 16000000 in
theorem kept_regular (s : ByteArray) (hs : s.toList = [114, 101, 103, 117, 108, 97, 114]) (cs : List CallD) (hw : writerB cs = true) (A : Option Addr) (n cap : Nat) (w : World) (hr : RowCalls w A cs) (hn : cs.length = n) (b : Bool) (hb : (List.range n).all (keepAt false false cs) = b) :
    Calls Try.prog 64 #[.string s, .slice A n cap] w fun e w' => e = .returned (.bool b) ∧ Below w.heap.size w w' := by
  have h6 := writerB_len hw
  rw [hn] at h6
  have HR := Lib.hid hr
  have HV := Lib.hid hb
  have Hn := Lib.hid hn
  have HW := Lib.hid hw
  clear hr hn hb hw
  have hlen : (n : Int) ≤ 6 := by omega
  go_enter Try.func64, Try.ntmps64
  go_wp2
  go_loopw [5] (fun i wr => ∃ k : Nat, k ≤ n ∧ i = .int .i64 k ∧ Below w.heap.size w wr ∧ Hid ((List.range k).all (keepAt false false cs) = true)) (fun i _ => n - (intOf i).toNat)
  case atStart => exact ⟨0, by omega, rfl, Below.refl _ _, rfl⟩
  case round =>
    obtain ⟨i, hi, rfl, hb, HG⟩ := hrel
    obtain ⟨wo, rfl⟩ : ∃ wo : World, wo = wr := ⟨_, rfl⟩
    by_cases hlt : i < n
    · obtain ⟨b0, off, rfl, hat⟩ := HR.out (by have := Hn.out; omega)
      obtain ⟨c, hc⟩ : ∃ c, cs[i]? = some c := ⟨cs[i]'(by have := Hn.out; omega), List.getElem?_eq_getElem _⟩
      obtain ⟨x0, x1, x2, x3, x4, x5, x6⟩ := (RowCalls.at7 hat hc).below hb
      have Hrow := Lib.hid (HR.out.below hb)
      have HrowW := Lib.hid (HR.out)
      have Hat := Lib.hid hat
      have Hci := Lib.hid hc
      have Hc := Lib.hid (hAt_eq hc)
      have Hb := Lib.hid hb
      obtain ⟨v1, hv1⟩ : ∃ v1, srcB cs c = v1 := ⟨_, rfl⟩
      have Hv1 := Lib.hid hv1
      have hbd1 := srcB_bd cs c
      rw [hv1, Hn.out] at hbd1
      have HS1 := Lib.hid (fun (W : World) (hW : RowCalls W (some ⟨b0, off, none⟩) cs) => source_calls cs i c hc (some ⟨b0, off, none⟩) n cap W hW Hn.out (by omega) v1 hv1)
      have HBad := Lib.hid (fun (e : keepAt false false cs i = false) => show b = false by rw [← HV.out]; exact all_range_false hlt e)
      have HOk := Lib.hid (fun (e : keepAt false false cs i = true) => show Hid ((List.range (i + 1)).all (keepAt false false cs) = true) by show _ = true; rw [all_range_succ, HG.out, e]; rfl)
      clear HR hat hc hb hv1
      have hi0 : (0 : Int) ≤ (i : Int) := by omega
      have hin : (i : Int) < (n : Int) := by omega
      have hn0 : (0 : Int) < (n : Int) := by omega
      cases hq : (c.kind != 2)
      · have Hlook := Lib.hid (keepAt_look false false Hc.out hq)
        have Hk2 := Lib.hid hq
        go_wp2_with fail
        clear hq x0 x1 x2 x3 x4 x5 x6
        refine (HS1.out _ Hrow.out).mono ?_
        rintro e w1 ⟨rfl, hb1⟩
        have Hb1 := Lib.hid (below_trans' Hb.out hb1)
        clear hb1
        go_wp2_with fail
        -- puts that overlap it
        go_loopw [7, 8] (fun m j wq => ∃ k : Nat, k ≤ n ∧ j = .int .i64 k ∧ m = .bool (overB cs c k) ∧ Below w.heap.size w wq) (fun _ j _ => n - (intOf j).toNat)
        case atStart => exact ⟨0, by omega, rfl, rfl, Hb1.out⟩
        case round =>
          obtain ⟨j, hj, rfl, rfl, hb2⟩ := hrel
          by_cases hjlt : j < n
          · obtain ⟨o, ho⟩ : ∃ o, cs[j]? = some o := ⟨cs[j]'(by have := Hn.out; omega), List.getElem?_eq_getElem _⟩
            obtain ⟨x0, x1, x2, x3, x4, x5, x6⟩ := (RowCalls.at7 Hat.out Hci.out).below hb2
            obtain ⟨y0, y1, y2, y3, y4, y5, y6⟩ := (RowCalls.at7 Hat.out ho).below hb2
            have hbz : b0 < wr.heap.size := World.block_lt_of_cell? _ _ x0
            have hst : overB cs c (j + 1) = (overB cs c j || (o.kind == 0 && (!befB o c && !befB c o))) := by rw [overB, hAt_eq ho]; rfl
            obtain ⟨p1, hp1⟩ : ∃ b, befB o c = b := ⟨_, rfl⟩
            obtain ⟨p2, hp2⟩ : ∃ b, befB c o = b := ⟨_, rfl⟩
            rw [hp1, hp2] at hst
            have Hp1 := Lib.hid hp1
            have Hp2 := Lib.hid hp2
            generalize overB cs c j = m at *
            have Hst := Lib.hid hst
            have Hb2 := Lib.hid hb2
            clear ho hst hb2 hp1 hp2
            have hj0 : (0 : Int) ≤ (j : Int) := by omega
            have hjn : (j : Int) < (n : Int) := by omega
            rcases five_ways m (o.kind == 0) p1 p2 with q1 | ⟨q1, q2⟩ | ⟨q1, q2, q3⟩ | ⟨q1, q2, q3, q4⟩ | ⟨q1, q2, q3, q4⟩
            all_goals
              subst q1
              try subst q3
              try subst q4
              try rw [q2] at Hst
              go_wp2_with fail
              refine wp_region_grow (by kernel_rfl) (by kernel_rfl) ?_
              repeat (go_big_quiet_step ((first | (go_at_call 59; with_reducible exact Calls.ext_of (Nat.le_refl _) (before_calls o c _ Hp1.out _)) | (go_at_call 59; with_reducible exact Calls.ext_of (Nat.le_refl _) (before_calls c o _ Hp2.out _)))))
              refine wpQuiet_end ?_
              intro w5 hb5
              go_wp2_with fail
              go_roundw
              case rel => exact ⟨j + 1, by omega, by go_num, by rw [Hst.out]; rfl, below_trans' Hb2.out hb5⟩
              case measure => simp [intOf]; omega
          · have hji : j = n := by omega
            subst hji
            have hlt' : ¬ ((j : Int) < (j : Int)) := by omega
            have hrow2 : RowCalls wr (some ⟨b0, off, none⟩) cs := HrowW.out.below hb2
            have Hrow2 := Lib.hid hrow2
            obtain ⟨l, hl⟩ : ∃ l, lastR cs c j = l := ⟨_, rfl⟩
            have Hl := Lib.hid hl
            have HL := Lib.hid (fun (W : World) (hW : RowCalls W (some ⟨b0, off, none⟩) cs) => lastPut_calls cs i c Hci.out (some ⟨b0, off, none⟩) j cap W hW Hn.out (by omega) l hl)
            obtain ⟨fb, hfb⟩ : ∃ fb, (v1 == l) = fb := ⟨_, rfl⟩
            have hfine : fineB cs c = fb := by rw [fineB, Hv1.out, Hn.out, ← last_eq HW.out c j (by rw [Hn.out]; exact Nat.le_refl _), hl, hfb]
            have Hfb := Lib.hid hfb
            have Hfine := Lib.hid hfine
            have Hb2 := Lib.hid hb2
            obtain ⟨mt, hmt⟩ : ∃ mt, overB cs c j = mt := ⟨_, rfl⟩
            rw [hmt]
            have Hmt := Lib.hid (show overB cs c cs.length = mt by rw [Hn.out]; exact hmt)
            clear hb2 hl hfb hfine hrow2 hmt
            go_wp2_with fail
            refine (HL.out _ Hrow2.out).mono ?_
            rintro e w3 ⟨rfl, hb3⟩
            have Hb3 := Lib.hid (below_trans' Hb2.out hb3)
            clear hb3
            have hfb : (v1 == l) = fb := Hfb.out
            go_wp2_with fail
            clear hfb
            have hat4 : ∀ m : Nat, m < j → ∃ q, hAt cs m = q ∧ At7 w3 b0 (off + m * 7) q := by
              intro m hm
              have hg : cs[m]? = some (cs[m]'(by have := Hn.out; omega)) := List.getElem?_eq_getElem _
              exact ⟨_, hAt_eq hg, RowCalls.at7 Hat.out hg |>.below Hb3.out⟩
            have HN := Lib.hid Hn.out
            obtain ⟨ov, hov⟩ : ∃ ov, besideB cs c = ov := ⟨_, rfl⟩
            have Hbe := Lib.hid hov
            clear hov
            go_cut [10] (fun o wx => o = .bool ov ∧ Below w.heap.size w wx)
            case first =>
              rcases src_ways v1 hbd1.1 with e1 | e1 | ⟨m1, e1⟩
              · have hbe : ov = false := by rw [← Hbe.out, besideB, Hv1.out, e1]; rfl
                subst e1
                subst hbe
                clear hat4
                refine wp_region_grow (by kernel_rfl) (by kernel_rfl) ?_
                repeat (go_big_quiet_step (fail))
                refine wpQuiet_end ?_
                intro w6 hb6
                have Hb6 := Lib.hid (below_trans' Hb3.out hb6)
                clear hb6
                try clear x0 x1 x2 x3 x4 x5 x6 z0 z1 z2 z3 z4 z5 z6
                go_wp2_with fail
                go_meet
                exact ⟨rfl, Hb6.out⟩
              · have hbe : ov = false := by rw [← Hbe.out, besideB, Hv1.out, e1]; rfl
                subst e1
                subst hbe
                clear hat4
                refine wp_region_grow (by kernel_rfl) (by kernel_rfl) ?_
                repeat (go_big_quiet_step (fail))
                refine wpQuiet_end ?_
                intro w6 hb6
                have Hb6 := Lib.hid (below_trans' Hb3.out hb6)
                clear hb6
                try clear x0 x1 x2 x3 x4 x5 x6 z0 z1 z2 z3 z4 z5 z6
                go_wp2_with fail
                go_meet
                exact ⟨rfl, Hb6.out⟩
              · obtain ⟨q, hqe, z0, z1, z2, z3, z4, z5, z6⟩ := hat4 m1 (by omega)
                obtain ⟨x0, x1, x2, x3, x4, x5, x6⟩ := (RowCalls.at7 Hat.out Hci.out).below Hb3.out
                have hbz : b0 < w3.heap.size := World.block_lt_of_cell? _ _ x0
                have hbe0 : ov = (!befB q c && !befB c q) := by rw [← Hbe.out, besideB, Hv1.out, e1, Int.toNat_natCast, hqe, lapB, decide_eq_true (by omega)]; rfl
                obtain ⟨p1, hp1⟩ : ∃ b, befB q c = b := ⟨_, rfl⟩
                obtain ⟨p2, hp2⟩ : ∃ b, befB c q = b := ⟨_, rfl⟩
                rw [hp1, hp2] at hbe0
                have Hp1 := Lib.hid hp1
                have Hp2 := Lib.hid hp2
                subst e1
                subst hbe0
                clear hat4 hp1 hp2 hqe
                have hm0 : (0 : Int) ≤ (m1 : Int) := by omega
                have hm1 : (m1 : Int) < (j : Int) := by omega
                rcases out_ways p1 p2 with q1 | ⟨q1, q2⟩ | ⟨q1, q2⟩
                all_goals
                  subst q1
                  try subst q2
                  refine wp_region_grow (by kernel_rfl) (by kernel_rfl) ?_
                  repeat (go_big_quiet_step ((first | (go_at_call 59; with_reducible exact Calls.ext_of (Nat.le_refl _) (before_calls q c _ Hp1.out _)) | (go_at_call 59; with_reducible exact Calls.ext_of (Nat.le_refl _) (before_calls c q _ Hp2.out _)))))
                  refine wpQuiet_end ?_
                  intro w6 hb6
                  have Hb6 := Lib.hid (below_trans' Hb3.out hb6)
                  clear hb6
                  try clear x0 x1 x2 x3 x4 x5 x6 z0 z1 z2 z3 z4 z5 z6
                  go_wp2_with fail
                  go_meet
                  exact ⟨rfl, Hb6.out⟩
            case rest =>
              obtain ⟨rfl, hb6⟩ := hcut
              have Hb6 := Lib.hid hb6
              clear hb6 hat4
              have Hrt := Lib.hid (show rightB false cs c = (fb || besideB cs c) by rw [rightB, Hfine.out]; rfl)
              rw [Hbe.out] at Hrt
              rcases or_ways3 fb ov with g1 | ⟨g1, g2⟩ | ⟨g1, g2⟩
              all_goals
                subst g1
                try subst g2
                go_wp2_with fail
                first
                  | (go_ret
                     have e2 := HBad.out (by rw [Hlook.out, Hrt.out]; rfl)
                     exact ⟨by rw [e2]; rfl, Hb6.out⟩)
                  | (have Hq := HOk.out (by rw [Hlook.out, Hrt.out]; rfl)
                     go_loopw [11] (fun k wq => ∃ t : Nat, t ≤ j ∧ k = .int .i64 t ∧ Below w.heap.size w wq) (fun k _ => j - (intOf k).toNat)
                     case atStart => exact ⟨0, by omega, rfl, Hb6.out⟩
                     case round =>
                       obtain ⟨t, ht, rfl, hb7⟩ := hrel
                       have Hb7 := Lib.hid hb7
                       clear hb7
                       by_cases htl : (t : Int) < (j : Int)
                       all_goals
                         go_wp2_with fail
                         go_roundw
                         case rel => first | exact ⟨i + 1, by omega, by go_num, Hb7.out, Hq⟩ | ((repeat apply Exists.intro); exact ⟨⟨i + 1, by omega, by go_num, Hb7.out, Hq⟩, rfl⟩)
                         case measure => simp [intOf]; omega)
      · have Hq := HOk.out (keepAt_skip false false Hc.out hq)
        go_wp2
        go_roundw
        case rel => exact ⟨i + 1, by omega, by go_num, Hb.out, Hq⟩
        case measure => simp [intOf]; omega
    · have hge : ¬ ((i : Int) < (n : Int)) := by omega
      have e1 : b = true := by rw [← HV.out, show n = i by omega]; exact HG.out
      subst e1
      have Hb := Lib.hid hb
      clear hb
      go_wp2
      go_ret
      exact ⟨rfl, Hb.out⟩

set_option maxHeartbeats 16000000 in
theorem kept_atomic (s : ByteArray) (hs : s.toList = [97, 116, 111, 109, 105, 99]) (cs : List CallD) (hw : writerB cs = true) (A : Option Addr) (n cap : Nat) (w : World) (hr : RowCalls w A cs) (hn : cs.length = n) (b : Bool) (hb : (List.range n).all (keepAt false true cs) = b) :
    Calls Try.prog 64 #[.string s, .slice A n cap] w fun e w' => e = .returned (.bool b) ∧ Below w.heap.size w w' := by
  have h6 := writerB_len hw
  rw [hn] at h6
  have HR := Lib.hid hr
  have HV := Lib.hid hb
  have Hn := Lib.hid hn
  have HW := Lib.hid hw
  clear hr hn hb hw
  have hlen : (n : Int) ≤ 6 := by omega
  go_enter Try.func64, Try.ntmps64
  go_wp2
  go_loopw [5] (fun i wr => ∃ k : Nat, k ≤ n ∧ i = .int .i64 k ∧ Below w.heap.size w wr ∧ Hid ((List.range k).all (keepAt false true cs) = true)) (fun i _ => n - (intOf i).toNat)
  case atStart => exact ⟨0, by omega, rfl, Below.refl _ _, rfl⟩
  case round =>
    obtain ⟨i, hi, rfl, hb, HG⟩ := hrel
    obtain ⟨wo, rfl⟩ : ∃ wo : World, wo = wr := ⟨_, rfl⟩
    by_cases hlt : i < n
    · obtain ⟨b0, off, rfl, hat⟩ := HR.out (by have := Hn.out; omega)
      obtain ⟨c, hc⟩ : ∃ c, cs[i]? = some c := ⟨cs[i]'(by have := Hn.out; omega), List.getElem?_eq_getElem _⟩
      obtain ⟨x0, x1, x2, x3, x4, x5, x6⟩ := (RowCalls.at7 hat hc).below hb
      have Hrow := Lib.hid (HR.out.below hb)
      have HrowW := Lib.hid (HR.out)
      have Hat := Lib.hid hat
      have Hci := Lib.hid hc
      have Hc := Lib.hid (hAt_eq hc)
      have Hb := Lib.hid hb
      obtain ⟨v1, hv1⟩ : ∃ v1, srcB cs c = v1 := ⟨_, rfl⟩
      have Hv1 := Lib.hid hv1
      have hbd1 := srcB_bd cs c
      rw [hv1, Hn.out] at hbd1
      have HS1 := Lib.hid (fun (W : World) (hW : RowCalls W (some ⟨b0, off, none⟩) cs) => source_calls cs i c hc (some ⟨b0, off, none⟩) n cap W hW Hn.out (by omega) v1 hv1)
      have HBad := Lib.hid (fun (e : keepAt false true cs i = false) => show b = false by rw [← HV.out]; exact all_range_false hlt e)
      have HOk := Lib.hid (fun (e : keepAt false true cs i = true) => show Hid ((List.range (i + 1)).all (keepAt false true cs) = true) by show _ = true; rw [all_range_succ, HG.out, e]; rfl)
      clear HR hat hc hb hv1
      have hi0 : (0 : Int) ≤ (i : Int) := by omega
      have hin : (i : Int) < (n : Int) := by omega
      have hn0 : (0 : Int) < (n : Int) := by omega
      cases hq : (c.kind != 2)
      · have Hlook := Lib.hid (keepAt_look false true Hc.out hq)
        have Hk2 := Lib.hid hq
        go_wp2_with fail
        clear hq x0 x1 x2 x3 x4 x5 x6
        refine (HS1.out _ Hrow.out).mono ?_
        rintro e w1 ⟨rfl, hb1⟩
        have Hb1 := Lib.hid (below_trans' Hb.out hb1)
        clear hb1
        go_wp2_with fail
        -- puts that overlap it
        go_loopw [7, 8] (fun m j wq => ∃ k : Nat, k ≤ n ∧ j = .int .i64 k ∧ m = .bool (overB cs c k) ∧ Below w.heap.size w wq) (fun _ j _ => n - (intOf j).toNat)
        case atStart => exact ⟨0, by omega, rfl, rfl, Hb1.out⟩
        case round =>
          obtain ⟨j, hj, rfl, rfl, hb2⟩ := hrel
          by_cases hjlt : j < n
          · obtain ⟨o, ho⟩ : ∃ o, cs[j]? = some o := ⟨cs[j]'(by have := Hn.out; omega), List.getElem?_eq_getElem _⟩
            obtain ⟨x0, x1, x2, x3, x4, x5, x6⟩ := (RowCalls.at7 Hat.out Hci.out).below hb2
            obtain ⟨y0, y1, y2, y3, y4, y5, y6⟩ := (RowCalls.at7 Hat.out ho).below hb2
            have hbz : b0 < wr.heap.size := World.block_lt_of_cell? _ _ x0
            have hst : overB cs c (j + 1) = (overB cs c j || (o.kind == 0 && (!befB o c && !befB c o))) := by rw [overB, hAt_eq ho]; rfl
            obtain ⟨p1, hp1⟩ : ∃ b, befB o c = b := ⟨_, rfl⟩
            obtain ⟨p2, hp2⟩ : ∃ b, befB c o = b := ⟨_, rfl⟩
            rw [hp1, hp2] at hst
            have Hp1 := Lib.hid hp1
            have Hp2 := Lib.hid hp2
            generalize overB cs c j = m at *
            have Hst := Lib.hid hst
            have Hb2 := Lib.hid hb2
            clear ho hst hb2 hp1 hp2
            have hj0 : (0 : Int) ≤ (j : Int) := by omega
            have hjn : (j : Int) < (n : Int) := by omega
            rcases five_ways m (o.kind == 0) p1 p2 with q1 | ⟨q1, q2⟩ | ⟨q1, q2, q3⟩ | ⟨q1, q2, q3, q4⟩ | ⟨q1, q2, q3, q4⟩
            all_goals
              subst q1
              try subst q3
              try subst q4
              try rw [q2] at Hst
              go_wp2_with fail
              refine wp_region_grow (by kernel_rfl) (by kernel_rfl) ?_
              repeat (go_big_quiet_step ((first | (go_at_call 59; with_reducible exact Calls.ext_of (Nat.le_refl _) (before_calls o c _ Hp1.out _)) | (go_at_call 59; with_reducible exact Calls.ext_of (Nat.le_refl _) (before_calls c o _ Hp2.out _)))))
              refine wpQuiet_end ?_
              intro w5 hb5
              go_wp2_with fail
              go_roundw
              case rel => exact ⟨j + 1, by omega, by go_num, by rw [Hst.out]; rfl, below_trans' Hb2.out hb5⟩
              case measure => simp [intOf]; omega
          · have hji : j = n := by omega
            subst hji
            have hlt' : ¬ ((j : Int) < (j : Int)) := by omega
            have hrow2 : RowCalls wr (some ⟨b0, off, none⟩) cs := HrowW.out.below hb2
            have Hrow2 := Lib.hid hrow2
            obtain ⟨l, hl⟩ : ∃ l, lastR cs c j = l := ⟨_, rfl⟩
            have Hl := Lib.hid hl
            have HL := Lib.hid (fun (W : World) (hW : RowCalls W (some ⟨b0, off, none⟩) cs) => lastPut_calls cs i c Hci.out (some ⟨b0, off, none⟩) j cap W hW Hn.out (by omega) l hl)
            obtain ⟨fb, hfb⟩ : ∃ fb, (v1 == l) = fb := ⟨_, rfl⟩
            have hfine : fineB cs c = fb := by rw [fineB, Hv1.out, Hn.out, ← last_eq HW.out c j (by rw [Hn.out]; exact Nat.le_refl _), hl, hfb]
            have Hfb := Lib.hid hfb
            have Hfine := Lib.hid hfine
            have Hb2 := Lib.hid hb2
            obtain ⟨mt, hmt⟩ : ∃ mt, overB cs c j = mt := ⟨_, rfl⟩
            rw [hmt]
            have Hmt := Lib.hid (show overB cs c cs.length = mt by rw [Hn.out]; exact hmt)
            clear hb2 hl hfb hfine hrow2 hmt
            go_wp2_with fail
            refine (HL.out _ Hrow2.out).mono ?_
            rintro e w3 ⟨rfl, hb3⟩
            have Hb3 := Lib.hid (below_trans' Hb2.out hb3)
            clear hb3
            have hfb : (v1 == l) = fb := Hfb.out
            go_wp2_with fail
            clear hfb
            have hat4 : ∀ m : Nat, m < j → ∃ q, hAt cs m = q ∧ At7 w3 b0 (off + m * 7) q := by
              intro m hm
              have hg : cs[m]? = some (cs[m]'(by have := Hn.out; omega)) := List.getElem?_eq_getElem _
              exact ⟨_, hAt_eq hg, RowCalls.at7 Hat.out hg |>.below Hb3.out⟩
            have HN := Lib.hid Hn.out
            obtain ⟨ov, hov⟩ : ∃ ov, besideB cs c = ov := ⟨_, rfl⟩
            have Hbe := Lib.hid hov
            clear hov
            go_cut [10] (fun o wx => o = .bool ov ∧ Below w.heap.size w wx)
            case first =>
              rcases src_ways v1 hbd1.1 with e1 | e1 | ⟨m1, e1⟩
              · have hbe : ov = false := by rw [← Hbe.out, besideB, Hv1.out, e1]; rfl
                subst e1
                subst hbe
                clear hat4
                refine wp_region_grow (by kernel_rfl) (by kernel_rfl) ?_
                repeat (go_big_quiet_step (fail))
                refine wpQuiet_end ?_
                intro w6 hb6
                have Hb6 := Lib.hid (below_trans' Hb3.out hb6)
                clear hb6
                try clear x0 x1 x2 x3 x4 x5 x6 z0 z1 z2 z3 z4 z5 z6
                go_wp2_with fail
                go_meet
                exact ⟨rfl, Hb6.out⟩
              · have hbe : ov = false := by rw [← Hbe.out, besideB, Hv1.out, e1]; rfl
                subst e1
                subst hbe
                clear hat4
                refine wp_region_grow (by kernel_rfl) (by kernel_rfl) ?_
                repeat (go_big_quiet_step (fail))
                refine wpQuiet_end ?_
                intro w6 hb6
                have Hb6 := Lib.hid (below_trans' Hb3.out hb6)
                clear hb6
                try clear x0 x1 x2 x3 x4 x5 x6 z0 z1 z2 z3 z4 z5 z6
                go_wp2_with fail
                go_meet
                exact ⟨rfl, Hb6.out⟩
              · obtain ⟨q, hqe, z0, z1, z2, z3, z4, z5, z6⟩ := hat4 m1 (by omega)
                obtain ⟨x0, x1, x2, x3, x4, x5, x6⟩ := (RowCalls.at7 Hat.out Hci.out).below Hb3.out
                have hbz : b0 < w3.heap.size := World.block_lt_of_cell? _ _ x0
                have hbe0 : ov = (!befB q c && !befB c q) := by rw [← Hbe.out, besideB, Hv1.out, e1, Int.toNat_natCast, hqe, lapB, decide_eq_true (by omega)]; rfl
                obtain ⟨p1, hp1⟩ : ∃ b, befB q c = b := ⟨_, rfl⟩
                obtain ⟨p2, hp2⟩ : ∃ b, befB c q = b := ⟨_, rfl⟩
                rw [hp1, hp2] at hbe0
                have Hp1 := Lib.hid hp1
                have Hp2 := Lib.hid hp2
                subst e1
                subst hbe0
                clear hat4 hp1 hp2 hqe
                have hm0 : (0 : Int) ≤ (m1 : Int) := by omega
                have hm1 : (m1 : Int) < (j : Int) := by omega
                rcases out_ways p1 p2 with q1 | ⟨q1, q2⟩ | ⟨q1, q2⟩
                all_goals
                  subst q1
                  try subst q2
                  refine wp_region_grow (by kernel_rfl) (by kernel_rfl) ?_
                  repeat (go_big_quiet_step ((first | (go_at_call 59; with_reducible exact Calls.ext_of (Nat.le_refl _) (before_calls q c _ Hp1.out _)) | (go_at_call 59; with_reducible exact Calls.ext_of (Nat.le_refl _) (before_calls c q _ Hp2.out _)))))
                  refine wpQuiet_end ?_
                  intro w6 hb6
                  have Hb6 := Lib.hid (below_trans' Hb3.out hb6)
                  clear hb6
                  try clear x0 x1 x2 x3 x4 x5 x6 z0 z1 z2 z3 z4 z5 z6
                  go_wp2_with fail
                  go_meet
                  exact ⟨rfl, Hb6.out⟩
            case rest =>
              obtain ⟨rfl, hb6⟩ := hcut
              have Hb6 := Lib.hid hb6
              clear hb6 hat4
              have Hrt := Lib.hid (show rightB false cs c = (fb || besideB cs c) by rw [rightB, Hfine.out]; rfl)
              rw [Hbe.out] at Hrt
              rcases or_ways3 fb ov with g1 | ⟨g1, g2⟩ | ⟨g1, g2⟩
              all_goals
                subst g1
                try subst g2
                go_wp2_with fail
                first
                  | (go_ret
                     have e2 := HBad.out (by rw [Hlook.out, Hrt.out]; rfl)
                     exact ⟨by rw [e2]; rfl, Hb6.out⟩)
                  | (have Hrt1 : Hid (rightB false cs c = true) := by show _ = true; rw [Hrt.out]; rfl
                     go_loopw [11] (fun k wq => ∃ t : Nat, t ≤ j ∧ k = .int .i64 t ∧ Below w.heap.size w wq ∧ Hid ((List.range t).all (fun k => !turnB cs i k) = true)) (fun k _ => j - (intOf k).toNat)
                     case atStart => exact ⟨0, by omega, rfl, Hb6.out, rfl⟩
                     case round =>
                       obtain ⟨t, ht, rfl, hb7, HP⟩ := hrel
                       by_cases htl : t < j
                       · obtain ⟨o, ho⟩ : ∃ o, cs[t]? = some o := ⟨cs[t]'(by have := HN.out; omega), List.getElem?_eq_getElem _⟩
                         obtain ⟨x0, x1, x2, x3, x4, x5, x6⟩ := (RowCalls.at7 Hat.out Hci.out).below hb7
                         obtain ⟨y0, y1, y2, y3, y4, y5, y6⟩ := (RowCalls.at7 Hat.out ho).below hb7
                         have hbz : b0 < wr.heap.size := World.block_lt_of_cell? _ _ x0
                         have hrow7 : RowCalls wr (some ⟨b0, off, none⟩) cs := HrowW.out.below hb7
                         have Hrow7 := Lib.hid hrow7
                         obtain ⟨v2, hv2⟩ : ∃ v2, srcB cs o = v2 := ⟨_, rfl⟩
                         have hbd2 := srcB_bd cs o
                         rw [hv2, HN.out] at hbd2
                         have HS2 := Lib.hid (fun (W : World) (hW : RowCalls W (some ⟨b0, off, none⟩) cs) => source_calls cs t o ho (some ⟨b0, off, none⟩) j cap W hW HN.out (by omega) v2 hv2)
                         obtain ⟨b1, hb1⟩ : ∃ b1, olderB cs v2 (srcB cs c) = b1 := ⟨_, rfl⟩
                         have hT : turnB cs i t = (c.kind == 2 && (o.kind == 2 && (befB c o && b1))) := by
                           rw [turnB, Hc.out, hAt_eq ho, hv2, hb1]
                         rw [show (c.kind == 2) = true by simpa using Hk2.out, Bool.true_and] at hT
                         rw [Hv1.out] at hb1
                         have HO := Lib.hid (fun (W : World) (hW : RowCalls W (some ⟨b0, off, none⟩) cs) => older_calls cs v2 _ (some ⟨b0, off, none⟩) j cap W hW HN.out (by omega) hbd2 hbd1 b1 hb1)
                         obtain ⟨b2, hb2⟩ : ∃ b2, befB c o = b2 := ⟨_, rfl⟩
                         rw [hb2] at hT
                         have Hbf := Lib.hid hb2
                         have HT := Lib.hid hT
                         have Hb7 := Lib.hid hb7
                         have HBad2 := Lib.hid (fun (e : turnB cs i t = true) => HBad.out (by rw [Hlook.out, Hrt1.out, Bool.true_and, Bool.not_true, Bool.false_or, noTurnB, HN.out]; exact all_range_false htl (by rw [e]; rfl)))
                         have HOk2 := Lib.hid (fun (e : turnB cs i t = false) => show Hid ((List.range (t + 1)).all (fun k => !turnB cs i k) = true) by show _ = true; rw [all_range_succ, HP.out, e]; rfl)
                         clear ho hv2 hb1 hT hb2 hb7 hrow7
                         have ht0 : (0 : Int) ≤ (t : Int) := by omega
                         have htn : (t : Int) < (j : Int) := by omega
                         rcases three_ways (o.kind == 2) b2 b1 with r1 | ⟨r1, r2⟩ | ⟨r1, r2, r3⟩ | ⟨r1, r2, r3⟩
                         all_goals
                           try subst r2
                           try subst r3
                           rw [r1] at HT
                           go_wp2_with fail
                           refine wp_region_grow (by kernel_rfl) (by kernel_rfl) ?_
                           repeat (go_big_quiet_step ((first | (go_at_call 59; exact Calls.ext_of (Nat.le_refl _) (before_calls c o _ Hbf.out _)) | (go_at_call 61; with_reducible exact Calls.ext_of (Nat.le_refl _) (HS2.out _ (Hrow7.out.below (Wx.h _)))) | (go_at_call 60; with_reducible exact Calls.ext_of (Nat.le_refl _) (HO.out _ (Hrow7.out.below (Wx.h _)))))))
                           refine wpQuiet_end ?_
                           intro w8 hb8
                           go_wp2_with fail
                           first
                             | (go_ret
                                have e2 := HBad2.out (by rw [HT.out]; rfl)
                                exact ⟨by rw [e2]; rfl, below_trans' Hb7.out hb8⟩)
                             | (have Hq := HOk2.out (by rw [HT.out]; rfl)
                                go_roundw
                                case rel => exact ⟨t + 1, by omega, by go_num, below_trans' Hb7.out hb8, Hq⟩
                                case measure => simp [intOf]; omega)
                       · have hte : t = j := by omega
                         subst hte
                         have hge : ¬ ((t : Int) < (t : Int)) := by omega
                         have Hq := HOk.out (by rw [Hlook.out, Hrt1.out, noTurnB, HN.out, HP.out]; rfl)
                         have Hb7 := Lib.hid hb7
                         clear hb7
                         go_wp2_with fail
                         go_roundw
                         case rel => first | exact ⟨i + 1, by omega, by go_num, Hb7.out, Hq⟩ | ((repeat apply Exists.intro); exact ⟨⟨i + 1, by omega, by go_num, Hb7.out, Hq⟩, rfl⟩)
                         case measure => simp [intOf]; omega)
      · have Hq := HOk.out (keepAt_skip false true Hc.out hq)
        go_wp2
        go_roundw
        case rel => exact ⟨i + 1, by omega, by go_num, Hb.out, Hq⟩
        case measure => simp [intOf]; omega
    · have hge : ¬ ((i : Int) < (n : Int)) := by omega
      have e1 : b = true := by rw [← HV.out, show n = i by omega]; exact HG.out
      subst e1
      have Hb := Lib.hid hb
      clear hb
      go_wp2
      go_ret
      exact ⟨rfl, Hb.out⟩
end Go.Proofs.Ytoeecaeaobfhmaa
