/-
  What MendReads answers, of the program, in memory of its own. No condition but lengths of at most 2 to the 20.
-/
import Derived.Test.YtooigcfdkmgjnaaIsCausal
import Derived.Test.YtooigcfdkmgjnaaMndR
import Derived.Test.YtooigcfdkmgjnaaAppD
import Derived.Test.YtooigcfdkmgjnaaGenB
import Derived.Test.YtooigcfdkmgjnaaAccessS
namespace Go.Proofs.Ytooigcfdkmgjnaa
open Go.RowKit
set_option maxRecDepth 100000

theorem SessAtI.far {p : Nat → Prop} {w w' : World} {B g i : Nat} {cs : List AccessD} {row fol cau : Value} (k : SessAtI w B g cs i row fol cau) (hf : Far p w w') (hg : ¬ p g) (h1 : ∀ o, row.ownBlock = some o → ¬ p o) (h2 : ∀ o, fol.ownBlock = some o → ¬ p o) (h3 : ∀ o, cau.ownBlock = some o → ¬ p o) : SessAtI w' B g cs i row fol cau :=
  ⟨k.blk.far hf hg, k.base, hf.own k.ro h1, hf.own k.fo h2, hf.own k.co h3, k.rg, k.fg, k.cg, k.rf, k.rc, k.fc⟩
theorem SessAtI.below {w w' : World} {B g i : Nat} {cs : List AccessD} {row fol cau : Value} (k : SessAtI w B g cs i row fol cau) (hb : Below w.heap.size w w') : SessAtI w' B g cs i row fol cau :=
  k.far ((Far.refl (fun _ => False) w).below hb) (fun h => h) (fun _ _ h => h) (fun _ _ h => h) (fun _ _ h => h)
theorem acc_new (w : World) (e : AccessD) (E : TypeId) : ∀ j u, e.vals[j]? = some u → (w.alloc (.cells e.vals.toArray E)).cell? ((⟨w.heap.size, 0, none⟩ : Addr).add j) = some u := by
  intro j u hu
  rw [Addr.add_lit, Nat.zero_add, World.cell?_alloc_new]
  simpa using hu
theorem acc_new' (w : World) (e : AccessD) (E : TypeId) {n : Nat} (hn : n = w.heap.size) : ∀ j u, e.vals[j]? = some u → (w.alloc (.cells e.vals.toArray E)).cell? ((⟨n, 0, none⟩ : Addr).add j) = some u := by
  subst hn
  exact acc_new w e E

set_option maxHeartbeats 2000000 in
theorem due_calls (cs : List AccessD) (hv : accB cs = true) (B g i s sn : Nat) (wf : Bool) (hi : i ≤ cs.length) (hs3 : s < 3) (hsn : sn < 2 ^ 10) (w : World) (k : SessAt w B g cs i) (D : Nat)
    (hD : cauK ((sn ||| mineK cs (s : Int) i) ||| seenK cs (s : Int) i) (cauN cs i) ((sn ||| mineK cs (s : Int) i) ||| seenK cs (s : Int) i) (wrN cs i) = D) :
    Calls Try.prog 56 #[.pointer (some ⟨g, 0, none⟩), .agg #[.int .i64 s, .bool wf, .int .i64 sn]] w fun e w' => e = .returned (.int .i64 D) ∧ Below w.heap.size w w' := by
  obtain ⟨Ar, cr, Af, cf, Ac, cc, hm, hh, _, _, c8, _, _, rc, _, hgz, _⟩ := k.cells
  have cm := hm s hs3
  have ch := hh s hs3
  have hten := wrN_ten hv i
  have hp : 2 ^ wrN cs i ≤ 2 ^ 10 := Nat.pow_le_pow_right (by omega) hten
  have lm := mineK_lt cs (s : Int) i hi
  have lh := seenK_lt hv (s : Int) i hi
  have hcl := cauN_len cs i hi
  have hcv := cauN_lt cs i hi
  rw [hcl] at c8
  have lo : sn ||| mineK cs (s : Int) i < 2 ^ 10 := Nat.or_lt_two_pow (by omega) (by omega)
  have lo2 : (sn ||| mineK cs (s : Int) i) ||| seenK cs (s : Int) i < 2 ^ 10 := Nat.or_lt_two_pow lo (by omega)
  have hor1 := i64_or_nat sn (mineK cs (s : Int) i) (by omega) (by omega)
  have hor2 := i64_or_nat (sn ||| mineK cs (s : Int) i) (seenK cs (s : Int) i) (by omega) (by omega)
  have HCL := Lib.hid (fun (W : World) (hcell : W.cell? ⟨g, 8, none⟩ = some (.slice Ac (wrN cs i) cc)) (hrw : RowInts W Ac ((cauN cs i).map Int.ofNat)) => hD ▸ closed_calls g (cauN cs i) (wrN cs i) ((sn ||| mineK cs (s : Int) i) ||| seenK cs (s : Int) i) Ac cc W hcell hrw hcl (by omega) (by omega) (fun j => by have := hcv j; omega))
  have C8 := Lib.hid c8
  have RC := Lib.hid rc
  clear k hm hh c8 rc hcv hcl hp hD lm lh
  generalize mineK cs (s : Int) i = M at *
  generalize seenK cs (s : Int) i = H at *
  generalize sn ||| M = SM at *
  generalize SM ||| H = MH at *
  have hs0' : (0 : Int) ≤ (s : Int) := by omega
  have hs3' : (s : Int) < 3 := by omega
  go_enter Try.func56, Try.ntmps56
  go_wp2_with fail
  refine wp_region_grow (by kernel_rfl) (by kernel_rfl) ?_
  repeat (go_big_quiet_step ((go_at_call 49; exact Calls.ext_same (HCL.out _ (by rw [Wx.cell_eq _ _ _ (by simp; omega)]; first | exact cell_below (below_alloc (Below.refl _ _) _) C8.out | exact cell_below (below_alloc (Below.refl _ _) _).drew C8.out) (RC.out.below (by first | exact (below_alloc (Below.refl _ _) _).trans ((Wx.h _).mono (by simp)) | exact ((below_alloc (Below.refl _ _) _).drew).trans ((Wx.h _).mono (by simp))))))))
  refine wpQuiet_end ?_
  intro w3 hb3
  go_wp2_with fail
  go_ret
  exact ⟨rfl, (by repeat (first | exact Below.refl _ _ | assumption | refine below_alloc ?_ _ | refine below_trans' ?_ (by assumption) | refine Below.drew ?_))⟩

/-- A block that is just one access. -/
def AccBlk (w : World) (b : Nat) (e : AccessD) : Prop := w.heap[b]? = some (.cells e.vals.toArray 44 (0, 0))
theorem AccBlk.lt {w : World} {b : Nat} {e : AccessD} (h : AccBlk w b e) : b < w.heap.size := (Array.getElem?_eq_some_iff.1 h).1
theorem AccBlk.cell {w : World} {b i : Nat} {e : AccessD} {v : Value} (h : AccBlk w b e) (hi : e.vals[i]? = some v) : w.cell? ⟨b, i, none⟩ = some v := by
  rw [cell_of_row w b i _ _ _ h]; simpa using hi
theorem AccBlk.free {w : World} {b : Nat} {e : AccessD} (h : AccBlk w b e) (i : Nat) : w.frozen? ⟨b, i, none⟩ = false := frozen_of_row w b i _ _ h
theorem AccBlk.grown {w w' : World} {b : Nat} {e : AccessD} {row : Option Nat} (h : AccBlk w b e) (hg : w.grownBy w' row) (hne : row ≠ some b) : AccBlk w' b e := (hg.block b h.lt (Ne.symm hne)).trans h
theorem AccBlk.below {w w' : World} {b : Nat} {e : AccessD} (h : AccBlk w b e) (hb : Below w.heap.size w w') : AccBlk w' b e := (hb.block b h.lt).trans h
theorem AccBlk.seen_ {w : World} {b : Nat} {e : AccessD} (h : AccBlk w b e) (x : Int) : AccBlk (w.setCell ⟨b, 2, none⟩ (.int .i64 x)) b ⟨e.session, e.write, x⟩ := by
  have := heap_setCell_same w b 2 _ _ (.int .i64 x) h
  unfold AccBlk
  rw [this]; rfl
theorem sess_startI (w : World) (B : Nat) (hB : B ≤ w.heap.size) (cs : List AccessD) : SessAtI (w.alloc (.cells #[.int .i64 0, .int .i64 0, .int .i64 0, .int .i64 0, .int .i64 0, .int .i64 0, .slice none 0 0, .slice none 0 0, .slice none 0 0] 57)) B w.heap.size cs 0 (.slice none 0 0) (.slice none 0 0) (.slice none 0 0) := by
  have hnil : ∀ v : World, v.ownsRow B 3 1 (.slice none 0 0) 0 [] := fun v => World.ownsRow_nil _ _ _ _
  refine ⟨heap_alloc_new w _, hB, hnil _, hnil _, hnil _, by simp [Value.ownBlock], by simp [Value.ownBlock], by simp [Value.ownBlock], by simp [Value.ownBlock], by simp [Value.ownBlock], by simp [Value.ownBlock]⟩
/-- No row of the struct, nor the struct, lies where v lies. -/
def Aside (g : Nat) (row fol cau v : Value) : Prop := ∀ o, v.ownBlock = some o → o ≠ g ∧ row.ownBlock ≠ some o ∧ fol.ownBlock ≠ some o ∧ cau.ownBlock ≠ some o
theorem aside_step {w w' : World} {B g i n H : Nat} {e : Ending} {M : List AccessD} {row fol cau v v1 : Value} {xs : List Value} {T : TypeId} (K : SessAtI w B g M i row fol cau) (hA : Aside g row fol cau v) (hv : v1.ownBlock = v.ownBlock ∨ v1.ownBlock = some H) (hH : ∀ o, (row.ownBlock = some o ∨ fol.ownBlock = some o ∨ cau.ownBlock = some o ∨ o = g) → o < H) (ho : w.ownsRow B T 3 v1 n xs)
    (hs : AddStepN w w' B g M (i + 1) row fol cau e) : ∃ r f c, SessAtI w' B g M (i + 1) r f c ∧ w'.ownsRow B T 3 v1 n xs ∧ Aside g r f c v1 := by
  obtain ⟨_, ⟨r, f, c, k, hn⟩, hb⟩ := hs
  have hA1 : Aside g row fol cau v1 := by
    intro o h
    rcases hv with e1 | e1
    · exact hA o (by rw [← e1]; exact h)
    · rw [e1] at h
      injection h with h
      subst h
      refine ⟨fun e => ?_, fun e => ?_, fun e => ?_, fun e => ?_⟩
      · have := hH H (.inr (.inr (.inr e))); omega
      · have := hH H (.inl e); omega
      · have := hH H (.inr (.inl e)); omega
      · have := hH H (.inr (.inr (.inl e))); omega
  have hall : ∀ o, v1.ownBlock = some o → r.ownBlock ≠ some o ∧ f.ownBlock ≠ some o ∧ c.ownBlock ≠ some o ∧ w'.heap[o]? = w.heap[o]? := fun o h => hn o (ho.lt o h).2 (hA1 o h).1 (hA1 o h).2.1 (hA1 o h).2.2.1 (hA1 o h).2.2.2
  refine ⟨r, f, c, k, ?_, fun o h => ⟨(hA1 o h).1, (hall o h).1, (hall o h).2.1, (hall o h).2.2.1⟩⟩
  have hf : Far (fun k => v1.ownBlock ≠ some k) w w' := ⟨hb.os, hb.tape, hb.output, hb.size, fun k _ hp => (hall k (Classical.not_not.1 hp)).2.2.2⟩
  exact hf.own ho (fun k hk hp => hp hk)

set_option maxHeartbeats 4000000 in
theorem implMendReads_calls (cs : List AccessD) (A : Option Addr) (cap : Nat) (w : World) (hr : RowAccesss w A cs) (hl : cs.length ≤ 1048576) (hcap : cs.length ≤ cap) :
    Calls Try.prog 34 #[.slice A cs.length cap] w fun e w' => ∃ v, e = .returned v ∧ OwnAccesss w' w.heap.size v (mendB cs) ∧ Below w.heap.size w w' := by
  obtain ⟨i0, hi0, hz0, hz1, hz2⟩ := info_parts info_impl_Access
  have HR := Lib.hid hr
  clear hr
  cases hv : accB cs
  · have E1 := Lib.hid (show mendB cs = [] by simp [mendB, hv])
    have HV := Lib.hid hv
    clear hv
    go_enter Try.func34, Try.ntmps34
    go_wp2_with (go_at_call 16; refine (implValidAccesses_calls cs A cap _ (HR.out.below (below_alloc (Below.refl _ _) _)) hl hcap false HV.out).mono ?_; rintro e w1 ⟨rfl, hb1⟩)
    go_ret
    refine ⟨_, rfl, ?_, (by repeat (first | exact Below.refl _ _ | assumption | refine below_alloc ?_ _ | refine below_trans' ?_ (by assumption) | refine Below.drew ?_))⟩
    unfold OwnAccesss
    rw [E1.out]
    exact own_below (World.ownsRow_made w #[] 0 (Nat.le_refl _) (by simp [maxLen]) rfl) hb1
  have E1 := Lib.hid (show mendB cs = mendK cs cs.length by simp [mendB, hv])
  have EL := Lib.hid (mendK_len cs cs.length)
  have HV := Lib.hid hv
  have h6 := accB_len hv
  have hvM := mendK_valid hv cs.length (Nat.le_refl _)
  have HM := Lib.hid (fun (i : Nat) (c : AccessD) (hc : cs[i]? = some c) (h : i < cs.length) => mendK_here (k := cs.length) hc h)
  have HS := Lib.hid (fun (i : Nat) (c : AccessD) (hc : cs[i]? = some c) => acc_session hv hc)
  have HN := Lib.hid (fun (i : Nat) (c : AccessD) (hc : cs[i]? = some c) => acc_seen hv hc)
  have HWN := Lib.hid (fun i : Nat => wrN_ten hv i)
  have HDP := Lib.hid (fun (i : Nat) (c : AccessD) (hc : cs[i]? = some c) (h : i ≤ cs.length) => due_prog hc h)
  have HML := Lib.hid (mendK_len cs cs.length)
  clear hv
  generalize hn : cs.length = n at *
  have Hn := Lib.hid hn
  clear hn
  have hlen : (n : Int) ≤ 10 := by omega
  obtain ⟨M, hM⟩ : ∃ M, mendK cs n = M := ⟨_, rfl⟩
  rw [hM] at hvM HM HDP HML
  have HA := Lib.hid (add_next M hvM w.heap.size w.heap.size)
  have HD := Lib.hid (due_calls M hvM w.heap.size)
  clear HA
  have HVal := Lib.hid (fun (W : World) (hW : RowAccesss W A cs) => implValidAccesses_calls cs A cap W hW (by have := Hn.out; omega) (by have := Hn.out; omega) true HV.out)
  rw [Hn.out] at HVal
  go_enter Try.func34, Try.ntmps34
  go_wp2_with (go_at_call 16; refine (HVal.out _ (HR.out.below (below_alloc (Below.refl _ _) _))).mono ?_; rintro e w1 ⟨rfl, hb1⟩)
  have hs1 := hb1.size
  simp at hs1
  have hK0 := sess_startI w1 w.heap.size (by omega) M
  have hO0 : (w1.alloc (.cells #[.int .i64 0, .int .i64 0, .int .i64 0, .int .i64 0, .int .i64 0, .int .i64 0, .slice none 0 0, .slice none 0 0, .slice none 0 0] 57)).ownsRow w.heap.size 44 3 (.slice (some ⟨w.heap.size, 0, none⟩) 0 0) 0 ((mendK cs 0).flatMap AccessD.vals) :=
    (own_below (World.ownsRow_made w #[] 0 (Nat.le_refl _) (by simp [maxLen]) rfl) hb1).alloc _
  have hB0 : Below w.heap.size w (w1.alloc (.cells #[.int .i64 0, .int .i64 0, .int .i64 0, .int .i64 0, .int .i64 0, .int .i64 0, .slice none 0 0, .slice none 0 0, .slice none 0 0] 57)) := below_alloc ((below_alloc (Below.refl _ _) _).trans (hb1.mono (by simp))) _
  have hAs0 : Aside w1.heap.size (.slice none 0 0) (.slice none 0 0) (.slice none 0 0) (.slice (some ⟨w.heap.size, 0, none⟩) 0 0) := by
    intro o h
    simp only [Value.ownBlock, Option.some.injEq] at h
    subst h
    exact ⟨by omega, by simp [Value.ownBlock], by simp [Value.ownBlock], by simp [Value.ownBlock]⟩
  have HA := Lib.hid (add_next M hvM w.heap.size w1.heap.size)
  obtain ⟨g, hg⟩ : ∃ g, w1.heap.size = g := ⟨_, rfl⟩
  rw [hg] at hK0 hAs0 HA ⊢
  have hgw : w.heap.size < g := by omega
  go_loopw [3, 15] (fun v i wr => ∃ (k : Nat) (row fol cau : Value), k ≤ n ∧ i = .int .i64 k ∧ Below w.heap.size w wr ∧ SessAtI wr w.heap.size g M k row fol cau ∧ wr.ownsRow w.heap.size 44 3 v k ((mendK cs k).flatMap AccessD.vals) ∧ Aside g row fol cau v) (fun _ i _ => n - (intOf i).toNat)
  case atStart => exact ⟨0, _, _, _, by omega, rfl, hB0, hK0, hO0, hAs0⟩
  case round =>
    clear hB0 hK0 hO0 hAs0 hb1 hs1 hg
    obtain ⟨i, row, fol, cau, hi, rfl, hb, hk, ho, has⟩ := hrel
    by_cases hlt : i < n
    · obtain ⟨b0, off, rfl, hat⟩ := HR.out (by have := Hn.out; omega)
      obtain ⟨c, hc⟩ : ∃ c, cs[i]? = some c := ⟨cs[i]'(by have := Hn.out; omega), List.getElem?_eq_getElem _⟩
      obtain ⟨s, hse, hs3⟩ := HS.out i c hc
      obtain ⟨sn, hsn, hsnl⟩ := HN.out i c hc
      have hten := HWN.out i
      have hps : 2 ^ wrN cs i ≤ 2 ^ 10 := Nat.pow_le_pow_right (by omega) hten
      have hsn10 : sn < 2 ^ 10 := by omega
      obtain ⟨x0, x1, x2⟩ := (RowAccesss.at_ hat hc).below hb
      rw [hse] at x0
      rw [hsn] at x2
      have hMi := HM.out i c hc hlt
      have hsnoc := mendK_snoc hc
      have hdp := HDP.out i c hc (by omega)
      have hwr := mendOne_wr (M := mendK cs i) (c := c)
      have hrd := mendOne_read (M := mendK cs i) (c := c)
      rw [hsn, hse, Int.toNat_natCast] at hdp
      have hil : i ≤ M.length := by rw [HML.out]; omega
      obtain ⟨Ao, co, rfl, hoc, hom, _⟩ := own_form ho
      have hbz : b0 < wr.heap.size := World.block_lt_of_cell? _ _ x0
      have hltv := ho.lt
      have hgr : g < wr.heap.size := hk.blk.lt
      have hnb : (Value.slice Ao i co).ownBlock ≠ some wr.heap.size := fun e => by have := (hltv _ e).2; omega
      have hlast : ∀ o, (row.ownBlock = some o ∨ fol.ownBlock = some o ∨ cau.ownBlock = some o ∨ o = g) → o < wr.heap.size := by
        intro o h
        rcases h with h | h | h | h
        · exact (hk.ro.lt o h).2
        · exact (hk.fo.lt o h).2
        · exact (hk.co.lt o h).2
        · omega
      have HAdd := Lib.hid (HA.out i _ hMi)
      have HLast := Lib.hid hlast
      have HAs := Lib.hid has
      have HK := Lib.hid hk
      have HO := Lib.hid ho
      have HB := Lib.hid hb
      have Hltv := Lib.hid hltv
      have Hsnoc := Lib.hid hsnoc
      have hbox : AccBlk (wr.alloc (.cells #[.int .i64 s, .bool c.write, .int .i64 sn] 44)) wr.heap.size ⟨s, c.write, sn⟩ := heap_alloc_new _ _
      have HBox := Lib.hid hbox
      have hD := HD.out g i s sn c.write hil hs3 hsn10 (wr.alloc (.cells #[.int .i64 s, .bool c.write, .int .i64 sn] 44)) (hk.below (below_alloc (Below.refl _ _) _)).at_ _ hdp
      have HDC := Lib.hid hD
      have hi0' : (0 : Int) ≤ (i : Int) := by omega
      have hin : (i : Int) < (n : Int) := by omega
      have hszb := hb.size
      clear hat hb hk ho has hlast hltv hsnoc hD hdp hMi hsnl hps hten HA HD hbox
      cases hw : c.write
      · have e1 := hrd hw
        rw [hw] at x1 HBox HDC
        rw [e1] at HAdd Hsnoc
        rw [hse] at HAdd Hsnoc
        clear hwr hrd e1
        generalize dueN (mendK cs i) c = D at *
        go_wp2_with fail
        refine HDC.out.mono ?_
        rintro e w3 ⟨rfl, hb3⟩
        have hs3' := hb3.size
        simp at hs3'
        have B3 := HBox.out.below hb3
        have B4 := B3.seen_ (D : Int)
        have y0 := B3.cell (i := 0) rfl
        have y1 := B3.cell (i := 1) rfl
        have y2 := B3.cell (i := 2) rfl
        have f2 := B3.free 2
        have hf4 := Far.of_grown (gset_grown w3 wr.heap.size 2 (.int .i64 (D : Int)))
        have K4 := ((HK.out.below (below_alloc (Below.refl _ _) _)).below hb3).far hf4 (by show ¬ g = _; omega) (fun o h e => by have := HLast.out o (.inl h); omega) (fun o h e => by have := HLast.out o (.inr (.inl h)); omega) (fun o h e => by have := HLast.out o (.inr (.inr (.inl h))); omega)
        have O4 := hf4.own (own_below (HO.out.alloc _) hb3) (fun k hk e => by have := (Hltv.out k hk).2; omega)
        have BL4 : Below w.heap.size w (w3.setCell ⟨wr.heap.size, 2, none⟩ (.int .i64 (D : Int))) := ((below_alloc HB.out _).trans (hb3.mono (by simp; omega))).setCell (by show w.heap.size ≤ wr.heap.size; omega) _
        have HK4 := Lib.hid K4
        have HO4 := Lib.hid O4
        have HB4 := Lib.hid B4
        have HBL4 := Lib.hid BL4
        clear B3 B4 K4 O4 BL4 hf4 hb3 HK HO HB HBox HDC x0 x1 x2
        go_wp2_with (at_builtin; refine wpList_append_apart _ rfl (.tmp 25) (.tmp 27) 25 rfl w.heap.size 44 i0 _ 3 24 Try.underlying25 hi0 hz0 (by assumption) hz2 rfl (by omega) _ i ((mendK cs i).flatMap AccessD.vals) rfl (HO4.out.alloc _) _ 1 1 (AccessD.vals ⟨s, false, D⟩) rfl (by omega) rfl (acc_new' _ ⟨s, false, D⟩ _ (by simp)) (vals_one _) (by unfold maxLen; omega) (by omega) (by simp; omega) ?_; intro v1 wz hown1 hgrow hblk; have q5 := (HB4.out.below (below_alloc (Below.refl _ _) _)).grown hgrow hnb; have q0 := q5.cell (i := 0) rfl; have q1 := q5.cell (i := 1) rfl; have q2 := q5.cell (i := 2) rfl)
        have hfz : Far (fun k => (Value.slice Ao i co).ownBlock = some k) _ wz := (Far.refl _ _).grown hgrow (fun i _ e => e)
        have K5 := (HK4.out.below (below_alloc (Below.refl _ _) _)).far hfz (fun e => (HAs.out g e).1 rfl) (fun o h e => (HAs.out o e).2.1 h) (fun o h e => (HAs.out o e).2.2.1 h) (fun o h e => (HAs.out o e).2.2.2 h)
        have HBL5 := Lib.hid ((below_alloc HBL4.out _).grown hgrow (by have := HBL4.out.size; simp at this ⊢; omega) (fun k hk => (Hltv.out k hk).1))
        refine (HAdd.out _ row fol cau K5).mono ?_
        intro e w6 hd
        have he : e = .returned (.tuple #[]) := hd.1
        obtain ⟨r, f, c6, K6, O6, A6⟩ := aside_step K5 HAs.out hblk (fun o h => by have := HLast.out o h; simp; omega) hown1 hd
        have HBL6 := Lib.hid (HBL5.out.trans hd.2.2)
        have HK6 := Lib.hid K6
        have HO6 := Lib.hid O6
        subst he
        clear K5 hd hown1 hgrow hblk q0 q1 q2 q5 K6 O6 hfz
        go_wp2_with fail
        go_roundw
        case rel => exact ⟨i + 1, r, f, c6, by omega, by go_num, HBL6.out, HK6.out, by rw [Hsnoc.out, List.flatMap_append]; simpa using HO6.out, A6⟩
        case measure => simp [intOf]; omega
      · have e1 := hwr hw
        rw [hw] at x1 HBox
        rw [e1] at HAdd Hsnoc
        have hval : c = ⟨(s : Int), true, (sn : Int)⟩ := by
          cases c; simp only at hse hw hsn; subst hse hw hsn; rfl
        rw [hval] at HAdd Hsnoc
        clear hwr hrd e1 HDC
        have HK4 := Lib.hid (HK.out.below (below_alloc (Below.refl _ _) (.cells #[.int .i64 s, .bool true, .int .i64 sn] 44)))
        have HO4 := Lib.hid (HO.out.alloc (.cells #[.int .i64 s, .bool true, .int .i64 sn] 44))
        have HB4 := HBox
        have HBL4 := Lib.hid (below_alloc HB.out (.cells #[.int .i64 s, .bool true, .int .i64 sn] 44))
        clear HK HO HB HBox
        go_wp2_with (at_builtin; refine wpList_append_apart _ rfl (.tmp 25) (.tmp 27) 25 rfl w.heap.size 44 i0 _ 3 24 Try.underlying25 hi0 hz0 (by assumption) hz2 rfl (by omega) _ i ((mendK cs i).flatMap AccessD.vals) rfl (HO4.out.alloc _) _ 1 1 (AccessD.vals ⟨s, true, sn⟩) rfl (by omega) rfl (acc_new' _ ⟨s, true, sn⟩ _ (by simp)) (vals_one _) (by unfold maxLen; omega) (by omega) (by simp; omega) ?_; intro v1 wz hown1 hgrow hblk; have q5 := (HB4.out.below (below_alloc (Below.refl _ _) _)).grown hgrow hnb; have q0 := q5.cell (i := 0) rfl; have q1 := q5.cell (i := 1) rfl; have q2 := q5.cell (i := 2) rfl)
        have hfz : Far (fun k => (Value.slice Ao i co).ownBlock = some k) _ wz := (Far.refl _ _).grown hgrow (fun i _ e => e)
        have K5 := (HK4.out.below (below_alloc (Below.refl _ _) _)).far hfz (fun e => (HAs.out g e).1 rfl) (fun o h e => (HAs.out o e).2.1 h) (fun o h e => (HAs.out o e).2.2.1 h) (fun o h e => (HAs.out o e).2.2.2 h)
        have HBL5 := Lib.hid ((below_alloc HBL4.out _).grown hgrow (by have := HBL4.out.size; simp at this ⊢; omega) (fun k hk => (Hltv.out k hk).1))
        refine (HAdd.out _ row fol cau K5).mono ?_
        intro e w6 hd
        have he : e = .returned (.tuple #[]) := hd.1
        obtain ⟨r, f, c6, K6, O6, A6⟩ := aside_step K5 HAs.out hblk (fun o h => by have := HLast.out o h; simp; omega) hown1 hd
        have HBL6 := Lib.hid (HBL5.out.trans hd.2.2)
        have HK6 := Lib.hid K6
        have HO6 := Lib.hid O6
        subst he
        clear K5 hd hown1 hgrow hblk q0 q1 q2 q5 K6 O6 hfz
        go_wp2_with fail
        go_roundw
        case rel => exact ⟨i + 1, r, f, c6, by omega, by go_num, HBL6.out, HK6.out, by rw [Hsnoc.out, List.flatMap_append]; simpa using HO6.out, A6⟩
        case measure => simp [intOf]; omega
    · have e1 : i = n := by omega
      subst e1
      have hge : ¬ ((i : Int) < (i : Int)) := by omega
      have HB := Lib.hid hb
      have HO := Lib.hid ho
      clear hb ho hk has
      go_wp2
      go_ret
      refine ⟨_, rfl, ?_, HB.out⟩
      unfold OwnAccesss
      rw [E1.out, EL.out]
      exact HO.out
end Go.Proofs.Ytooigcfdkmgjnaa
