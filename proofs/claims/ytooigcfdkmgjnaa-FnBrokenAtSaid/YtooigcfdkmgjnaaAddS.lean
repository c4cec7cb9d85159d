/-
  The program's struct of sessions, access by access: after the first i of valid accesses it holds what was made, had, and caused. Asked: valid accesses.
-/
import Derived.Test.YtooigcfdkmgjnaaAddW
import Derived.Test.YtooigcfdkmgjnaaBrkP
namespace Go.Proofs.Ytooigcfdkmgjnaa
open Go.RowKit
set_option maxRecDepth 100000

/-- The struct behind g after the first i accesses. -/
def SessAt (w : World) (B g : Nat) (cs : List AccessD) (i : Nat) : Prop :=
  SessW w B g (fun s => mineK cs (s : Int) i) (fun s => seenK cs (s : Int) i) ((rowN cs i).map Int.ofNat) ((folN cs i).map Int.ofNat) ((cauN cs i).map Int.ofNat)
theorem SessAt.below {w w' : World} {B g i : Nat} {cs : List AccessD} (k : SessAt w B g cs i) (hb : Below w.heap.size w w') : SessAt w' B g cs i := SessW.below k hb
theorem acc_write_seen {cs : List AccessD} (hv : accB cs = true) {i : Nat} {c : AccessD} (hc : cs[i]? = some c) (hw : c.write = true) : c.seen = 0 := by
  have hok := accB_at hv hc
  simp only [okAcc, Bool.and_eq_true, hw, Bool.true_and, Bool.not_eq_true'] at hok
  simpa using hok.1.2
theorem cast_beq (s t : Nat) : ((s : Int) == (t : Int)) = (s == t) := by
  rw [Bool.eq_iff_iff, beq_iff_eq, beq_iff_eq]; omega
theorem upd_mine {cs : List AccessD} {i s : Nat} {c : AccessD} (hc : cs[i]? = some c) (hw : c.write = true) (hs : c.session = s) : upd (fun s => mineK cs (s : Int) i) s (mineK cs (s : Int) i ||| 2 ^ wrN cs i) = fun s : Nat => mineK cs (s : Int) (i + 1) := by
  funext t
  rw [mineK, aAt_eq hc, hw, hs, cast_beq, upd]
  by_cases h : t = s
  · subst h; simp
  · have : (s == t) = false := by simpa using fun e => h e.symm
    simp [h, this]
theorem keep_mine {cs : List AccessD} {i : Nat} {c : AccessD} (hc : cs[i]? = some c) (hw : c.write = false) : (fun s : Nat => mineK cs (s : Int) i) = fun s : Nat => mineK cs (s : Int) (i + 1) := by
  funext t
  rw [mineK, aAt_eq hc, hw]; rfl
theorem upd_seen {cs : List AccessD} {i s sn : Nat} {c : AccessD} (hc : cs[i]? = some c) (hw : c.write = false) (hs : c.session = s) (hn : c.seen = sn) : upd (fun s => seenK cs (s : Int) i) s (seenK cs (s : Int) i ||| sn) = fun s : Nat => seenK cs (s : Int) (i + 1) := by
  funext t
  rw [seenK, aAt_eq hc, hw, hs, hn, cast_beq, upd]
  by_cases h : t = s
  · subst h; simp
  · have : (s == t) = false := by simpa using fun e => h e.symm
    simp [h, this]
theorem keep_seen {cs : List AccessD} {i : Nat} {c : AccessD} (hc : cs[i]? = some c) (hw : c.write = true) : (fun s : Nat => seenK cs (s : Int) i) = fun s : Nat => seenK cs (s : Int) (i + 1) := by
  funext t
  rw [seenK, aAt_eq hc, hw]; rfl
def AddStep (w w' : World) (B g : Nat) (cs : List AccessD) (i : Nat) (e : Ending) : Prop := e = .returned (.tuple #[]) ∧ SessAt w' B g cs i ∧ Below B w w'

theorem add_step (cs : List AccessD) (hv : accB cs = true) (B g i : Nat) (c : AccessD) (hc : cs[i]? = some c) (w : World) (k : SessAt w B g cs i) :
    Calls Try.prog 50 #[.pointer (some ⟨g, 0, none⟩), c.val] w fun e w' => AddStep w w' B g cs (i + 1) e := by
  have hi : i < cs.length := (List.getElem?_eq_some_iff.1 hc).1
  obtain ⟨s, hs, hs3⟩ := acc_session hv hc
  have hten := wrN_ten hv i
  have hp : 2 ^ wrN cs i ≤ 2 ^ 10 := Nat.pow_le_pow_right (by omega) hten
  have hm := mineK_lt cs (s : Int) i (by omega)
  have hh := seenK_lt hv (s : Int) i (by omega)
  have hlen := cauN_len cs i (by omega)
  unfold SessAt at k
  cases hw : c.write
  · obtain ⟨sn, hn, hnl⟩ := acc_seen hv hc
    obtain ⟨row, fol, cau, k⟩ := k
    have h := addRead_calls g s sn _ _ row fol cau w k.blk hs3 (by omega) (show seenK cs (s : Int) i < 2 ^ 20 by omega)
    have e : c.val = .agg #[.int .i64 s, .bool false, .int .i64 sn] := by simp only [AccessD.val, hs, hw, hn]
    rw [e]
    refine h.mono fun e w' ⟨he, hk, hg⟩ => ⟨he, ?_, ?_⟩
    · have hf := Far.of_grown hg
      have o : ∀ v n xs, w.ownsRow B 3 1 v n xs → v.ownBlock ≠ some g → w'.ownsRow B 3 1 v n xs := fun v n xs ho hne => hf.own ho (fun j hj e => hne (by rw [hj, e]))
      rw [upd_seen hc hw hs hn, keep_mine hc hw] at hk
      refine ⟨row, fol, cau, hk, k.base, ?_, ?_, ?_, k.rg, k.fg, k.cg, k.rf, k.rc, k.fc⟩
      · rw [rowN, aAt_eq hc, hw]; exact o _ _ _ k.ro k.rg
      · rw [folN, aAt_eq hc, hw]; exact o _ _ _ k.fo k.fg
      · rw [cauN, aAt_eq hc, hw]; exact o _ _ _ k.co k.cg
    · exact (Far.of_grown hg).toBelow (Nat.le_trans k.base (Nat.le_of_lt k.blk.lt)) (fun j hj => by have := k.base; omega)
  · have e : c.val = .agg #[.int .i64 s, .bool true, .int .i64 0] := by simp only [AccessD.val, hs, hw, acc_write_seen hv hc hw]
    rw [e]
    have h := addWrite_calls B g s _ _ _ _ (cauN cs i) w k hs3 (show mineK cs (s : Int) i < 2 ^ 20 by omega) (show seenK cs (s : Int) i < 2 ^ 20 by omega) (by omega)
      (fun j => by have := cauN_lt cs i (by omega) j; omega) (by rw [List.length_map, rowN_len cs i (by omega), hlen]) (by rw [List.length_map, folN_len cs i (by omega), hlen])
    refine h.mono fun e w' hd => ?_
    unfold AddDone at hd
    obtain ⟨he, hk, hb⟩ := hd
    refine ⟨he, ?_, hb⟩
    unfold SessAt
    rw [hlen] at hk
    have e1 : cauN cs (i + 1) = cauN cs i ++ [2 ^ wrN cs i ||| cauK (mineK cs (s : Int) i ||| seenK cs (s : Int) i) (cauN cs i) (mineK cs (s : Int) i ||| seenK cs (s : Int) i) (wrN cs i)] := by
      rw [cauN, aAt_eq hc, hw, if_pos rfl, nearN_eq hc, hs]
      rw [cau_same (Nat.or_lt_two_pow hm hh) (fun j hj => cauN_own cs i (by omega) j hj)]
    have e2 : rowN cs (i + 1) = rowN cs i ++ [mineK cs (s : Int) i] := by rw [rowN, aAt_eq hc, hw, if_pos rfl, hs]
    have e3 : folN cs (i + 1) = folN cs i ++ [seenK cs (s : Int) i] := by rw [folN, aAt_eq hc, hw, if_pos rfl, hs]
    rw [e1, e2, e3, ← upd_mine hc hw hs, ← keep_seen hc hw, List.map_append, List.map_append]
    exact hk
/-- The same, with its rows named. -/
def SessAtI (w : World) (B g : Nat) (cs : List AccessD) (i : Nat) (row fol cau : Value) : Prop :=
  SessI w B g (fun s => mineK cs (s : Int) i) (fun s => seenK cs (s : Int) i) row fol cau ((rowN cs i).map Int.ofNat) ((folN cs i).map Int.ofNat) ((cauN cs i).map Int.ofNat)
def SessAtN (w w' : World) (B g : Nat) (cs : List AccessD) (i : Nat) (row fol cau : Value) : Prop :=
  SessNext w w' B g (fun s => mineK cs (s : Int) i) (fun s => seenK cs (s : Int) i) row fol cau ((rowN cs i).map Int.ofNat) ((folN cs i).map Int.ofNat) ((cauN cs i).map Int.ofNat)
def AddStepN (w w' : World) (B g : Nat) (cs : List AccessD) (i : Nat) (row fol cau : Value) (e : Ending) : Prop := e = .returned (.tuple #[]) ∧ SessAtN w w' B g cs i row fol cau ∧ Below B w w'
theorem add_next (cs : List AccessD) (hv : accB cs = true) (B g i : Nat) (c : AccessD) (hc : cs[i]? = some c) (w : World) (row fol cau : Value) (k : SessAtI w B g cs i row fol cau) :
    Calls Try.prog 50 #[.pointer (some ⟨g, 0, none⟩), c.val] w fun e w' => AddStepN w w' B g cs (i + 1) row fol cau e := by
  have hi : i < cs.length := (List.getElem?_eq_some_iff.1 hc).1
  obtain ⟨s, hs, hs3⟩ := acc_session hv hc
  have hten := wrN_ten hv i
  have hp : 2 ^ wrN cs i ≤ 2 ^ 10 := Nat.pow_le_pow_right (by omega) hten
  have hm := mineK_lt cs (s : Int) i (by omega)
  have hh := seenK_lt hv (s : Int) i (by omega)
  have hlen := cauN_len cs i (by omega)
  unfold SessAtI at k
  cases hw : c.write
  · obtain ⟨sn, hn, hnl⟩ := acc_seen hv hc
    have h := addRead_calls g s sn _ _ row fol cau w k.blk hs3 (by omega) (show seenK cs (s : Int) i < 2 ^ 20 by omega)
    have e : c.val = .agg #[.int .i64 s, .bool false, .int .i64 sn] := by simp only [AccessD.val, hs, hw, hn]
    rw [e]
    refine h.mono fun e w' ⟨he, hk, hg⟩ => ⟨he, ?_, ?_⟩
    · have hf := Far.of_grown hg
      have o : ∀ v n xs, w.ownsRow B 3 1 v n xs → v.ownBlock ≠ some g → w'.ownsRow B 3 1 v n xs := fun v n xs ho hne => hf.own ho (fun j hj e => hne (by rw [hj, e]))
      rw [upd_seen hc hw hs hn, keep_mine hc hw] at hk
      refine ⟨row, fol, cau, ⟨hk, k.base, ?_, ?_, ?_, k.rg, k.fg, k.cg, k.rf, k.rc, k.fc⟩, fun j h1 h2 h3 h4 h5 => ⟨h3, h4, h5, hf.block j h1 h2⟩⟩
      · rw [rowN, aAt_eq hc, hw]; exact o _ _ _ k.ro k.rg
      · rw [folN, aAt_eq hc, hw]; exact o _ _ _ k.fo k.fg
      · rw [cauN, aAt_eq hc, hw]; exact o _ _ _ k.co k.cg
    · exact (Far.of_grown hg).toBelow (Nat.le_trans k.base (Nat.le_of_lt k.blk.lt)) (fun j hj => by have := k.base; omega)
  · have e : c.val = .agg #[.int .i64 s, .bool true, .int .i64 0] := by simp only [AccessD.val, hs, hw, acc_write_seen hv hc hw]
    rw [e]
    have h := addWrite_next B g s _ _ row fol cau _ _ (cauN cs i) w k hs3 (show mineK cs (s : Int) i < 2 ^ 20 by omega) (show seenK cs (s : Int) i < 2 ^ 20 by omega) (by omega)
      (fun j => by have := cauN_lt cs i (by omega) j; omega) (by rw [List.length_map, rowN_len cs i (by omega), hlen]) (by rw [List.length_map, folN_len cs i (by omega), hlen])
    refine h.mono fun e w' hd => ?_
    unfold AddNext at hd
    obtain ⟨he, hk, hb⟩ := hd
    refine ⟨he, ?_, hb⟩
    unfold SessAtN
    rw [hlen] at hk
    have e1 : cauN cs (i + 1) = cauN cs i ++ [2 ^ wrN cs i ||| cauK (mineK cs (s : Int) i ||| seenK cs (s : Int) i) (cauN cs i) (mineK cs (s : Int) i ||| seenK cs (s : Int) i) (wrN cs i)] := by
      rw [cauN, aAt_eq hc, hw, if_pos rfl, nearN_eq hc, hs]
      rw [cau_same (Nat.or_lt_two_pow hm hh) (fun j hj => cauN_own cs i (by omega) j hj)]
    have e2 : rowN cs (i + 1) = rowN cs i ++ [mineK cs (s : Int) i] := by rw [rowN, aAt_eq hc, hw, if_pos rfl, hs]
    have e3 : folN cs (i + 1) = folN cs i ++ [seenK cs (s : Int) i] := by rw [folN, aAt_eq hc, hw, if_pos rfl, hs]
    rw [e1, e2, e3, ← upd_mine hc hw hs, ← keep_seen hc hw, List.map_append, List.map_append]
    exact hk
theorem SessAtI.at_ {w : World} {B g i : Nat} {cs : List AccessD} {row fol cau : Value} (k : SessAtI w B g cs i row fol cau) : SessAt w B g cs i := ⟨row, fol, cau, k⟩
theorem sess_start (w : World) (B : Nat) (hB : B ≤ w.heap.size) (cs : List AccessD) : SessAt (w.alloc (.cells #[.int .i64 0, .int .i64 0, .int .i64 0, .int .i64 0, .int .i64 0, .int .i64 0, .slice none 0 0, .slice none 0 0, .slice none 0 0] 57)) B w.heap.size cs 0 := by
  have hnil : ∀ v : World, v.ownsRow B 3 1 (.slice none 0 0) 0 [] := fun v => World.ownsRow_nil _ _ _ _
  refine ⟨_, _, _, heap_alloc_new w _, hB, hnil _, hnil _, hnil _, by simp [Value.ownBlock], by simp [Value.ownBlock], by simp [Value.ownBlock], by simp [Value.ownBlock], by simp [Value.ownBlock], by simp [Value.ownBlock]⟩
/-- The struct's cells that a function reads. -/
theorem SessAt.cells {w : World} {B g i : Nat} {cs : List AccessD} (k : SessAt w B g cs i) : ∃ Ar cr Af cf Ac cc, (∀ s, s < 3 → w.cell? ⟨g, s, none⟩ = some (.int .i64 (mineK cs (s : Int) i))) ∧ (∀ s, s < 3 → w.cell? ⟨g, 3 + s, none⟩ = some (.int .i64 (seenK cs (s : Int) i))) ∧
    w.cell? ⟨g, 6, none⟩ = some (.slice Ar (rowN cs i).length cr) ∧ w.cell? ⟨g, 7, none⟩ = some (.slice Af (folN cs i).length cf) ∧ w.cell? ⟨g, 8, none⟩ = some (.slice Ac (cauN cs i).length cc) ∧
    RowInts w Ar ((rowN cs i).map Int.ofNat) ∧ RowInts w Af ((folN cs i).map Int.ofNat) ∧ RowInts w Ac ((cauN cs i).map Int.ofNat) ∧ OwnInts w B (.slice Ac (cauN cs i).length cc) ((cauN cs i).map Int.ofNat) ∧ g < w.heap.size ∧ (rowN cs i).length ≤ cr ∧ (folN cs i).length ≤ cf := by
  obtain ⟨row, fol, cau, k⟩ := k
  obtain ⟨Ar, cr, rfl, hr, _, _⟩ := own_form k.ro
  obtain ⟨Af, cf, rfl, hf, _, _⟩ := own_form k.fo
  obtain ⟨Ac, cc, rfl, _⟩ := own_form k.co
  have c6 := k.blk.cell 6
  have c7 := k.blk.cell 7
  have c8 := k.blk.cell 8
  have ro := k.ro
  have fo := k.fo
  have co := k.co
  simp only [List.length_map] at c6 c7 c8 hr hf ro fo co
  refine ⟨Ar, cr, Af, cf, Ac, cc, fun s hs => ?_, fun s hs => ?_, c6, c7, c8, RowOf.of_own (by simp) (fun _ _ => rfl) k.ro, RowOf.of_own (by simp) (fun _ _ => rfl) k.fo, RowOf.of_own (by simp) (fun _ _ => rfl) k.co, co, k.blk.lt, hr, hf⟩
  · rw [k.blk.cell]
    have : s = 0 ∨ s = 1 ∨ s = 2 := by omega
    rcases this with rfl | rfl | rfl <;> rfl
  · rw [k.blk.cell]
    have : s = 0 ∨ s = 1 ∨ s = 2 := by omega
    rcases this with rfl | rfl | rfl <;> rfl
end Go.Proofs.Ytooigcfdkmgjnaa
