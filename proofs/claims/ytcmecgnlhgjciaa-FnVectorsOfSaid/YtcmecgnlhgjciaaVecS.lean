/-
  Slices of slices of three numbers that the call itself made, each in a block of its own: what equality, mark and held of the law package do with them. No condition but sizes.
-/
import Derived.Test.YtcmecgnlhgjciaaHeInt
import Derived.Test.YtcmecgnlhgjciaaIntS
import Derived.Test.YtcmecgnlhgjciaaFar
import Derived.Deep.AppendLies
namespace Go.Proofs.Ytcmecgnlhgjciaa
open Go.RowKit
set_option maxRecDepth 100000

def rowV (b : Nat) : Value := .slice (some ⟨b, 0, none⟩) 3 3
/-- A slice of slices of three numbers, in memory from block 'base' on; no two of its rows in one block. -/
structure Vecs (w : World) (base : Nat) (A : Option Addr) (n c : Nat) (bs : List Nat) (L : List (List Int)) : Prop where
  out : w.ownsRow base 32 1 (.slice A n c) n (bs.map rowV)
  blen : bs.length = n
  llen : L.length = n
  inn : ∀ (i b : Nat) (r : List Int), bs[i]? = some b → L[i]? = some r → r.length = 3 ∧ w.ownsRow base 3 1 (rowV b) 3 (r.flatMap intVals)
  nod : bs.Nodup
  apart : ∀ b ∈ bs, (Value.slice A n c).ownBlock ≠ some b
section
variable {w w' : World} {base : Nat} {A : Option Addr} {n c : Nat} {bs : List Nat} {L : List (List Int)}
theorem Vecs.inn_ge (h : Vecs w base A n c bs L) : ∀ b ∈ bs, base ≤ b ∧ b < w.heap.size := by
  intro b hb
  obtain ⟨i, hi⟩ := List.mem_iff_getElem?.1 hb
  have hl : i < L.length := by have := (List.getElem?_eq_some_iff.1 hi).1; have := h.blen; have := h.llen; omega
  have := (h.inn i b _ hi (List.getElem?_eq_getElem hl)).2.lt b rfl
  exact this
theorem Vecs.out_ge (h : Vecs w base A n c bs L) : ∀ k, (Value.slice A n c).ownBlock = some k → base ≤ k ∧ k < w.heap.size := fun k hk => h.out.lt k hk
theorem Vecs.far {p : Nat → Prop} (h : Vecs w base A n c bs L) (hf : Far p w w') (ho : ∀ k, (Value.slice A n c).ownBlock = some k → ¬ p k) (hi : ∀ b ∈ bs, ¬ p b) : Vecs w' base A n c bs L :=
  ⟨hf.own h.out ho, h.blen, h.llen, fun i b r h1 h2 => ⟨(h.inn i b r h1 h2).1, hf.own (h.inn i b r h1 h2).2 (fun k hk => by simp only [rowV, Value.ownBlock, Option.some.injEq] at hk; subst hk; exact hi _ (List.mem_of_getElem? h1))⟩, h.nod, h.apart⟩
theorem Vecs.below (h : Vecs w base A n c bs L) (hb : Below w.heap.size w w') : Vecs w' base A n c bs L :=
  h.far ((Far.refl (fun _ => False) w).below hb) (fun _ _ h => h) (fun _ _ h => h)
/-- What is written below N leaves what lies from N on. -/
theorem Vecs.high {N : Nat} {p : Nat → Prop} (h : Vecs w N A n c bs L) (hf : Far p w w') (hp : ∀ k, p k → k < N) : Vecs w' N A n c bs L :=
  h.far hf (fun k hk e => by have := hp k e; have := (h.out_ge k hk).1; omega) (fun b hb e => by have := hp b e; have := (h.inn_ge b hb).1; omega)
theorem Vecs.low {N : Nat} {p : Nat → Prop} (h : Vecs w base A n c bs L) (hf : Far p w w') (ho : ∀ k, (Value.slice A n c).ownBlock = some k → k < N) (hi : ∀ b ∈ bs, b < N) (hp : ∀ k, p k → N ≤ k) : Vecs w' base A n c bs L :=
  h.far hf (fun k hk e => by have := hp k e; have := ho k hk; omega) (fun b hb e => by have := hp b e; have := hi b hb; omega)
theorem Vecs.nil (w : World) (base : Nat) : Vecs w base none 0 0 [] [] :=
  ⟨World.ownsRow_nil _ _ _ _, rfl, rfl, fun i b r h => by simp at h, by simp, fun b hb => by simp at hb⟩
/-- The outer cell of a row. -/
theorem Vecs.cell (h : Vecs w base A n c bs L) {i b : Nat} (hi : bs[i]? = some b) : ∃ g, A = some ⟨g, 0, none⟩ ∧ w.cell? ⟨g, i, none⟩ = some (rowV b) ∧ g < w.heap.size := by
  have hl := (List.getElem?_eq_some_iff.1 hi).1
  rcases h.out.2 with ⟨_, h0⟩ | ⟨g, cap, cur, hv, hb, hg, _, _, _, htake⟩
  · have := h.blen; omega
  · injection hv with h1 _ _
    refine ⟨g, h1, ?_, (Array.getElem?_eq_some_iff.1 hg).1⟩
    rw [cell_of_row w g i cur _ (0, 0) hg]
    have hflat : (bs.map rowV)[i]? = some (rowV b) := by rw [List.getElem?_map, hi]; rfl
    rw [← htake, List.getElem?_take] at hflat
    split at hflat
    · simpa using hflat
    · cases hflat
theorem Vecs.row (h : Vecs w base A n c bs L) {i b : Nat} {r : List Int} (hi : bs[i]? = some b) (hr : L[i]? = some r) : RowInts w (some ⟨b, 0, none⟩) r :=
  RowOf.of_own (c := 3) (h.inn i b r hi hr).1.symm (fun _ _ => rfl) (h.inn i b r hi hr).2
theorem Vecs.get (h : Vecs w base A n c bs L) {i : Nat} (hi : i < n) : ∃ b r, bs[i]? = some b ∧ L[i]? = some r ∧ r.length = 3 := by
  have h1 : i < bs.length := by have := h.blen; omega
  have h2 : i < L.length := by have := h.llen; omega
  exact ⟨bs[i], L[i], List.getElem?_eq_getElem h1, List.getElem?_eq_getElem h2, (h.inn i _ _ (List.getElem?_eq_getElem h1) (List.getElem?_eq_getElem h2)).1⟩
/-- One row is overwritten. -/
theorem Vecs.set (h : Vecs w base A n c bs L) {i b : Nat} {r : List Int} (hi : bs[i]? = some b) (hl : r.length = 3) (ho : w'.ownsRow base 3 1 (rowV b) 3 (r.flatMap intVals)) (hg : w.grownBy w' (some b)) : Vecs w' base A n c bs (L.set i r) := by
  have hf := Far.of_grown hg
  refine ⟨hf.own h.out (fun k hk e => h.apart b (List.mem_of_getElem? hi) (by rw [hk, e])), h.blen, by rw [List.length_set]; exact h.llen, ?_, h.nod, h.apart⟩
  intro j b' r' h1 h2
  rw [List.getElem?_set] at h2
  split at h2
  · next e =>
    subst e
    rw [hi] at h1
    injection h1 with h1
    subst h1
    split at h2
    · injection h2 with h2; subst h2; exact ⟨hl, ho⟩
    · cases h2
  · next e =>
    refine ⟨(h.inn j b' r' h1 h2).1, hf.own (h.inn j b' r' h1 h2).2 ?_⟩
    intro k hk e2
    simp only [rowV, Value.ownBlock, Option.some.injEq] at hk
    subst hk
    have h3 := (List.getElem?_eq_some_iff.1 hi)
    have h4 := (List.getElem?_eq_some_iff.1 h1)
    exact e ((List.getElem_inj h.nod).1 (by rw [h3.2, h4.2, e2]))
/-- One row more. -/
theorem Vecs.snoc (h : Vecs w base A n c bs L) {g cap H b : Nat} {r : List Int} (hn : w'.ownsRow base 32 1 (.slice (some ⟨g, 0, none⟩) (n + 1) cap) (n + 1) (bs.map rowV ++ [rowV b]))
    (hg : w.grownBy w' (Value.slice A n c).ownBlock) (hat : (Value.slice A n c).ownBlock = some g ∨ g = H) (hH : w.heap.size = H) (hl : r.length = 3) (hr : w.ownsRow base 3 1 (rowV b) 3 (r.flatMap intVals)) (hb : b ∉ bs) (hbo : (Value.slice A n c).ownBlock ≠ some b) :
    Vecs w' base (some ⟨g, 0, none⟩) (n + 1) cap (bs ++ [b]) (L ++ [r]) := by
  subst hH
  have kept : ∀ b' (r' : List Int), (Value.slice A n c).ownBlock ≠ some b' → w.ownsRow base 3 1 (rowV b') 3 (r'.flatMap intVals) → w'.ownsRow base 3 1 (rowV b') 3 (r'.flatMap intVals) := fun b' r' hne ho => ho.kept hg (.inr (fun e => hne (by rw [← e]; rfl)))
  have hbz : b < w.heap.size := (hr.lt b rfl).2
  refine ⟨by rw [List.map_append]; exact hn, by simp [h.blen], by simp [h.llen], ?_, ?_, ?_⟩
  · intro i b' r' h1 h2
    by_cases hi : i < n
    · rw [List.getElem?_append_left (by rw [h.blen]; exact hi)] at h1
      rw [List.getElem?_append_left (by rw [h.llen]; exact hi)] at h2
      exact ⟨(h.inn i b' r' h1 h2).1, kept _ _ (h.apart b' (List.mem_of_getElem? h1)) (h.inn i b' r' h1 h2).2⟩
    · have hlt := (List.getElem?_eq_some_iff.1 h1).1
      have e : i = n := by rw [List.length_append, h.blen] at hlt; simp at hlt; omega
      subst e
      rw [List.getElem?_append_right (by rw [h.blen]; omega), h.blen] at h1
      rw [List.getElem?_append_right (by rw [h.llen]; omega), h.llen] at h2
      simp at h1 h2
      subst h1; subst h2
      exact ⟨hl, kept _ _ hbo hr⟩
  · rw [List.nodup_append]
    exact ⟨h.nod, by simp, fun a ha b' hb' e => by simp at hb'; subst hb'; subst e; exact hb ha⟩
  · intro b' hb' e
    simp only [Value.ownBlock, Option.some.injEq] at e
    subst e
    rcases List.mem_append.1 hb' with h1 | h1
    · rcases hat with h2 | h2
      · exact h.apart _ h1 h2
      · have := (h.inn_ge _ h1).2; omega
    · simp at h1
      subst h1
      rcases hat with h2 | h2
      · exact hbo h2
      · omega
end
/-- What mark writes into the rows from number k on. -/
def marks3 (q : Int) (n : Nat) : List (List Int) := (List.range n).map fun i : Nat => marksInt (q + 3 * i) 3
theorem marks3_len (q : Int) (n : Nat) : (marks3 q n).length = n := by simp [marks3]
theorem marks3_get {q : Int} {n i : Nat} (hi : i < n) : (marks3 q n)[i]? = some (marksInt (q + 3 * i) 3) := by simp [marks3, hi]
def markTo (q : Int) (k : Nat) (L : List (List Int)) : List (List Int) := marks3 q k ++ L.drop k
theorem markTo_zero (q : Int) (L : List (List Int)) : markTo q 0 L = L := by simp [markTo, marks3]
theorem markTo_all {q : Int} {n : Nat} {L : List (List Int)} (h : L.length = n) : markTo q n L = marks3 q n := by rw [markTo, List.drop_of_length_le (by omega), List.append_nil]
theorem markTo_succ {q : Int} {k : Nat} {L : List (List Int)} (h : k < L.length) : (markTo q k L).set k (marksInt (q + 3 * k) 3) = markTo q (k + 1) L := by
  have e : marks3 q (k + 1) = marks3 q k ++ [marksInt (q + 3 * k) 3] := by simp [marks3, List.range_succ]
  rw [markTo, markTo, e, List.set_append, if_neg (by rw [marks3_len]; omega), marks3_len, Nat.sub_self, List.drop_eq_getElem_cons h, List.set_cons_zero, List.append_assoc]
  rfl
end Go.Proofs.Ytcmecgnlhgjciaa
