/-
  Rows that the call itself makes and fills from its head on: what a make leaves, what a store of one more element does, what the filled row is. No condition.
-/
import Derived.Test.YtoeecaeaobfhmaaData
namespace Go.Proofs.Ytoeecaeaobfhmaa
open Go.RowKit Go.ChangeShapes Go.WideShapes Go.Deep

/-- Block g is a row of N cells of element type E that begins with the cells l. -/
def Fill (w : World) (g : Nat) (E : TypeId) (N : Nat) (l : List Value) : Prop :=
  ∃ cur : Array Value, w.heap[g]? = some (.cells cur E (0, 0)) ∧ cur.size = N ∧ cur.toList.take l.length = l

section
variable {w w' : World} {g : Nat} {E : TypeId} {N : Nat} {l : List Value}
theorem Fill.lt (h : Fill w g E N l) : g < w.heap.size := by
  obtain ⟨cur, hg, _⟩ := h
  exact (Array.getElem?_eq_some_iff.1 hg).1
theorem Fill.grown {row : Option Nat} (h : Fill w g E N l) (hg : w.grownBy w' row) (hne : some g ≠ row) : Fill w' g E N l := by
  have hlt := h.lt
  obtain ⟨cur, hh, r⟩ := h
  exact ⟨cur, (hg.block g hlt hne).trans hh, r⟩
theorem Fill.below {B : Nat} (h : Fill w g E N l) (hb : Below B w w') (hg : g < B) : Fill w' g E N l := by
  obtain ⟨cur, hh, r⟩ := h
  exact ⟨cur, (hb.block g hg).trans hh, r⟩
theorem Fill.drew (h : Fill w g E N l) : Fill w.drew g E N l := h
theorem Fill.le (h : Fill w g E N l) : l.length ≤ N := by
  obtain ⟨cur, _, hs, ht⟩ := h
  have h1 := congrArg List.length ht
  have h2 : cur.toList.length = N := by rw [Array.length_toList, hs]
  rw [List.length_take, h2] at h1
  omega
theorem Fill.start {base sz n : Nat} {xs : List Value} (h : w.ownsRow base E sz (.slice (some ⟨g, 0, none⟩) n n) n xs) : Fill w g E (n * sz) [] := by
  rcases h.2 with ⟨h0, _⟩ | ⟨g', cap, cur, hv, _, hg, _, _, hs, _⟩
  · cases h0
  · injection hv with h1 _ h3
    injection h1 with h1
    injection h1 with h1
    subst h1 h3
    exact ⟨cur, hg, hs, by simp⟩
theorem Fill.own {base sz n : Nat} (h : Fill w g E (n * sz) l) (hl : l.length = n * sz) (hb : base ≤ g) (hn : n ≤ maxLen) : w.ownsRow base E sz (.slice (some ⟨g, 0, none⟩) n n) n l := by
  obtain ⟨cur, hg, hs, ht⟩ := h
  exact ⟨hl, .inr ⟨g, n, cur, rfl, hb, hg, Nat.le_refl _, hn, hs, by rw [← hl]; exact ht⟩⟩
theorem Fill.cell (h : Fill w g E N l) {i : Nat} {u : Value} (hi : l[i]? = some u) : w.cell? ⟨g, i, none⟩ = some u := by
  obtain ⟨cur, hg, hs, ht⟩ := h
  rw [cell_of_row w g i cur E (0, 0) hg]
  rw [← ht, List.getElem?_take] at hi
  split at hi
  · simpa using hi
  · cases hi
end

/-- Storing one element behind what is filled. -/
theorem run_store_fill {P : Program} {w : World} {g off : Nat} {E ty : TypeId} {N : Nat} {l vs : List Value} {v : Value} (hv : v.cells.toList = vs) (hi : (P.info? ty).map (·.size) = some vs.length) (h1 : ∀ u ∈ vs, u.oneCell' = true)
    (hf : Fill w g E N l) (hoff : off = l.length) (hfit : off + vs.length ≤ N) : ∃ w', (storeVar ty ⟨g, off, none⟩ v).run P w = .ok () w' ∧ Fill w' g E N (l ++ vs) ∧ w.grownBy w' (some g) := by
  subst hoff
  obtain ⟨cur, hg, hs, ht⟩ := hf
  have hst := run_storeCells_at P g l.length E vs 0 cur w hg (by omega) h1
  simp only [Nat.add_zero] at hst
  have hsz : v.cells.size = vs.length := by rw [← hv]; simp
  refine ⟨w.setRow g (cur.toList.take l.length ++ vs ++ cur.toList.drop (l.length + vs.length)).toArray, ?_, ⟨_, setRow_heap w g cur _ E _ hg, ?_, ?_⟩, ⟨rfl, rfl, rfl, by simp, fun k _ hk => setRow_other w g k _ (fun e => hk (by rw [e]))⟩⟩
  · cases hq : P.info? ty with
    | none => simp [hq] at hi
    | some i =>
      have his : i.size = vs.length := by simpa [hq] using hi
      simp [storeVar, sizeOf, typeInfo, hq, his, hsz, hv, hst]
  · have hc : cur.toList.length = N := by simpa using hs
    simp only [List.size_toArray, List.length_append, List.length_take, List.length_drop, hc]
    omega
  · simp only [List.length_append]
    rw [show (cur.toList.take l.length ++ vs ++ cur.toList.drop (l.length + vs.length)) = (l ++ vs) ++ cur.toList.drop (l.length + vs.length) by rw [ht]]
    exact List.take_left' (by simp)
theorem wpList_store_fill {P : Program} {ops : Array Oper} {rest : List Oper} {o : Oper} {a : Act} {w : World} {Q : Exit → Act → World → Prop} (hgd : o.guard = none) (ty : TypeId) (x y : Operand) (ho : o.op = .store ty x y) (hd : o.dst = none)
    (g off : Nat) (E : TypeId) (N : Nat) (l vs : List Value) (hx : a.eval x = .pointer (some ⟨g, off, none⟩)) (hv : (a.eval y).cells.toList = vs) (hi : (P.info? ty).map (·.size) = some vs.length) (h1 : ∀ u ∈ vs, u.oneCell' = true)
    (hf : Fill w g E N l) (hoff : off = l.length) (hfit : off + vs.length ≤ N)
    (h : ∀ w', Fill w' g E N (l ++ vs) → w.grownBy w' (some g) → wpList P ops Q rest a w') : wpList P ops Q (o :: rest) a w := by
  refine wpList_plain hgd fun K hK => ?_
  obtain ⟨w', hr, h2, h3⟩ := run_store_fill (P := P) hv hi h1 hf hoff hfit
  unfold Oper.wp execOp
  simp only [ho, hx, Instr.storeAt, Instr.sureAddr, Sem.run_bind, Sem.run_pure, Result.andThen_ok, hr, Oper.upon]
  rw [hd]
  exact hK _ _ (h w' h2 h3)
/-- A slice value that the call owns, written out. -/
theorem own_form {w : World} {base : Nat} {E : TypeId} {sz n : Nat} {v : Value} {xs : List Value} (h : w.ownsRow base E sz v n xs) : ∃ A c, v = .slice A n c ∧ n ≤ c ∧ c ≤ maxLen ∧ ∀ k, Value.ownBlock v = some k → base ≤ k := by
  have hlt := h.lt
  rcases h.2 with ⟨rfl, rfl⟩ | ⟨g, cap, cur, rfl, _, _, hc, hm, _⟩
  · exact ⟨none, 0, rfl, Nat.le_refl _, by simp [maxLen], fun k hk => (hlt k hk).1⟩
  · exact ⟨_, cap, rfl, hc, hm, fun k hk => (hlt k hk).1⟩


theorem own_below {w w' : World} {base : Nat} {E : TypeId} {sz n : Nat} {v : Value} {xs : List Value} (h : w.ownsRow base E sz v n xs) (hb : Below w.heap.size w w') : w'.ownsRow base E sz v n xs := by
  refine ⟨h.1, ?_⟩
  rcases h.2 with hn | ⟨g, cap, cur, rfl, hbg, hg, rest⟩
  · exact .inl hn
  · exact .inr ⟨g, cap, cur, rfl, hbg, (hb.block g (Array.getElem?_eq_some_iff.1 hg).1).trans hg, rest⟩
theorem own_base {w : World} {base base' : Nat} {E : TypeId} {sz n : Nat} {v : Value} {xs : List Value} (h : w.ownsRow base E sz v n xs) (hb : base' ≤ base) : w.ownsRow base' E sz v n xs := by
  refine ⟨h.1, ?_⟩
  rcases h.2 with hn | ⟨g, cap, cur, rfl, hbg, rest⟩
  · exact .inl hn
  · exact .inr ⟨g, cap, cur, rfl, Nat.le_trans hb hbg, rest⟩
/-- A row below block N is kept where a row from N on is written. -/
theorem own_low {w w' : World} {base N : Nat} {E : TypeId} {sz n : Nat} {v : Value} {xs : List Value} {row : Option Nat} (h : w.ownsRow base E sz v n xs) (hN : ∀ k, Value.ownBlock v = some k → k < N) (hg : w.grownBy w' row) (hr : ∀ k, row = some k → N ≤ k) : w'.ownsRow base E sz v n xs := by
  refine h.kept hg ?_
  cases hv : Value.ownBlock v with
  | none => exact .inl rfl
  | some k => exact .inr fun e => by have := hN k hv; have := hr k e.symm; omega
/-- A row from block N on is kept where a row below N is written. -/
theorem own_high {w w' : World} {N : Nat} {E : TypeId} {sz n : Nat} {v : Value} {xs : List Value} {row : Option Nat} (h : w.ownsRow N E sz v n xs) (hg : w.grownBy w' row) (hr : ∀ k, row = some k → k < N) : w'.ownsRow N E sz v n xs := by
  have hlt := h.lt
  refine h.kept hg ?_
  cases hv : Value.ownBlock v with
  | none => exact .inl rfl
  | some k => exact .inr fun e => by have := (hlt k hv).1; have := hr k e.symm; omega
end Go.Proofs.Ytoeecaeaobfhmaa
