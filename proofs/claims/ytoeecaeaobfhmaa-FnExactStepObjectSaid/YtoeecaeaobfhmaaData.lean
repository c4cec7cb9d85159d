/-
  The program's structs as Lean data, and how a law's arguments are opened to them. No condition.
-/
import Derived.Test.YtoeecaeaobfhmaaBase
namespace Go.Proofs.Ytoeecaeaobfhmaa
open Go.RowKit Go.ChangeShapes Go.WideShapes Go.Deep

def I64 (n : Int) : Prop := -9223372036854775808 ≤ n ∧ n ≤ 9223372036854775807
theorem i64_of_wf {n : Int} (h : (Lit.int .i64 n).wf = true) : I64 n := by
  simp [Lit.wf, IntKind.min, IntKind.max, IntKind.signed, IntKind.bits] at h
  exact h

theorem list_of_forall {α : Type} {p : Nat → α → Prop} : ∀ (n : Nat), (∀ i, i < n → ∃ c, p i c) → ∃ l : List α, l.length = n ∧ ∀ i c, l[i]? = some c → p i c
  | 0, _ => ⟨[], rfl, fun i c h => by simp at h⟩
  | n + 1, h => by
    obtain ⟨l, hl, hp⟩ := list_of_forall n (fun i hi => h i (by omega))
    obtain ⟨c, hc⟩ := h n (by omega)
    refine ⟨l ++ [c], by simp [hl], fun i d hi => ?_⟩
    by_cases hin : i < n
    · rw [List.getElem?_append_left (by omega)] at hi
      exact hp i d hi
    · have hlt := (List.getElem?_eq_some_iff.1 hi).1
      have : i = n := by simp [hl] at hlt; omega
      subst this
      rw [List.getElem?_append_right (by omega)] at hi
      simp [hl] at hi
      subst hi
      exact hc

section
variable {H : Type} {enc : TypeId × Value → H} {P : Program} {w : World} {base : Nat} {spare : Nat → Bool} {held : Bool}

/-- An argument that is a slice of rows of cells. -/
theorem open_rows {α : Type} {vals : α → List Value} {good : α → Prop} {sz : Nat} {t e : TypeId} {fuel : Nat} {A : Option Addr} {n c : Nat} {x : DataW H × List MemPlace} (ht : P.underlying t = some (.slice e)) (hC : P.cellsOf e = sz) (hsz : 0 < sz)
    (hrow : ∀ (m : Nat) (cs : List Value) (y : DataW H × List MemPlace), cs.length = sz → DataW.trod enc P w base spare held m e cs = some y → ∃ c, cs = vals c ∧ good c)
    (h : DataW.trod enc P w base spare held fuel t [.slice A n c] = some x) :
    ∃ l : List α, l.length = n ∧ n ≤ c ∧ c ≤ maxLen ∧ RowOf vals sz w A l ∧ (∀ d ∈ l, good d) ∧ (A = none → n = 0 ∧ c = 0) := by
  rcases open_slice ht h with ⟨h0, _⟩ | ⟨a, len, cap, m, k, D, Pl, hcs, hb, hl, hm, hmm, hx, hi⟩
  · simp at h0
    obtain ⟨rfl, rfl, rfl⟩ := h0
    exact ⟨[], rfl, Nat.le_refl _, by simp [maxLen], RowOf.nil, by simp, fun _ => ⟨rfl, rfl⟩⟩
  · simp at hcs
    obtain ⟨rfl, rfl, rfl⟩ := hcs
    have hnm : n ≤ m := by subst hmm; split <;> omega
    have hall : ∀ i, i < n → ∃ d, good d ∧ ∀ j u, (vals d)[j]? = some u → w.cell? ((a.add (i * sz)).add j) = some u := fun i hin => by
      obtain ⟨cs', hc, ht'⟩ := hi i (by omega)
      rw [hC] at hc
      obtain ⟨_, hcl, hat⟩ := World.cells?_some hc
      obtain ⟨d, rfl, hd⟩ := hrow k cs' _ hcl ht'
      refine ⟨d, hd, fun j u hu => ?_⟩
      have hj := (List.getElem?_eq_some_iff.1 hu).1
      rw [hat j (by omega)]
      exact hu
    obtain ⟨l, hll, hp⟩ := list_of_forall n hall
    refine ⟨l, hll, hl, hm, fun h0 => ?_, fun d hd => ?_, fun h => by simp at h⟩
    · obtain ⟨b, off, spot⟩ := a
      have hspot : spot = none := by
        obtain ⟨cs', hc, ht'⟩ := hi 0 (by omega)
        rw [hC] at hc
        obtain ⟨_, hcl, hat⟩ := World.cells?_some hc
        have h1 := hat 0 hsz
        have h2 : cs'[0]? = some (cs'[0]'(by omega)) := List.getElem?_eq_getElem (by omega)
        rw [h2] at h1
        simpa [Addr.add] using World.cell?_spot h1
      subst hspot
      refine ⟨b, off, rfl, fun i d hid j u hu => ?_⟩
      have h1 := (hp i d hid).2 j u hu
      rwa [Addr.add_lit, Addr.add_lit] at h1
    · obtain ⟨i, hi'⟩ := List.getElem?_of_mem hd
      exact (hp i d hi').1

/-- A struct of one-cell fields, its cells and what each reads as. -/
theorem open_fields {t : TypeId} {fs : Array Field} {m : Nat} {cs : List Value} {y : DataW H × List MemPlace} (hs : P.underlying t = some (.struct fs)) (hone : oneCellFields P fs = true) (hC : P.cellsOf t = fs.size)
    (h : DataW.trod enc P w base spare held m t cs = some y) : cs.length = fs.size ∧ ∀ (j : Nat) (f : Field), fs[j]? = some f → ∃ (v : Value) (k : Nat) (z : DataW H × List MemPlace), cs[j]? = some v ∧ DataW.trod enc P w base spare held k f.type [v] = some z := by
  obtain ⟨ys, n', hn', hy, hlen, hyl, hf⟩ := DataW.trod_struct hs h
  refine ⟨hlen.trans hC, fun j f hj => ?_⟩
  obtain ⟨ho, hk⟩ := hone_of hone j f hj
  have hjl : j < fs.size := (Array.getElem?_eq_some_iff.1 hj).1
  have hv : cs[j]? = some (cs[j]'(by omega)) := List.getElem?_eq_getElem (by omega)
  have h1 := hf j f hj
  rw [ho, hk] at h1
  have hone' : (cs.drop j).take 1 = [cs[j]'(by omega)] := by
    rw [List.drop_eq_getElem_cons (by omega)]
    rfl
  rw [hone'] at h1
  have hys : ys[j]? = some (ys[j]'(by omega)) := List.getElem?_eq_getElem (by omega)
  exact ⟨_, n', _, hv, h1.trans hys⟩
theorem open_int_cell {t : TypeId} {m : Nat} {v : Value} {y : DataW H × List MemPlace} (ht : P.underlying t = some (.int .i64)) (h : DataW.trod enc P w base spare held m t [v] = some y) : ∃ n, v = .int .i64 n ∧ I64 n := by
  obtain ⟨n, h1, _, h3⟩ := DataW.trod_int ht h
  simp at h1
  exact ⟨n, h1, i64_of_wf h3⟩
theorem open_bool_cell {t : TypeId} {m : Nat} {v : Value} {y : DataW H × List MemPlace} (ht : P.underlying t = some .bool) (h : DataW.trod enc P w base spare held m t [v] = some y) : ∃ b, v = .bool b := by
  obtain ⟨b, h1, _⟩ := DataW.trod_bool ht h
  simp at h1
  exact ⟨b, h1⟩
end

/-! ### a call -/
structure CallD where
  proc : Int
  obj : Int
  kind : Int
  arg : Int
  ret : Int
  fr : Int
  till : Int
def CallD.vals (c : CallD) : List Value := [.int .i64 c.proc, .int .i64 c.obj, .int .i64 c.kind, .int .i64 c.arg, .int .i64 c.ret, .int .i64 c.fr, .int .i64 c.till]
theorem CallD.vals_len (c : CallD) : c.vals.length = 7 := rfl
def CallD.good (c : CallD) : Prop := I64 c.proc ∧ I64 c.obj ∧ I64 c.kind ∧ I64 c.arg ∧ I64 c.ret ∧ I64 c.fr ∧ I64 c.till
abbrev RowCalls (w : World) (A : Option Addr) (h : List CallD) : Prop := RowOf CallD.vals 7 w A h
/-- The seven cells of a call. -/
def At7 (w : World) (b o : Nat) (c : CallD) : Prop :=
  w.cell? ⟨b, o, none⟩ = some (.int .i64 c.proc) ∧ w.cell? ⟨b, o + 1, none⟩ = some (.int .i64 c.obj) ∧ w.cell? ⟨b, o + 2, none⟩ = some (.int .i64 c.kind) ∧ w.cell? ⟨b, o + 3, none⟩ = some (.int .i64 c.arg) ∧
  w.cell? ⟨b, o + 4, none⟩ = some (.int .i64 c.ret) ∧ w.cell? ⟨b, o + 5, none⟩ = some (.int .i64 c.fr) ∧ w.cell? ⟨b, o + 6, none⟩ = some (.int .i64 c.till)
theorem RowCalls.at7 {w : World} {b off : Nat} {h : List CallD} (hc : ∀ i c, h[i]? = some c → ∀ j u, (CallD.vals c)[j]? = some u → w.cell? ⟨b, off + i * 7 + j, none⟩ = some u) {i : Nat} {c : CallD} (hi : h[i]? = some c) : At7 w b (off + i * 7) c :=
  ⟨hc i c hi 0 _ rfl, hc i c hi 1 _ rfl, hc i c hi 2 _ rfl, hc i c hi 3 _ rfl, hc i c hi 4 _ rfl, hc i c hi 5 _ rfl, hc i c hi 6 _ rfl⟩
theorem At7.below {w w' : World} {b o : Nat} {c : CallD} (h : At7 w b o c) (hb : Below w.heap.size w w') : At7 w' b o c :=
  ⟨cell_below hb h.1, cell_below hb h.2.1, cell_below hb h.2.2.1, cell_below hb h.2.2.2.1, cell_below hb h.2.2.2.2.1, cell_below hb h.2.2.2.2.2.1, cell_below hb h.2.2.2.2.2.2⟩
theorem call_of_cells {H : Type} {enc : TypeId × Value → H} {P : Program} {w : World} {base : Nat} {spare : Nat → Bool} {held : Bool} {t : TypeId} {f0 f1 f2 f3 f4 f5 f6 : Field} {m : Nat} {cs : List Value} {y : DataW H × List MemPlace}
    (hs : P.underlying t = some (.struct #[f0, f1, f2, f3, f4, f5, f6])) (hone : oneCellFields P #[f0, f1, f2, f3, f4, f5, f6] = true) (hC : P.cellsOf t = 7)
    (hi : P.underlying f0.type = some (.int .i64) ∧ P.underlying f1.type = some (.int .i64) ∧ P.underlying f2.type = some (.int .i64) ∧ P.underlying f3.type = some (.int .i64) ∧ P.underlying f4.type = some (.int .i64) ∧ P.underlying f5.type = some (.int .i64) ∧ P.underlying f6.type = some (.int .i64))
    (h : DataW.trod enc P w base spare held m t cs = some y) : ∃ c : CallD, cs = c.vals ∧ c.good := by
  obtain ⟨hl, hf⟩ := open_fields hs hone hC h
  obtain ⟨i0, i1, i2, i3, i4, i5, i6⟩ := hi
  match cs, hl with
  | [c0, c1, c2, c3, c4, c5, c6], _ =>
    obtain ⟨v0, k0, z0, e0, g0⟩ := hf 0 f0 rfl
    obtain ⟨v1, k1, z1, e1, g1⟩ := hf 1 f1 rfl
    obtain ⟨v2, k2, z2, e2, g2⟩ := hf 2 f2 rfl
    obtain ⟨v3, k3, z3, e3, g3⟩ := hf 3 f3 rfl
    obtain ⟨v4, k4, z4, e4, g4⟩ := hf 4 f4 rfl
    obtain ⟨v5, k5, z5, e5, g5⟩ := hf 5 f5 rfl
    obtain ⟨v6, k6, z6, e6, g6⟩ := hf 6 f6 rfl
    simp at e0 e1 e2 e3 e4 e5 e6
    subst e0 e1 e2 e3 e4 e5 e6
    obtain ⟨n0, rfl, w0⟩ := open_int_cell i0 g0
    obtain ⟨n1, rfl, w1⟩ := open_int_cell i1 g1
    obtain ⟨n2, rfl, w2⟩ := open_int_cell i2 g2
    obtain ⟨n3, rfl, w3⟩ := open_int_cell i3 g3
    obtain ⟨n4, rfl, w4⟩ := open_int_cell i4 g4
    obtain ⟨n5, rfl, w5⟩ := open_int_cell i5 g5
    obtain ⟨n6, rfl, w6⟩ := open_int_cell i6 g6
    exact ⟨⟨n0, n1, n2, n3, n4, n5, n6⟩, rfl, w0, w1, w2, w3, w4, w5, w6⟩

/-! ### event -/
structure EventD where
  proc : Int
  kind : Int
  msg : Int
def EventD.vals (c : EventD) : List Value := [.int .i64 c.proc, .int .i64 c.kind, .int .i64 c.msg]
theorem EventD.vals_len (c : EventD) : c.vals.length = 3 := rfl
def EventD.good (c : EventD) : Prop := I64 c.proc ∧ I64 c.kind ∧ I64 c.msg
abbrev EventD.val (c : EventD) : Value := .agg #[.int .i64 c.proc, .int .i64 c.kind, .int .i64 c.msg]
abbrev RowEvents (w : World) (A : Option Addr) (h : List EventD) : Prop := RowOf EventD.vals 3 w A h
/-- Its three cells. -/
def EventAt (w : World) (b o : Nat) (c : EventD) : Prop :=
  w.cell? ⟨b, o, none⟩ = some (.int .i64 c.proc) ∧ w.cell? ⟨b, o + 1, none⟩ = some (.int .i64 c.kind) ∧ w.cell? ⟨b, o + 2, none⟩ = some (.int .i64 c.msg)
theorem RowEvents.at_ {w : World} {b off : Nat} {h : List EventD} (hc : ∀ i c, h[i]? = some c → ∀ j u, (EventD.vals c)[j]? = some u → w.cell? ⟨b, off + i * 3 + j, none⟩ = some u) {i : Nat} {c : EventD} (hi : h[i]? = some c) : EventAt w b (off + i * 3) c :=
  ⟨hc i c hi 0 _ rfl, hc i c hi 1 _ rfl, hc i c hi 2 _ rfl⟩
theorem EventAt.below {w w' : World} {b o : Nat} {c : EventD} (h : EventAt w b o c) (hb : Below w.heap.size w w') : EventAt w' b o c :=
  ⟨cell_below hb h.1, cell_below hb h.2.1, cell_below hb h.2.2⟩
theorem event_of_cells {H : Type} {enc : TypeId × Value → H} {P : Program} {w : World} {base : Nat} {spare : Nat → Bool} {held : Bool} {t : TypeId} {f0 f1 f2 : Field} {m : Nat} {cs : List Value} {y : DataW H × List MemPlace}
    (hs : P.underlying t = some (.struct #[f0, f1, f2])) (hone : oneCellFields P #[f0, f1, f2] = true) (hC : P.cellsOf t = 3)
    (hi : P.underlying f0.type = some (.int .i64) ∧ P.underlying f1.type = some (.int .i64) ∧ P.underlying f2.type = some (.int .i64))
    (h : DataW.trod enc P w base spare held m t cs = some y) : ∃ c : EventD, cs = c.vals ∧ c.good := by
  obtain ⟨hl, hf⟩ := open_fields hs hone hC h
  obtain ⟨i0, i1, i2⟩ := hi
  match cs, hl with
  | [c0, c1, c2], _ =>
    obtain ⟨v0, k0, z0, e0, g0⟩ := hf 0 f0 rfl
    obtain ⟨v1, k1, z1, e1, g1⟩ := hf 1 f1 rfl
    obtain ⟨v2, k2, z2, e2, g2⟩ := hf 2 f2 rfl
    simp at e0 e1 e2
    subst e0 e1 e2
    obtain ⟨n0, rfl, w0⟩ := open_int_cell i0 g0
    obtain ⟨n1, rfl, w1⟩ := open_int_cell i1 g1
    obtain ⟨n2, rfl, w2⟩ := open_int_cell i2 g2
    exact ⟨⟨n0, n1, n2⟩, rfl, w0, w1, w2⟩

/-! ### access -/
structure AccessD where
  session : Int
  write : Bool
  seen : Int
def AccessD.vals (c : AccessD) : List Value := [.int .i64 c.session, .bool c.write, .int .i64 c.seen]
theorem AccessD.vals_len (c : AccessD) : c.vals.length = 3 := rfl
def AccessD.good (c : AccessD) : Prop := I64 c.session ∧ I64 c.seen
abbrev AccessD.val (c : AccessD) : Value := .agg #[.int .i64 c.session, .bool c.write, .int .i64 c.seen]
abbrev RowAccesss (w : World) (A : Option Addr) (h : List AccessD) : Prop := RowOf AccessD.vals 3 w A h
/-- Its three cells. -/
def AccessAt (w : World) (b o : Nat) (c : AccessD) : Prop :=
  w.cell? ⟨b, o, none⟩ = some (.int .i64 c.session) ∧ w.cell? ⟨b, o + 1, none⟩ = some (.bool c.write) ∧ w.cell? ⟨b, o + 2, none⟩ = some (.int .i64 c.seen)
theorem RowAccesss.at_ {w : World} {b off : Nat} {h : List AccessD} (hc : ∀ i c, h[i]? = some c → ∀ j u, (AccessD.vals c)[j]? = some u → w.cell? ⟨b, off + i * 3 + j, none⟩ = some u) {i : Nat} {c : AccessD} (hi : h[i]? = some c) : AccessAt w b (off + i * 3) c :=
  ⟨hc i c hi 0 _ rfl, hc i c hi 1 _ rfl, hc i c hi 2 _ rfl⟩
theorem AccessAt.below {w w' : World} {b o : Nat} {c : AccessD} (h : AccessAt w b o c) (hb : Below w.heap.size w w') : AccessAt w' b o c :=
  ⟨cell_below hb h.1, cell_below hb h.2.1, cell_below hb h.2.2⟩
theorem access_of_cells {H : Type} {enc : TypeId × Value → H} {P : Program} {w : World} {base : Nat} {spare : Nat → Bool} {held : Bool} {t : TypeId} {f0 f1 f2 : Field} {m : Nat} {cs : List Value} {y : DataW H × List MemPlace}
    (hs : P.underlying t = some (.struct #[f0, f1, f2])) (hone : oneCellFields P #[f0, f1, f2] = true) (hC : P.cellsOf t = 3)
    (hi : P.underlying f0.type = some (.int .i64) ∧ P.underlying f1.type = some .bool ∧ P.underlying f2.type = some (.int .i64))
    (h : DataW.trod enc P w base spare held m t cs = some y) : ∃ c : AccessD, cs = c.vals ∧ c.good := by
  obtain ⟨hl, hf⟩ := open_fields hs hone hC h
  obtain ⟨i0, i1, i2⟩ := hi
  match cs, hl with
  | [c0, c1, c2], _ =>
    obtain ⟨v0, k0, z0, e0, g0⟩ := hf 0 f0 rfl
    obtain ⟨v1, k1, z1, e1, g1⟩ := hf 1 f1 rfl
    obtain ⟨v2, k2, z2, e2, g2⟩ := hf 2 f2 rfl
    simp at e0 e1 e2
    subst e0 e1 e2
    obtain ⟨n0, rfl, w0⟩ := open_int_cell i0 g0
    obtain ⟨n1, rfl⟩ := open_bool_cell i1 g1
    obtain ⟨n2, rfl, w2⟩ := open_int_cell i2 g2
    exact ⟨⟨n0, n1, n2⟩, rfl, w0, w2⟩

/-! ### numbers, bytes -/
def intVals (n : Int) : List Value := [.int .i64 n]
abbrev RowInts (w : World) (A : Option Addr) (h : List Int) : Prop := RowOf intVals 1 w A h
theorem RowInts.at_ {w : World} {b off : Nat} {h : List Int} (hc : ∀ i c, h[i]? = some c → ∀ j u, (intVals c)[j]? = some u → w.cell? ⟨b, off + i * 1 + j, none⟩ = some u) {i : Nat} {c : Int} (hi : h[i]? = some c) : w.cell? ⟨b, off + i, none⟩ = some (.int .i64 c) := by
  simpa using hc i c hi 0 _ rfl
theorem int_of_cells {H : Type} {enc : TypeId × Value → H} {P : Program} {w : World} {base : Nat} {spare : Nat → Bool} {held : Bool} {t : TypeId} {m : Nat} {cs : List Value} {y : DataW H × List MemPlace}
    (ht : P.underlying t = some (.int .i64)) (h : DataW.trod enc P w base spare held m t cs = some y) : ∃ c : Int, cs = intVals c ∧ I64 c := by
  obtain ⟨n, h1, _, h3⟩ := DataW.trod_int ht h
  exact ⟨n, h1, i64_of_wf h3⟩
def byteVals (n : Int) : List Value := [.int .u8 n]
def isByte (n : Int) : Prop := 0 ≤ n ∧ n ≤ 255
theorem byte_of_cells {H : Type} {enc : TypeId × Value → H} {P : Program} {w : World} {base : Nat} {spare : Nat → Bool} {held : Bool} {t : TypeId} {m : Nat} {cs : List Value} {y : DataW H × List MemPlace}
    (ht : P.underlying t = some (.int .u8)) (h : DataW.trod enc P w base spare held m t cs = some y) : ∃ c : Int, cs = byteVals c ∧ isByte c := by
  obtain ⟨n, h1, _, h3⟩ := DataW.trod_int ht h
  refine ⟨n, h1, ?_⟩
  simp [Lit.wf, IntKind.min, IntKind.max, IntKind.signed, IntKind.bits] at h3
  exact h3
end Go.Proofs.Ytoeecaeaobfhmaa
