/-
  Words and small laws that all proofs of this claim share: worlds that only grew, rows of cells that read as a list, rows that the call itself made. No condition.
-/
import Derived.WalkKit
import Derived.WalkLawsBesides
import Derived.WalkSpells
import Derived.Lib.Hide
import Derived.Deep.QuietTactic
import Derived.BigQuiet
import Derived.Deep.Slices
import Derived.Deep.Fields
import Derived.ChangeSame
import Derived.KernelRfl
import Derived.ProofKit
import Derived.OpenShut
namespace Go.Proofs.Ytooigcfdkmgjnaa
open Go.RowKit Go.ChangeShapes Go.WideShapes Go.Deep

/-! ### worlds that only grew -/

/-- A world that is, below block B, as w was. -/
structure Wx (B : Nat) (w : World) where
  v : World
  h : Below B w v

instance Wx.nonempty (B : Nat) (w : World) : Nonempty (Wx B w) := ⟨⟨w, Below.refl B w⟩⟩

theorem below_drewN {B : Nat} {a w : World} (h : Below B a w) (n : Nat) : Below B a (w.drewN n) := ⟨h.os, h.tape, h.output, h.size, h.block⟩

/-- A region that draws its order, whose operations read and whose callees only make memory: one walk of the text's order serves. -/
theorem wp_region_ext {P : Program} {id : Nat} {Q : Exit → Act → World → Prop} {a : Act} {w : World} {l : List Oper} (B : Nat) (hm : P.follows .mixedOrders = true) (hB : Region.lexB .any l.toArray = true)
    (h : wpQuiet P l.toArray (fun w' => ∃ x : Wx B w, w' = x.v) (fun a' => ∀ w', (∃ x : Wx B w, w' = x.v) → Q .normal a' w') l a) : (Code.region id l.toArray true).wp P Q a w :=
  wp_region_quiet (C := fun w' => ∃ x : Wx B w, w' = x.v) hm hB ⟨⟨_, (Below.refl B w).drew⟩, rfl⟩ (by simpa using h)

theorem wp_region_grow {P : Program} {id : Nat} {Q : Exit → Act → World → Prop} {a : Act} {w : World} {l : List Oper} (hm : P.follows .mixedOrders = true) (hB : Region.lexB .any l.toArray = true)
    (h : wpQuiet P l.toArray (fun w' => ∃ x : Wx w.heap.size w, w' = x.v) (fun a' => ∀ w', (∃ x : Wx w.heap.size w, w' = x.v) → Q .normal a' w') l a) : (Code.region id l.toArray true).wp P Q a w := wp_region_ext _ hm hB h
theorem wpQuiet_end {P : Program} {ops : Array Oper} {C : World → Prop} {B : Nat} {w : World} {R : Act → World → Prop} {a : Act} (h : ∀ w', Below B w w' → R a w') : wpQuiet P ops C (fun a' => ∀ w', (∃ x : Wx B w, w' = x.v) → R a' w') [] a :=
  fun w' ⟨x, hx⟩ => h w' (by rw [hx]; exact x.h)
@[go_sem] theorem Wx.cell_eq {B : Nat} {w : World} (x : Wx B w) (b o : Nat) (h : b < B) : x.v.cell? ⟨b, o, none⟩ = w.cell? ⟨b, o, none⟩ := x.h.cell (p := ⟨b, o, none⟩) h

/-- A callee that makes memory alone, met in such a region. -/
theorem Calls.ext_of {P : Program} {f : FuncId} {args : Array Value} {B : Nat} {w : World} {x : Wx B w} {v : Value} (hB : B ≤ w.heap.size)
    (h : Calls P f args x.v fun e w' => e = .returned v ∧ Below x.v.heap.size x.v w') : Calls P f args x.v fun e w'' => e = .returned v ∧ ∃ y : Wx B w, w'' = y.v :=
  h.mono fun _ w' ⟨he, hb⟩ => ⟨he, ⟨w', x.h.trans (hb.mono (Nat.le_trans hB x.h.size))⟩, rfl⟩
theorem Calls.ext_same {P : Program} {f : FuncId} {args : Array Value} {B : Nat} {w : World} {x : Wx B w} {v : Value}
    (h : Calls P f args x.v fun e w' => e = .returned v ∧ x.v = w') : Calls P f args x.v fun e w'' => e = .returned v ∧ ∃ y : Wx B w, w'' = y.v :=
  h.mono fun _ _ ⟨he, hb⟩ => ⟨he, x, hb.symm⟩

/-- A cell of the old world, read in a grown one. -/
theorem Wx.cell {w : World} (x : Wx w.heap.size w) {a : Addr} {u : Value} (h : w.cell? a = some u) : x.v.cell? a = some u :=
  (x.h.cell (World.block_lt_of_cell? w a h)).trans h
theorem cell_below {w w' : World} (hb : Below w.heap.size w w') {a : Addr} {u : Value} (h : w.cell? a = some u) : w'.cell? a = some u :=
  (hb.cell (World.block_lt_of_cell? w a h)).trans h
theorem below_trans' {w w1 w2 : World} (h1 : Below w.heap.size w w1) (h2 : Below w1.heap.size w1 w2) : Below w.heap.size w w2 :=
  h1.trans (h2.mono h1.size)
theorem below_alloc' {B : Nat} {w w1 : World} (h : Below B w w1) (o : Obj) (hB : B ≤ w.heap.size := by simp) : Below B w (w1.alloc o) := h.alloc (Nat.le_trans hB h.size) o
theorem below_alloc {w w1 : World} (h : Below w.heap.size w w1) (o : Obj) : Below w.heap.size w (w1.alloc o) := h.alloc h.size o

/-- What the walk is told of a world behind a call that made memory alone. -/
theorem bcell {W w1 : World} (hb : Below W.heap.size W w1) : (∀ b o, b < W.heap.size → w1.cell? ⟨b, o, none⟩ = W.cell? ⟨b, o, none⟩) ∧ (∀ b o, b < W.heap.size → w1.frozen? ⟨b, o, none⟩ = W.frozen? ⟨b, o, none⟩) :=
  ⟨fun b o h => hb.cell (p := ⟨b, o, none⟩) h, fun b o h => hb.frozen (p := ⟨b, o, none⟩) h⟩

/-- The ways through 'a || b || c || d || p && l'. -/
theorem or_ways (a b c d p l : Bool) : a = true ∨ (a = false ∧ b = true) ∨ (a = false ∧ b = false ∧ c = true) ∨ (a = false ∧ b = false ∧ c = false ∧ d = true) ∨ (a = false ∧ b = false ∧ c = false ∧ d = false ∧ p = false) ∨
    (a = false ∧ b = false ∧ c = false ∧ d = false ∧ p = true ∧ l = true) ∨ (a = false ∧ b = false ∧ c = false ∧ d = false ∧ p = true ∧ l = false) := by
  cases a <;> cases b <;> cases c <;> cases d <;> cases p <;> cases l <;> simp

theorem or_ways2 (a b c d p l m : Bool) : a = true ∨ (a = false ∧ b = true) ∨ (a = false ∧ b = false ∧ c = true) ∨ (a = false ∧ b = false ∧ c = false ∧ d = true) ∨ (a = false ∧ b = false ∧ c = false ∧ d = false ∧ p = false) ∨
    (a = false ∧ b = false ∧ c = false ∧ d = false ∧ p = true ∧ l = false) ∨ (a = false ∧ b = false ∧ c = false ∧ d = false ∧ p = true ∧ l = true ∧ m = false) ∨ (a = false ∧ b = false ∧ c = false ∧ d = false ∧ p = true ∧ l = true ∧ m = true) := by
  cases a <;> cases b <;> cases c <;> cases d <;> cases p <;> cases l <;> cases m <;> simp

/-! ### rows of cells that read as a list -/

def RowOf {α : Type} (vals : α → List Value) (sz : Nat) (w : World) (A : Option Addr) (h : List α) : Prop :=
  0 < h.length → ∃ b off, A = some ⟨b, off, none⟩ ∧ ∀ i c, h[i]? = some c → ∀ j u, (vals c)[j]? = some u → w.cell? ⟨b, off + i * sz + j, none⟩ = some u

section
variable {α : Type} {vals : α → List Value} {sz : Nat} {w w' : World} {A : Option Addr} {h : List α}
theorem RowOf.nil : RowOf vals sz w A ([] : List α) := fun hc => absurd hc (by simp)
theorem RowOf.below (hr : RowOf vals sz w A h) (hb : Below w.heap.size w w') : RowOf vals sz w' A h := fun hl => by
  obtain ⟨b, off, e, hc⟩ := hr hl
  exact ⟨b, off, e, fun i c hi j u hu => cell_below hb (hc i c hi j u hu)⟩
theorem RowOf.take (hr : RowOf vals sz w A h) (n : Nat) : RowOf vals sz w A (h.take n) := fun hl => by
  obtain ⟨b, off, e, hc⟩ := hr (by rw [List.length_take] at hl; omega)
  refine ⟨b, off, e, fun i c hi j u hu => hc i c ?_ j u hu⟩
  rw [List.getElem?_take] at hi
  split at hi
  · exact hi
  · cases hi
end

/-- A list of rows laid flat: row i's place j. -/
theorem flat_at {α : Type} {vals : α → List Value} {sz : Nat} : ∀ (h : List α), (∀ c ∈ h, (vals c).length = sz) → ∀ i c, h[i]? = some c → ∀ j u, (vals c)[j]? = some u → (h.flatMap vals)[i * sz + j]? = some u
  | [], _, i, c, hi, _, _, _ => by simp at hi
  | x :: xs, hv, i, c, hi, j, u, hu => by
    have hx : (vals x).length = sz := hv x (by simp)
    cases i with
    | zero =>
      simp only [List.getElem?_cons_zero, Option.some.injEq] at hi
      subst hi
      have hj : j < (vals x).length := (List.getElem?_eq_some_iff.1 hu).1
      rw [List.flatMap_cons, List.getElem?_append_left (by omega)]
      simpa using hu
    | succ i =>
      simp only [List.getElem?_cons_succ] at hi
      have e1 : (i + 1) * sz + j = (vals x).length + (i * sz + j) := by rw [hx, Nat.succ_mul]; omega
      rw [List.flatMap_cons, e1, List.getElem?_append_right (by omega), Nat.add_sub_cancel_left]
      exact flat_at xs (fun c hc => hv c (by simp [hc])) i c hi j u hu
theorem flat_len {α : Type} {vals : α → List Value} {sz : Nat} : ∀ (h : List α), (∀ c ∈ h, (vals c).length = sz) → (h.flatMap vals).length = h.length * sz
  | [], _ => by simp
  | x :: xs, hv => by
    rw [List.flatMap_cons, List.length_append, hv x (by simp), flat_len xs (fun c hc => hv c (by simp [hc])), List.length_cons, Nat.succ_mul]
    omega

section
variable {α : Type} {vals : α → List Value} {sz : Nat} {w w' : World} {A : Option Addr} {h : List α}
theorem RowOf.of_own {base : Nat} {e : TypeId} {c : Nat} {n : Nat} (hn : n = h.length) (hv : ∀ c ∈ h, (vals c).length = sz) (ho : w.ownsRow base e sz (.slice A n c) n (h.flatMap vals)) : RowOf vals sz w A h := by
  subst hn
  intro hl
  rcases ho.2 with ⟨_, h0⟩ | ⟨g, cap, cur, hv', _, hg, _, _, _, htake⟩
  · omega
  · have hA : A = some ⟨g, 0, none⟩ := by injection hv'
    refine ⟨g, 0, hA, fun i c hi j u hu => ?_⟩
    have hflat := flat_at h hv i c hi j u hu
    rw [← htake, List.getElem?_take] at hflat
    split at hflat
    · rw [cell_of_row w g _ cur e (0, 0) hg]
      simpa using hflat
    · cases hflat
end
end Go.Proofs.Ytooigcfdkmgjnaa
