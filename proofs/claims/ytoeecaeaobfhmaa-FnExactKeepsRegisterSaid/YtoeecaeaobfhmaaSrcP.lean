/-
  From which put a look answers, which looks turn the time around, as Lean functions on a list of calls. No condition.
-/
import Derived.Test.YtoeecaeaobfhmaaWriterP
namespace Go.Proofs.Ytoeecaeaobfhmaa

def putB (r : Int) (o : CallD) : Bool := o.kind == 0 && o.arg == r
def srcAt (h : List CallD) (r : Int) : Int := match (List.range h.length).find? (fun k => putB r (hAt h k)) with | some k => (k : Int) | none => -2
def srcB (h : List CallD) (c : CallD) : Int := if c.ret = 0 then -1 else srcAt h c.ret
theorem find_range {p : Nat → Bool} {n k : Nat} (hk : k < n) (ha : (List.range k).all (fun j => !p j) = true) (hp : p k = true) : (List.range n).find? p = some k := by
  rw [List.find?_range_eq_some]
  refine ⟨hp, List.mem_range.2 hk, fun j hj => ?_⟩
  exact List.all_eq_true.1 ha j (List.mem_range.2 hj)
theorem srcAt_hit {h : List CallD} {r : Int} {k : Nat} (hk : k < h.length) (ha : (List.range k).all (fun j => !putB r (hAt h j)) = true) (hp : putB r (hAt h k) = true) : srcAt h r = (k : Int) := by
  simp only [srcAt, find_range hk ha hp]
theorem srcAt_none {h : List CallD} {r : Int} (ha : (List.range h.length).all (fun j => !putB r (hAt h j)) = true) : srcAt h r = -2 := by
  have : (List.range h.length).find? (fun k => putB r (hAt h k)) = none := by
    rw [List.find?_eq_none]
    intro j hj
    have := List.all_eq_true.1 ha j hj
    simpa using this
  simp only [srcAt, this]
theorem srcAt_bd (h : List CallD) (r : Int) : -2 ≤ srcAt h r ∧ srcAt h r < (h.length : Int) := by
  unfold srcAt
  split
  · next k hk => have := List.mem_range.1 (List.mem_of_find?_eq_some hk); omega
  · omega
theorem srcB_bd (h : List CallD) (c : CallD) : -2 ≤ srcB h c ∧ srcB h c < (h.length : Int) := by
  unfold srcB
  split
  · omega
  · exact srcAt_bd h c.ret
theorem srcB_zero (h : List CallD) {c : CallD} (hc : (c.ret == 0) = true) : srcB h c = -1 := by
  simp only [srcB, if_pos (by simpa using hc)]
theorem srcB_at (h : List CallD) {c : CallD} (hc : (c.ret == 0) = false) : srcB h c = srcAt h c.ret := by
  simp only [srcB, if_neg (by simpa using hc)]

/-! The sources of the looks. -/
def lookI (h : List CallD) : Nat → List Int
  | 0 => []
  | k + 1 => if (hAt h k).kind == 2 then lookI h k ++ [srcB h (hAt h k)] else lookI h k
theorem lookI_len (h : List CallD) : ∀ k, (lookI h k).length ≤ k
  | 0 => by simp [lookI]
  | k + 1 => by
    have := lookI_len h k
    simp only [lookI]
    split
    · simp; omega
    · omega
def looksL (h : List CallD) : List Int := if writerB h then lookI h h.length else []

/-! Looks that turn the time of puts around. -/
def olderB (h : List CallD) (a b : Int) : Bool := !(decide (b < 0)) && (a == -1 || (!(decide (a < 0)) && befB (hAt h a.toNat) (hAt h b.toNat)))
def turnB (h : List CallD) (i k : Nat) : Bool := (hAt h i).kind == 2 && ((hAt h k).kind == 2 && (befB (hAt h i) (hAt h k) && olderB h (srcB h (hAt h k)) (srcB h (hAt h i))))
/-- The first turn: of the calls from i on, and of i's others from k on. -/
def turnAt (h : List CallD) : Option (Nat × Nat) := (List.range h.length).findSome? fun i => ((List.range h.length).find? fun k => turnB h i k).map fun k => (i, k)
theorem turnAt_none {h : List CallD} (ha : (List.range h.length).all (fun i => (List.range h.length).all fun k => !turnB h i k) = true) : turnAt h = none := by
  unfold turnAt
  rw [List.findSome?_eq_none_iff]
  intro i hi
  have h1 := List.all_eq_true.1 ha i hi
  rw [Option.map_eq_none_iff, List.find?_eq_none]
  intro k hk
  have := List.all_eq_true.1 h1 k hk
  simpa using this
theorem findSome_range {β : Type} {f : Nat → Option β} {n i : Nat} {b : β} (hi : i < n) (ha : ∀ j, j < i → f j = none) (hb : f i = some b) : (List.range n).findSome? f = some b := by
  have e : List.range n = List.range i ++ (List.range (n - i)).map (i + ·) := by
    rw [← List.range_add]; congr 1; omega
  rw [e, List.findSome?_append]
  have h1 : (List.range i).findSome? f = none := List.findSome?_eq_none_iff.2 fun j hj => ha j (List.mem_range.1 hj)
  rw [h1, Option.none_or]
  obtain ⟨m, hm⟩ : ∃ m, n - i = m + 1 := ⟨n - i - 1, by omega⟩
  rw [hm, List.range_succ_eq_map]
  simp [hb]
theorem turnAt_some {h : List CallD} {i k : Nat} (hi : i < h.length) (hk : k < h.length) (ha : (List.range i).all (fun i => (List.range h.length).all fun k => !turnB h i k) = true)
    (hp : (List.range k).all (fun k => !turnB h i k) = true) (ht : turnB h i k = true) : turnAt h = some (i, k) := by
  unfold turnAt
  refine findSome_range hi (fun j hj => ?_) ?_
  · have h1 := List.all_eq_true.1 ha j (List.mem_range.2 hj)
    rw [Option.map_eq_none_iff, List.find?_eq_none]
    intro k hk
    have := List.all_eq_true.1 h1 k hk
    simpa using this
  · rw [find_range hk hp ht]; rfl
def turnV (h : List CallD) : Int × Int × Bool := match turnAt h with | some (i, k) => ((i : Int), (k : Int), true) | none => (-1, -1, false)
def turnL (h : List CallD) : Int × Int × Bool := if writerB h then turnV h else (-1, -1, false)
end Go.Proofs.Ytoeecaeaobfhmaa
