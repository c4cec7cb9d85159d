/-
  When a history of one writer keeps a promise, as Lean functions on a list of calls; the last put before a call, found by times or by order. No condition.
-/
import Derived.Test.YtoeecaeaobfhmaaSrcP
namespace Go.Proofs.Ytoeecaeaobfhmaa

def newerI (h : List CallD) (l : Int) (o : CallD) : Bool := decide (l < 0) || decide ((hAt h l.toNat).fr < o.fr)
def newerR (h : List CallD) (l : Int) (o : CallD) : Bool := decide (l < 0) || befB (hAt h l.toNat) o
def lastI (h : List CallD) (c : CallD) : Nat → Int
  | 0 => -1
  | k + 1 => if ((hAt h k).kind == 0 && (befB (hAt h k) c && newerI h (lastI h c k) (hAt h k))) = true then (k : Int) else lastI h c k
def lastR (h : List CallD) (c : CallD) : Nat → Int
  | 0 => -1
  | k + 1 => if ((hAt h k).kind == 0 && (befB (hAt h k) c && newerR h (lastR h c k) (hAt h k))) = true then (k : Int) else lastR h c k
theorem lastI_bd (h : List CallD) (c : CallD) : ∀ k, -1 ≤ lastI h c k ∧ lastI h c k < (k : Int)
  | 0 => by simp [lastI]
  | k + 1 => by
    have := lastI_bd h c k
    rw [lastI]
    split <;> omega
theorem lastR_bd (h : List CallD) (c : CallD) : ∀ k, -1 ≤ lastR h c k ∧ lastR h c k < (k : Int)
  | 0 => by simp [lastR]
  | k + 1 => by
    have := lastR_bd h c k
    rw [lastR]
    split <;> omega
theorem lastI_put (h : List CallD) (c : CallD) : ∀ k, 0 ≤ lastI h c k → (hAt h (lastI h c k).toNat).kind = 0
  | 0, h0 => by simp [lastI] at h0
  | k + 1, h0 => by
    rw [lastI] at h0 ⊢
    split at h0
    · rename_i hq
      rw [if_pos hq]
      simp only [Bool.and_eq_true, beq_iff_eq] at hq
      simpa using hq.1
    · rename_i hq
      rw [if_neg hq]
      exact lastI_put h c k h0
theorem writerB_hist {h : List CallD} (hw : writerB h = true) : histB h = true := by
  simp only [writerB, Bool.and_eq_true] at hw; exact hw.2
theorem writerB_len {h : List CallD} (hw : writerB h = true) : h.length ≤ 6 := histB_len (writerB_hist hw)
theorem writerB_sole {h : List CallD} (hw : writerB h = true) {i : Nat} (hi : i < h.length) : soleB (hAt h i) = true := by
  simp only [writerB, soleAll, Bool.and_eq_true, List.all_eq_true, List.mem_range] at hw
  have := hw.1 i hi
  simp only [rowW, Bool.and_eq_true] at this
  exact this.1
/-- Two puts of one writer: the one that begins later is behind the other one. -/
theorem puts_order {h : List CallD} (hw : writerB h = true) {i k : Nat} (hi : i < k) (hk : k < h.length) (pi : (hAt h i).kind = 0) (pk : (hAt h k).kind = 0) : decide ((hAt h i).fr < (hAt h k).fr) = befB (hAt h i) (hAt h k) := by
  have ei : h[i]? = some (h[i]'(by omega)) := List.getElem?_eq_getElem _
  have ek : h[k]? = some (h[k]'(by omega)) := List.getElem?_eq_getElem _
  have s1 := writerB_sole hw (show i < h.length by omega)
  have s2 := writerB_sole hw hk
  have c1 := histB_call (writerB_hist hw) ei
  have c2 := histB_call (writerB_hist hw) ek
  have p := histB_pair (writerB_hist hw) ek ei hi
  rw [← hAt_eq ei] at c1 p
  rw [← hAt_eq ek] at c2 p
  generalize hAt h i = o at *
  generalize hAt h k = c at *
  simp only [soleB, pi, pk, Bool.and_eq_true, Bool.or_eq_true, bne_self_eq_false, Bool.false_eq_true, false_or, Bool.not_eq_true', bne_eq_false_iff_eq] at s1 s2
  simp only [callB, Bool.and_eq_true, decide_eq_true_eq] at c1 c2
  simp only [pairB, lapB, befB, Bool.and_eq_true, Bool.not_eq_true', Bool.and_eq_false_iff, beq_eq_false_iff_ne, Bool.not_eq_false', decide_eq_true_eq, ne_eq] at p
  rw [Bool.eq_iff_iff]
  simp only [befB, decide_eq_true_eq]
  have e1 := s1.2.1.1
  have e2 := s2.2.1.1
  omega
theorem last_eq {h : List CallD} (hw : writerB h = true) (c : CallD) : ∀ k, k ≤ h.length → lastR h c k = lastI h c k
  | 0, _ => rfl
  | k + 1, hk => by
    have ih := last_eq hw c k (by omega)
    rw [lastR, lastI, ih]
    have hb := lastI_bd h c k
    have e : ((hAt h k).kind == 0 && (befB (hAt h k) c && newerR h (lastI h c k) (hAt h k))) = ((hAt h k).kind == 0 && (befB (hAt h k) c && newerI h (lastI h c k) (hAt h k))) := by
      by_cases pk : (hAt h k).kind = 0
      · by_cases hn : lastI h c k < 0
        · simp [newerR, newerI, hn]
        · have hp := lastI_put h c k (by omega)
          have := puts_order hw (show (lastI h c k).toNat < k by omega) (by omega) hp pk
          simp [newerR, newerI, hn, this]
      · have : ((hAt h k).kind == 0) = false := by simpa using pk
        rw [this]; rfl
    rw [e]
def overB (h : List CallD) (c : CallD) : Nat → Bool
  | 0 => false
  | k + 1 => overB h c k || ((hAt h k).kind == 0 && lapB (hAt h k) c)
theorem overB_mono {h : List CallD} {c : CallD} {k n : Nat} (hk : k ≤ n) (e : overB h c k = true) : overB h c n = true := by
  induction n with
  | zero => obtain rfl : k = 0 := by omega
            exact e
  | succ n ih =>
    by_cases h1 : k = n + 1
    · subst h1; exact e
    · rw [overB, ih (by omega)]; rfl
def besideB (h : List CallD) (c : CallD) : Bool := decide (0 ≤ srcB h c) && lapB (hAt h (srcB h c).toNat) c
def fineB (h : List CallD) (c : CallD) : Bool := srcB h c == lastI h c h.length
/-- A look is right: 'safe' or not. -/
def rightB (safe : Bool) (h : List CallD) (c : CallD) : Bool := fineB h c || (if safe then overB h c h.length else besideB h c)
def lookB (safe : Bool) (h : List CallD) (i : Nat) : Bool := !((hAt h i).kind == 2) || rightB safe h (hAt h i)
def noTurnB (h : List CallD) (i : Nat) : Bool := (List.range h.length).all fun k => !turnB h i k
/-- What is asked of each call: in the order of the reference. -/
def keepAt (safe atomic : Bool) (h : List CallD) (i : Nat) : Bool := lookB safe h i && (!atomic || noTurnB h i)
def keepB (safe atomic : Bool) (h : List CallD) : Bool := writerB h && (List.range h.length).all (keepAt safe atomic h)
theorem keepB_split {safe atomic : Bool} {h : List CallD} (hw : writerB h = true) : keepB safe atomic h = ((List.range h.length).all (lookB safe h) && (!atomic || (turnAt h).isNone)) := by
  rw [keepB, hw, Bool.true_and, Bool.eq_iff_iff]
  simp only [Bool.and_eq_true, List.all_eq_true, List.mem_range, keepAt, Bool.or_eq_true, Bool.not_eq_true']
  have hT : (turnAt h).isNone = true ↔ ∀ i, i < h.length → noTurnB h i = true := by
    constructor
    · intro hn i hi
      rw [Option.isNone_iff_eq_none, turnAt, List.findSome?_eq_none_iff] at hn
      have h1 := hn i (List.mem_range.2 hi)
      rw [Option.map_eq_none_iff, List.find?_eq_none] at h1
      rw [noTurnB, List.all_eq_true]
      intro k hk
      simpa using h1 k hk
    · intro ha
      rw [Option.isNone_iff_eq_none]
      exact turnAt_none (List.all_eq_true.2 fun i hi => ha i (List.mem_range.1 hi))
  rw [hT]
  constructor
  · intro ha
    refine ⟨fun i hi => (ha i hi).1, ?_⟩
    cases atomic
    · exact .inl rfl
    · exact .inr fun i hi => (ha i hi).2.resolve_left (by simp)
  · rintro ⟨ha, hb⟩ i hi
    exact ⟨ha i hi, hb.imp id (fun hb => hb i hi)⟩
end Go.Proofs.Ytoeecaeaobfhmaa
