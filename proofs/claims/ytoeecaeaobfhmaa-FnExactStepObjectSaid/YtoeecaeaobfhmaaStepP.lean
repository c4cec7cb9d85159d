/-
  The objects as Lean functions: their names, what a call makes of a state, the right answer. No condition.
-/
import Derived.Test.YtoeecaeaobfhmaaIn
namespace Go.Proofs.Ytoeecaeaobfhmaa
open Go.RowKit

inductive Ob where
  | register
  | queue
  | stack
  | counter
  | set
  | most

def Ob.text : Ob → List UInt8
  | .register => [114, 101, 103, 105, 115, 116, 101, 114]
  | .queue => [113, 117, 101, 117, 101]
  | .stack => [115, 116, 97, 99, 107]
  | .counter => [99, 111, 117, 110, 116, 101, 114]
  | .set => [115, 101, 116]
  | .most => [109, 111, 115, 116]

/-- The object of a name. -/
def obOf (s : ByteArray) : Option Ob :=
  if s.toList = Ob.text .register then some .register else if s.toList = Ob.text .queue then some .queue else if s.toList = Ob.text .stack then some .stack else
  if s.toList = Ob.text .counter then some .counter else if s.toList = Ob.text .set then some .set else if s.toList = Ob.text .most then some .most else none

theorem obOf_text {s : ByteArray} {o : Ob} (h : obOf s = some o) : s.toList = o.text := by
  unfold obOf at h
  split at h
  · next e => injection h with h; subst h; exact e
  split at h
  · next e => injection h with h; subst h; exact e
  split at h
  · next e => injection h with h; subst h; exact e
  split at h
  · next e => injection h with h; subst h; exact e
  split at h
  · next e => injection h with h; subst h; exact e
  split at h
  · next e => injection h with h; subst h; exact e
  cases h
theorem obOf_none {s : ByteArray} (h : obOf s = none) : ∀ o, ¬ s.toList = Ob.text o := by
  unfold obOf at h
  intro o
  split at h
  · cases h
  split at h
  · cases h
  split at h
  · cases h
  split at h
  · cases h
  split at h
  · cases h
  split at h
  · cases h
  cases o <;> assumption

/-- The state behind a call of a kind with a number. -/
def stepS : Ob → List Int → Int → Int → List Int
  | .register, st, k, a => if k = 0 then [a] else if k = 2 then st else []
  | .counter, st, k, a => if k = 0 then (if st.length = 0 then [a] else [wrap64 (st.headD 0 + a)]) else if k = 2 then st else []
  | .most, st, k, a => if k = 0 then (if 0 < st.length ∧ a < st.headD 0 then st else [a]) else if k = 2 then st else []
  | .set, st, k, a => if k = 0 then (if st.any (· == a) then st else st ++ [a]) else if k = 2 then st else st.erase a
  | .queue, st, k, a => if k = 0 then st ++ [a] else if k = 2 then st else st.tail
  | .stack, st, k, a => if k = 0 then st ++ [a] else if k = 2 then st else st.dropLast
/-- The right answer. -/
def stepA : Ob → List Int → Int → Int → Int
  | .queue, st, k, _ => if k = 0 then 0 else if st.length = 0 then -1 else st.headD 0
  | .stack, st, k, _ => if k = 0 then 0 else if st.length = 0 then -1 else st.getD (st.length - 1) 0
  | .set, st, k, a => if k = 0 then (if st.any (· == a) then 0 else 1) else if st.any (· == a) then 1 else 0
  | _, st, k, _ => if k = 0 then 0 else st.headD 0
end Go.Proofs.Ytoeecaeaobfhmaa
