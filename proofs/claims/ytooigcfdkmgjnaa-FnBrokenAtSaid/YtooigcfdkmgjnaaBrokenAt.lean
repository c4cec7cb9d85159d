/-
  What BrokenAt answers, of the program and of the reference: the same Lean function. No condition but lengths of at most 2 to the 20.
-/
import Derived.Test.YtooigcfdkmgjnaaBrokenIown
import Derived.Test.YtooigcfdkmgjnaaBrokenIsteady
import Derived.Test.YtooigcfdkmgjnaaBrokenIrow
import Derived.Test.YtooigcfdkmgjnaaBrokenIfollow
import Derived.Test.YtooigcfdkmgjnaaBrokenSown
import Derived.Test.YtooigcfdkmgjnaaBrokenSsteady
import Derived.Test.YtooigcfdkmgjnaaBrokenSrow
import Derived.Test.YtooigcfdkmgjnaaBrokenSfollow
namespace Go.Proofs.Ytooigcfdkmgjnaa
open Go.RowKit
set_option maxRecDepth 100000


theorem broken_none (p : ByteArray) (h1 : ¬ p.toList = [111, 119, 110]) (h2 : ¬ p.toList = [115, 116, 101, 97, 100, 121]) (h3 : ¬ p.toList = [114, 111, 119]) (h4 : ¬ p.toList = [102, 111, 108, 108, 111, 119]) (A : Option Addr) (n cap i : Nat) (w : World) :
    Calls Try.prog 52 #[.string p, .slice A n cap, .int .i64 i] w fun e w' => e = .returned (.tuple #[.bool false, .bool false]) ∧ w = w' := by
  have g1 : (p.toList == [111, 119, 110]) = false := by simpa using h1
  have g2 : (p.toList == [115, 116, 101, 97, 100, 121]) = false := by simpa using h2
  have g3 : (p.toList == [114, 111, 119]) = false := by simpa using h3
  have g4 : (p.toList == [102, 111, 108, 108, 111, 119]) = false := by simpa using h4
  go_enter Try.func52, Try.ntmps52
  go_wp2_with fail
  go_ret2
  exact ⟨rfl, rfl⟩
theorem specBroken_none (p : ByteArray) (h1 : ¬ p.toList = [111, 119, 110]) (h2 : ¬ p.toList = [115, 116, 101, 97, 100, 121]) (h3 : ¬ p.toList = [114, 111, 119]) (h4 : ¬ p.toList = [102, 111, 108, 108, 111, 119]) (A : Option Addr) (n cap : Nat) (w : World) :
    Calls Try.prog 30 #[.string p, .slice A n cap] w fun e w' => e = .returned (pairV (-1, false)) ∧ Below w.heap.size w w' := by
  have HB := Lib.hid (fun (A : Option Addr) (n cap : Nat) (w : World) => broken_none p h1 h2 h3 h4 A n cap 0 w)
  clear h1 h2 h3 h4
  go_enter Try.func30, Try.ntmps30
  go_wp2_with fail
  refine (HB.out _ _ _ _).mono ?_
  rintro e w1 ⟨rfl, rfl⟩
  go_wp2_with fail
  go_ret2
  exact ⟨rfl, below_alloc (Below.refl _ _) _⟩
theorem implBroken_none (p : ByteArray) (h1 : ¬ p.toList = [111, 119, 110]) (h2 : ¬ p.toList = [115, 116, 101, 97, 100, 121]) (h3 : ¬ p.toList = [114, 111, 119]) (h4 : ¬ p.toList = [102, 111, 108, 108, 111, 119]) (cs : List AccessD) (A : Option Addr) (n cap : Nat) (w : World) (hr : RowAccesss w A cs) (hn : cs.length = n) (hl : n ≤ 1048576) (hcap : n ≤ cap) :
    Calls Try.prog 31 #[.string p, .slice A n cap] w fun e w' => e = .returned (pairV (-1, false)) ∧ Below w.heap.size w w' := by
  obtain ⟨b, hb⟩ : ∃ b, accB cs = b := ⟨_, rfl⟩
  have HW := Lib.hid (hn ▸ implValidAccesses_calls cs A cap w hr (by omega) (by omega) b hb)
  have HIn := Lib.hid (fun (W : World) => contains_str pr4 p W.heap.size 4 4 _ (pr4_cells W) rfl (by omega) false (in_none h1 h2 h3 h4))
  clear h1 h2 h3 h4 hr hn hb
  cases b
  · go_enter Try.func31, Try.ntmps31
    go_wp2_with fail
    refine HW.out.mono ?_
    rintro e w1 ⟨rfl, hb1⟩
    go_wp2_with fail
    go_ret2
    exact ⟨rfl, hb1⟩
  · go_enter Try.func31, Try.ntmps31
    go_wp2_with fail
    refine HW.out.mono ?_
    rintro e w1 ⟨rfl, hb1⟩
    go_wp2_with fail
    refine (HIn.out w1).mono ?_
    rintro e w2 ⟨rfl, rfl⟩
    go_wp2_with fail
    go_ret2
    exact ⟨rfl, below_alloc hb1 _⟩

/-- The promise of a name. -/
def prOf (p : ByteArray) : Option Pr := if p.toList = [111, 119, 110] then some .own else if p.toList = [115, 116, 101, 97, 100, 121] then some .steady else if p.toList = [114, 111, 119] then some .row else if p.toList = [102, 111, 108, 108, 111, 119] then some .follow else none
theorem implBrokenAt_calls (p : ByteArray) (cs : List AccessD) (A : Option Addr) (n cap : Nat) (w : World) (hr : RowAccesss w A cs) (hn : cs.length = n) (hl : n ≤ 1048576) (hcap : n ≤ cap) (v : Int × Bool) (hv : brokeV (prOf p) cs = v) :
    Calls Try.prog 31 #[.string p, .slice A n cap] w fun e w' => e = .returned (pairV v) ∧ Below w.heap.size w w' := by
  unfold prOf at hv
  by_cases h1 : p.toList = [111, 119, 110]
  · rw [if_pos h1] at hv; exact implBroken_own p h1 cs A n cap w hr hn hl hcap v hv
  by_cases h2 : p.toList = [115, 116, 101, 97, 100, 121]
  · rw [if_neg h1, if_pos h2] at hv; exact implBroken_steady p h2 cs A n cap w hr hn hl hcap v hv
  by_cases h3 : p.toList = [114, 111, 119]
  · rw [if_neg h1, if_neg h2, if_pos h3] at hv; exact implBroken_row p h3 cs A n cap w hr hn hl hcap v hv
  by_cases h4 : p.toList = [102, 111, 108, 108, 111, 119]
  · rw [if_neg h1, if_neg h2, if_neg h3, if_pos h4] at hv; exact implBroken_follow p h4 cs A n cap w hr hn hl hcap v hv
  · rw [if_neg h1, if_neg h2, if_neg h3, if_neg h4] at hv
    subst hv
    exact implBroken_none p h1 h2 h3 h4 cs A n cap w hr hn hl hcap
theorem specBrokenAt_calls (p : ByteArray) (cs : List AccessD) (A : Option Addr) (n cap : Nat) (w : World) (hr : RowAccesss w A cs) (hn : cs.length = n) (hl : n ≤ 1048576) (v : Int × Bool) (hv : brokeV (prOf p) cs = v) :
    Calls Try.prog 30 #[.string p, .slice A n cap] w fun e w' => e = .returned (pairV v) ∧ Below w.heap.size w w' := by
  unfold prOf at hv
  by_cases h1 : p.toList = [111, 119, 110]
  · rw [if_pos h1] at hv; exact specBroken_own p h1 cs A n cap w hr hn hl v hv
  by_cases h2 : p.toList = [115, 116, 101, 97, 100, 121]
  · rw [if_neg h1, if_pos h2] at hv; exact specBroken_steady p h2 cs A n cap w hr hn hl v hv
  by_cases h3 : p.toList = [114, 111, 119]
  · rw [if_neg h1, if_neg h2, if_pos h3] at hv; exact specBroken_row p h3 cs A n cap w hr hn hl v hv
  by_cases h4 : p.toList = [102, 111, 108, 108, 111, 119]
  · rw [if_neg h1, if_neg h2, if_neg h3, if_pos h4] at hv; exact specBroken_follow p h4 cs A n cap w hr hn hl v hv
  · rw [if_neg h1, if_neg h2, if_neg h3, if_neg h4] at hv
    subst hv
    exact specBroken_none p h1 h2 h3 h4 A n cap w
end Go.Proofs.Ytooigcfdkmgjnaa
