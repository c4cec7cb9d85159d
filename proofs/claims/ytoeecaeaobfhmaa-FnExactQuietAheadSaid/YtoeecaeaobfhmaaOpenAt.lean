/-
  How many calls are open at a time, of the program. No condition but lengths of at most 2 to the 20.
-/
import Derived.Test.YtoeecaeaobfhmaaHist
import Derived.Test.YtoeecaeaobfhmaaWidthP
namespace Go.Proofs.Ytoeecaeaobfhmaa
open Go.RowKit
set_option maxRecDepth 100000

set_option maxHeartbeats 1000000 in
theorem openAt_calls (cs : List CallD) (A : Option Addr) (cap : Nat) (t : Int) (w : World) (hr : RowCalls w A cs) (hl : cs.length ≤ 1048576) :
    Calls Try.prog 55 #[.slice A cs.length cap, .int .i64 t] w fun e w' => e = .returned (.int .i64 (openN cs t)) ∧ Below w.heap.size w w' := by
  have HR := Lib.hid hr
  clear hr
  generalize hn : cs.length = n at *
  have Hn := Lib.hid hn
  clear hn
  have hlen : (n : Int) ≤ 1048576 := by omega
  go_enter Try.func55, Try.ntmps55
  go_wp2
  go_loopw [5, 10] (fun m i wr => ∃ k : Nat, k ≤ n ∧ i = .int .i64 k ∧ m = .int .i64 (openTo cs t k) ∧ Below w.heap.size w wr) (fun _ i _ => n - (intOf i).toNat)
  case atStart => exact ⟨0, by omega, rfl, rfl, Below.refl _ _⟩
  case round =>
    obtain ⟨k, hk, rfl, rfl, hb⟩ := hrel
    have hle := openTo_le (h := cs) (t := t) (k := k)
    by_cases hlt : k < n
    · obtain ⟨b0, off, rfl, hat⟩ := HR.out (by have := Hn.out; omega)
      obtain ⟨c, hc⟩ : ∃ c, cs[k]? = some c := ⟨cs[k]'(by have := Hn.out; omega), List.getElem?_eq_getElem _⟩
      obtain ⟨x0, x1, x2, x3, x4, x5, x6⟩ := (RowCalls.at7 hat hc).below hb
      have hst := openTo_succ (t := t) hc
      generalize openTo cs t k = m at *
      have Hst := Lib.hid hst
      have Hb := Lib.hid hb
      clear HR hat hc hb hst
      have hk0 : (0 : Int) ≤ (k : Int) := by omega
      have hkn : (k : Int) < (n : Int) := by omega
      have hm : (m : Int) ≤ 1048576 := by omega
      have hm0 : (0 : Int) ≤ (m : Int) := by omega
      by_cases h1 : c.fr ≤ t
      · by_cases h2 : t < c.till
        · go_wp2
          go_roundw
          case rel => exact ⟨k + 1, by omega, by go_num, by rw [Hst.out, show openB t c = true by simp [openB, h1, h2], if_pos rfl]; go_num, below_alloc Hb.out _⟩
          case measure => simp [intOf]; omega
        · go_wp2
          go_roundw
          case rel => exact ⟨k + 1, by omega, by go_num, by rw [Hst.out, show openB t c = false by (simp [openB]; omega), if_neg (by simp)]; rfl, below_alloc Hb.out _⟩
          case measure => simp [intOf]; omega
      · go_wp2
        go_roundw
        case rel => exact ⟨k + 1, by omega, by go_num, by rw [Hst.out, show openB t c = false by (simp [openB]; omega), if_neg (by simp)]; rfl, below_alloc Hb.out _⟩
        case measure => simp [intOf]; omega
    · have hge : ¬ ((k : Int) < (n : Int)) := by omega
      have e1 := openTo_all (h := cs) (t := t) (n := k) (by rw [Hn.out]; omega)
      have E1 := Lib.hid e1
      clear e1
      go_wp2
      go_ret
      exact ⟨by rw [← E1.out]; rfl, hb⟩
end Go.Proofs.Ytoeecaeaobfhmaa
