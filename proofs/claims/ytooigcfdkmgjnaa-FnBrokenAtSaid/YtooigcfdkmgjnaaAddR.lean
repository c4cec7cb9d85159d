/-
  What adding a read does to the program's struct of sessions. Asked: sets less than 2 to the 20.
-/
import Derived.Test.YtooigcfdkmgjnaaSessB
namespace Go.Proofs.Ytooigcfdkmgjnaa
open Go.RowKit
set_option maxRecDepth 100000

theorem sess_grown (w : World) (g i : Nat) (u : Value) : w.grownBy (w.setCell ⟨g, i, none⟩ u) (some g) := by
  refine ⟨rfl, rfl, rfl, by simp [World.setCell], fun j hj hne => ?_⟩
  have hgj : g ≠ j := fun e => hne (by rw [e])
  simp [World.setCell, Array.getElem?_modify, hgj]
set_option maxHeartbeats 1000000 in
theorem addRead_calls (g s sn : Nat) (m h : Nat → Nat) (row fol cau : Value) (w : World) (k : SessBlk w g m h row fol cau) (hs : s < 3) (h1 : sn < 2 ^ 20) (h2 : h s < 2 ^ 20) :
    Calls Try.prog 50 #[.pointer (some ⟨g, 0, none⟩), .agg #[.int .i64 s, .bool false, .int .i64 sn]] w fun e w' => e = .returned (.tuple #[]) ∧ SessBlk w' g m (upd h s (h s ||| sn)) row fol cau ∧ w.grownBy w' (some g) := by
  have hor := i64_or_nat (h s) sn (by omega) (by omega)
  have hgz := k.lt
  have hne : g ≠ w.heap.size := by omega
  have hf := k.free (3 + s)
  have K := Lib.hid (k.had_ s (h s ||| sn) hs)
  have hc : w.cell? ⟨g, 3 + s, none⟩ = some (.int .i64 (h s)) := by
    rw [k.cell]
    have : s = 0 ∨ s = 1 ∨ s = 2 := by omega
    rcases this with rfl | rfl | rfl <;> rfl
  have hG : w.grownBy (w.setCell ⟨g, 3 + s, none⟩ (.int .i64 ((h s ||| sn : Nat) : Int))) (some g) := sess_grown w g (3 + s) _
  have HG := Lib.hid hG
  clear k hG
  have hs0 : (0 : Int) ≤ (s : Int) := by omega
  have hs3 : (s : Int) < 3 := by omega
  generalize h s = hv at *
  go_enter Try.func50, Try.ntmps50
  go_wp2_with fail
  go_region
  all_goals go_wp2
  refine bodyPost_ret (v := .tuple #[]) (by simp [results, Try.results50, go_sem]) rfl ⟨rfl, ?_⟩
  have kg := HG.out.trans (World.grownBy_alloc _ (Obj.cells #[Value.int IntKind.i64 ↑s, Value.bool false, Value.int IntKind.i64 ↑sn] 44) _)
  refine ⟨?_, ⟨kg.os, kg.tape, kg.output, kg.size, kg.block⟩⟩
  have hk := K.out
  unfold SessBlk at hk ⊢
  exact (heap_alloc_old _ _ (by simpa using hgz)).trans hk
end Go.Proofs.Ytooigcfdkmgjnaa
