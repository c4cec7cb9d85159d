/-
  What making a copy leaves, in the program and in the reference. No condition.
-/
import Derived.Test.YtkahhcpfkebgiaaMkInt
import Derived.Test.YtkahhcpfkebgiaaHeInt
import Derived.Test.YtkahhcpfkebgiaaIntS
import Derived.Deep.DrawnRows
namespace Go.Proofs.Ytkahhcpfkebgiaa
open Go.RowKit
set_option maxRecDepth 100000

/-- A copy's value. -/
def copyV (a b : Nat) (x y z : Int) (mk : Value) : Value := .agg #[.slice (some ⟨a, 0, none⟩) 3 3, .slice (some ⟨b, 0, none⟩) 3 3, .int .i64 x, .int .i64 y, .int .i64 z, mk]
def zero3 : List Value := [.int .i64 0, .int .i64 0, .int .i64 0]
/-- What making a copy leaves: two rows of three noughts, new, apart. -/
def MadeCopy (w w' : World) (e : Ending) (mk : Value → Prop) : Prop :=
  ∃ a b m, a ≠ b ∧ w.heap.size ≤ a ∧ w.heap.size ≤ b ∧ mk m ∧ Fill w' a 3 3 zero3 ∧ Fill w' b 3 3 zero3 ∧ Below w.heap.size w w' ∧ e = .returned (copyV a b 0 0 0 m)

abbrev zeroRow : Obj := .cells #[.int .i64 0, .int .i64 0, .int .i64 0] 3
theorem fill_at {w : World} {g : Nat} (h : w.heap.size = g) : Fill (w.alloc zeroRow) g 3 3 zero3 := by
  subst h
  exact ⟨_, heap_alloc_new _ _, rfl, rfl⟩
theorem fill_on {w : World} {g : Nat} (o : Obj) (h : Fill w g 3 3 zero3) : Fill (w.alloc o) g 3 3 zero3 := h.below (below_alloc (Below.refl _ _) _) h.lt

set_option maxHeartbeats 2000000 in
theorem implNewCopy_calls (w : World) :
    Calls Try.prog 7 #[] w fun e w' => MadeCopy w w' e fun m => m = .slice none 0 0 := by
  have hmk : ∀ w : World, (Instr.makeSlice 22 (.int .i64 3) (.int .i64 3)).run Try.prog w = .ok (.slice (some ⟨w.heap.size, 0, none⟩) 3 3) (w.alloc (.cells #[.int .i64 0, .int .i64 0, .int .i64 0] 3)) := fun _ => by kernel_rfl
  go_enter Try.func7, Try.ntmps7
  go_wp2_with fail
  go_region
  all_goals go_wp2
  · refine bodyPost_ret (v := copyV (w.heap.size + 1) (w.heap.size + 1 + 1) 0 0 0 (.slice none 0 0)) (by simp [results, Try.results7, go_sem, copyV]) rfl ?_
    exact ⟨_, _, _, by omega, by omega, by omega, rfl, (by first | (refine Fill.drew (fill_at ?_); simp only [World.size_alloc]; done) | (refine Fill.drew (fill_on _ (fill_at ?_)); simp only [World.size_alloc]; done) | (refine Fill.drew (fill_on _ (fill_on _ (fill_at ?_))); simp only [World.size_alloc]; done)), (by first | (refine Fill.drew (fill_at ?_); simp only [World.size_alloc]; done) | (refine Fill.drew (fill_on _ (fill_at ?_)); simp only [World.size_alloc]; done) | (refine Fill.drew (fill_on _ (fill_on _ (fill_at ?_))); simp only [World.size_alloc]; done)), (by repeat (first | exact Below.refl _ _ | assumption | refine below_alloc ?_ _ | refine below_trans' ?_ (by assumption) | refine Below.drew ?_)), rfl⟩
  · refine bodyPost_ret (v := copyV (w.heap.size + 1 + 1) (w.heap.size + 1) 0 0 0 (.slice none 0 0)) (by simp [results, Try.results7, go_sem, copyV]) rfl ?_
    exact ⟨_, _, _, by omega, by omega, by omega, rfl, (by first | (refine Fill.drew (fill_at ?_); simp only [World.size_alloc]; done) | (refine Fill.drew (fill_on _ (fill_at ?_)); simp only [World.size_alloc]; done) | (refine Fill.drew (fill_on _ (fill_on _ (fill_at ?_))); simp only [World.size_alloc]; done)), (by first | (refine Fill.drew (fill_at ?_); simp only [World.size_alloc]; done) | (refine Fill.drew (fill_on _ (fill_at ?_)); simp only [World.size_alloc]; done) | (refine Fill.drew (fill_on _ (fill_on _ (fill_at ?_))); simp only [World.size_alloc]; done)), (by repeat (first | exact Below.refl _ _ | assumption | refine below_alloc ?_ _ | refine below_trans' ?_ (by assumption) | refine Below.drew ?_)), rfl⟩

set_option maxHeartbeats 2000000 in
theorem specnewCopy_calls (w : World) :
    Calls Try.prog 17 #[] w fun e w' => MadeCopy w w' e fun m => ∃ A, m = .slice A 0 0 := by
  have hmk : ∀ w : World, (Instr.makeSlice 22 (.int .i64 3) (.int .i64 3)).run Try.prog w = .ok (.slice (some ⟨w.heap.size, 0, none⟩) 3 3) (w.alloc (.cells #[.int .i64 0, .int .i64 0, .int .i64 0] 3)) := fun _ => by kernel_rfl
  go_enter Try.func17, Try.ntmps17
  go_wp2_with fail
  go_region
  all_goals go_wp2
  · refine bodyPost_ret (v := copyV (w.heap.size + 1) (w.heap.size + 1 + 1) 0 0 0 (.slice (some ⟨(w.heap.size + 1 + 1 + 1), 0, none⟩) 0 0)) (by simp [results, Try.results17, go_sem, copyV]) rfl ?_
    exact ⟨_, _, _, by omega, by omega, by omega, ⟨_, rfl⟩, (by first | (refine Fill.drew (fill_at ?_); simp only [World.size_alloc]; done) | (refine Fill.drew (fill_on _ (fill_at ?_)); simp only [World.size_alloc]; done) | (refine Fill.drew (fill_on _ (fill_on _ (fill_at ?_))); simp only [World.size_alloc]; done)), (by first | (refine Fill.drew (fill_at ?_); simp only [World.size_alloc]; done) | (refine Fill.drew (fill_on _ (fill_at ?_)); simp only [World.size_alloc]; done) | (refine Fill.drew (fill_on _ (fill_on _ (fill_at ?_))); simp only [World.size_alloc]; done)), (by repeat (first | exact Below.refl _ _ | assumption | refine below_alloc ?_ _ | refine below_trans' ?_ (by assumption) | refine Below.drew ?_)), rfl⟩
  · refine bodyPost_ret (v := copyV (w.heap.size + 1) (w.heap.size + 1 + 1 + 1) 0 0 0 (.slice (some ⟨(w.heap.size + 1 + 1), 0, none⟩) 0 0)) (by simp [results, Try.results17, go_sem, copyV]) rfl ?_
    exact ⟨_, _, _, by omega, by omega, by omega, ⟨_, rfl⟩, (by first | (refine Fill.drew (fill_at ?_); simp only [World.size_alloc]; done) | (refine Fill.drew (fill_on _ (fill_at ?_)); simp only [World.size_alloc]; done) | (refine Fill.drew (fill_on _ (fill_on _ (fill_at ?_))); simp only [World.size_alloc]; done)), (by first | (refine Fill.drew (fill_at ?_); simp only [World.size_alloc]; done) | (refine Fill.drew (fill_on _ (fill_at ?_)); simp only [World.size_alloc]; done) | (refine Fill.drew (fill_on _ (fill_on _ (fill_at ?_))); simp only [World.size_alloc]; done)), (by repeat (first | exact Below.refl _ _ | assumption | refine below_alloc ?_ _ | refine below_trans' ?_ (by assumption) | refine Below.drew ?_)), rfl⟩
  · refine bodyPost_ret (v := copyV (w.heap.size + 1 + 1) (w.heap.size + 1) 0 0 0 (.slice (some ⟨(w.heap.size + 1 + 1 + 1), 0, none⟩) 0 0)) (by simp [results, Try.results17, go_sem, copyV]) rfl ?_
    exact ⟨_, _, _, by omega, by omega, by omega, ⟨_, rfl⟩, (by first | (refine Fill.drew (fill_at ?_); simp only [World.size_alloc]; done) | (refine Fill.drew (fill_on _ (fill_at ?_)); simp only [World.size_alloc]; done) | (refine Fill.drew (fill_on _ (fill_on _ (fill_at ?_))); simp only [World.size_alloc]; done)), (by first | (refine Fill.drew (fill_at ?_); simp only [World.size_alloc]; done) | (refine Fill.drew (fill_on _ (fill_at ?_)); simp only [World.size_alloc]; done) | (refine Fill.drew (fill_on _ (fill_on _ (fill_at ?_))); simp only [World.size_alloc]; done)), (by repeat (first | exact Below.refl _ _ | assumption | refine below_alloc ?_ _ | refine below_trans' ?_ (by assumption) | refine Below.drew ?_)), rfl⟩
  · refine bodyPost_ret (v := copyV (w.heap.size + 1 + 1 + 1) (w.heap.size + 1) 0 0 0 (.slice (some ⟨(w.heap.size + 1 + 1), 0, none⟩) 0 0)) (by simp [results, Try.results17, go_sem, copyV]) rfl ?_
    exact ⟨_, _, _, by omega, by omega, by omega, ⟨_, rfl⟩, (by first | (refine Fill.drew (fill_at ?_); simp only [World.size_alloc]; done) | (refine Fill.drew (fill_on _ (fill_at ?_)); simp only [World.size_alloc]; done) | (refine Fill.drew (fill_on _ (fill_on _ (fill_at ?_))); simp only [World.size_alloc]; done)), (by first | (refine Fill.drew (fill_at ?_); simp only [World.size_alloc]; done) | (refine Fill.drew (fill_on _ (fill_at ?_)); simp only [World.size_alloc]; done) | (refine Fill.drew (fill_on _ (fill_on _ (fill_at ?_))); simp only [World.size_alloc]; done)), (by repeat (first | exact Below.refl _ _ | assumption | refine below_alloc ?_ _ | refine below_trans' ?_ (by assumption) | refine Below.drew ?_)), rfl⟩
  · refine bodyPost_ret (v := copyV (w.heap.size + 1 + 1) (w.heap.size + 1 + 1 + 1) 0 0 0 (.slice (some ⟨(w.heap.size + 1), 0, none⟩) 0 0)) (by simp [results, Try.results17, go_sem, copyV]) rfl ?_
    exact ⟨_, _, _, by omega, by omega, by omega, ⟨_, rfl⟩, (by first | (refine Fill.drew (fill_at ?_); simp only [World.size_alloc]; done) | (refine Fill.drew (fill_on _ (fill_at ?_)); simp only [World.size_alloc]; done) | (refine Fill.drew (fill_on _ (fill_on _ (fill_at ?_))); simp only [World.size_alloc]; done)), (by first | (refine Fill.drew (fill_at ?_); simp only [World.size_alloc]; done) | (refine Fill.drew (fill_on _ (fill_at ?_)); simp only [World.size_alloc]; done) | (refine Fill.drew (fill_on _ (fill_on _ (fill_at ?_))); simp only [World.size_alloc]; done)), (by repeat (first | exact Below.refl _ _ | assumption | refine below_alloc ?_ _ | refine below_trans' ?_ (by assumption) | refine Below.drew ?_)), rfl⟩
  · refine bodyPost_ret (v := copyV (w.heap.size + 1 + 1 + 1) (w.heap.size + 1 + 1) 0 0 0 (.slice (some ⟨(w.heap.size + 1), 0, none⟩) 0 0)) (by simp [results, Try.results17, go_sem, copyV]) rfl ?_
    exact ⟨_, _, _, by omega, by omega, by omega, ⟨_, rfl⟩, (by first | (refine Fill.drew (fill_at ?_); simp only [World.size_alloc]; done) | (refine Fill.drew (fill_on _ (fill_at ?_)); simp only [World.size_alloc]; done) | (refine Fill.drew (fill_on _ (fill_on _ (fill_at ?_))); simp only [World.size_alloc]; done)), (by first | (refine Fill.drew (fill_at ?_); simp only [World.size_alloc]; done) | (refine Fill.drew (fill_on _ (fill_at ?_)); simp only [World.size_alloc]; done) | (refine Fill.drew (fill_on _ (fill_on _ (fill_at ?_))); simp only [World.size_alloc]; done)), (by repeat (first | exact Below.refl _ _ | assumption | refine below_alloc ?_ _ | refine below_trans' ?_ (by assumption) | refine Below.drew ?_)), rfl⟩
end Go.Proofs.Ytkahhcpfkebgiaa
