/-
  What the law package's equality, mark and held of copies without marks do. No condition.
-/
import Derived.Test.YtkahhcpfkebgiaaCpy
namespace Go.Proofs.Ytkahhcpfkebgiaa
open Go.RowKit
set_option maxRecDepth 100000

theorem copy_size : (Try.prog.info? 25).map (·.size) = some 6 := by kernel_rfl
/-- A copy's cells. -/
def copyL (a b : Nat) (x y z : Int) (mk : Value) : List Value := [.slice (some ⟨a, 0, none⟩) 3 3, .slice (some ⟨b, 0, none⟩) 3 3, .int .i64 x, .int .i64 y, .int .i64 z, mk]
/-- Block g is a variable that holds the copy. -/
def CpyBlk (w : World) (g a b : Nat) (x y z : Int) (mk : Value) : Prop := Fill w g 25 6 (copyL a b x y z mk)
theorem copy_one {a b : Nat} {x y z : Int} {A : Option Addr} {n c : Nat} : ∀ u ∈ copyL a b x y z (.slice A n c), u.oneCell' = true := by
  intro u hu
  simp only [copyL, List.mem_cons, List.not_mem_nil, or_false] at hu
  rcases hu with rfl | rfl | rfl | rfl | rfl | rfl <;> rfl
theorem fill_cpy (w : World) (cur : Array Value) (h : cur.size = 6) : Fill (w.alloc (.cells cur 25)) w.heap.size 25 6 [] := ⟨cur, heap_alloc_new _ _, h, rfl⟩

set_option maxHeartbeats 1000000 in
theorem specNewCopy_calls (w : World) :
    Calls Try.prog 6 #[] w fun e w' => MadeCopy w w' e fun m => ∃ A, m = .slice A 0 0 := by
  go_enter Try.func6, Try.ntmps6
  go_wp2_with fail
  have f0 := fill_cpy w #[.slice none 0 0, .slice none 0 0, .int .i64 0, .int .i64 0, .int .i64 0, .slice none 0 0] rfl
  refine (specnewCopy_calls _).mono ?_
  rintro e w1 ⟨a, b, m, hab, ha, hb, ⟨A, rfl⟩, fa, fb, hbel, rfl⟩
  have f1 := f0.below hbel f0.lt
  have hw1 : Below w.heap.size w w1 := (below_alloc (Below.refl _ _) _).trans (hbel.mono (by simp))
  simp only [World.size_alloc] at ha hb
  clear f0 hbel
  have HFA := Lib.hid fa
  have HFB := Lib.hid fb
  have HW := Lib.hid hw1
  clear fa fb hw1
  simp only [copyV]
  go_wp2_with (first | (refine wpList_store_fill rfl _ _ _ rfl rfl w.heap.size 0 _ 6 [] (copyL a b 0 0 0 (.slice A 0 0)) rfl rfl copy_size copy_one f1 rfl (by simp [copyL]) ?_; intro w2 hf2 hg2))
  have x0 := hf2.cell (i := 0) rfl
  have x1 := hf2.cell (i := 1) rfl
  have x2 := hf2.cell (i := 2) rfl
  have x3 := hf2.cell (i := 3) rfl
  have x4 := hf2.cell (i := 4) rfl
  have x5 := hf2.cell (i := 5) rfl
  refine bodyPost_ret (v := copyV a b 0 0 0 (.slice A 0 0)) (by simp [results, Try.results6, go_sem, copyV, x0, x1, x2, x3, x4, x5]) rfl ?_
  exact ⟨a, b, _, hab, by omega, by omega, ⟨_, rfl⟩, HFA.out.grown hg2 (by simp; omega), HFB.out.grown hg2 (by simp; omega), HW.out.grown hg2 (HW.out.size) (by intro k hk; injection hk with hk; omega), rfl⟩

theorem eqMarkS_none (A B : Option Addr) (c d : Nat) (w : World) : Calls Try.prog 19 #[.slice A 0 c, .slice B 0 d] w fun e w' => e = .returned (.bool true) ∧ w = w' := by
  go_enter Try.func19, Try.ntmps19
  go_wp2
  go_loop [5] (fun i => i = .int .i64 0) (fun _ => 0)
  case atStart => rfl
  case round =>
    subst hrel
    go_wp2
    go_ret
    exact ⟨rfl, rfl⟩
theorem markMarkS_none (A : Option Addr) (c : Nat) (q : Int) (w : World) : Calls Try.prog 21 #[.slice A 0 c, .int .i64 q] w fun e w' => e = .returned (.int .i64 q) ∧ w = w' := by
  go_enter Try.func21, Try.ntmps21
  go_wp2
  go_loop [1, 5] (fun kv i => i = .int .i64 0 ∧ kv = .int .i64 q) (fun _ _ => 0)
  case atStart => exact ⟨rfl, rfl⟩
  case round =>
    obtain ⟨rfl, rfl⟩ := hrel
    go_wp2
    go_ret
    exact ⟨rfl, rfl⟩
theorem heldMarkS_none (A : Option Addr) (c : Nat) (q : Int) (w : World) : Calls Try.prog 23 #[.slice A 0 c, .int .i64 q] w fun e w' => e = .returned (.int .i64 q) ∧ w = w' := by
  go_enter Try.func23, Try.ntmps23
  go_wp2
  go_loop [1, 5] (fun kv i => i = .int .i64 0 ∧ kv = .int .i64 q) (fun _ _ => 0)
  case atStart => exact ⟨rfl, rfl⟩
  case round =>
    obtain ⟨rfl, rfl⟩ := hrel
    go_wp2
    go_ret
    exact ⟨rfl, rfl⟩

end Go.Proofs.Ytkahhcpfkebgiaa
