/-
  What the law package's mark and held of slices (element: Event) do: the first writes running numbers, the second finds them. No condition but sizes.
-/
import Derived.Test.YtmeehfiekhdbkaaOwn
import Derived.Test.YtmeehfiekhdbkaaRows
namespace Go.Proofs.Ytmeehfiekhdbkaa
open Go.RowKit
set_option maxRecDepth 100000

def markEvent (k : Int) : List Value := [.int .i64 (k), .int .i64 (k + 1), .int .i64 (k + 1 + 1)]
def marksEvent (q : Int) (n : Nat) : List Int := (List.range n).map fun i : Nat => q + 3 * i
theorem markEvent_len (k : Int) : (markEvent k).length = 3 := rfl
theorem marksEvent_len (q : Int) (n : Nat) : (marksEvent q n).length = n := by simp [marksEvent]
theorem marksEvent_get {q : Int} {n k : Nat} (hk : k < n) : (marksEvent q n)[k]? = some (q + 3 * k) := by simp [marksEvent, hk]
theorem marksEvent_succ (q : Int) (k : Nat) : (marksEvent q (k + 1)).flatMap markEvent = (marksEvent q k).flatMap markEvent ++ markEvent (q + 3 * k) := by simp [marksEvent, List.range_succ]
theorem marksEvent_flat (q : Int) (k : Nat) : ((marksEvent q k).flatMap markEvent).length = k * 3 := by
  rw [flat_len _ (fun c _ => markEvent_len c), marksEvent_len]
theorem mkEvent_size_int : (Try.prog.info? 3).map (·.size) = some 1 := by kernel_rfl
theorem mkEvent_size_bool : (Try.prog.info? 4).map (·.size) = some 1 := by kernel_rfl
theorem mkEvent_tr {w a b : World} {row : Option Nat} (h : Hid (w.grownBy a row)) (k : a.grownBy b row) : Hid (w.grownBy b row) :=
  ⟨k.os.trans h.out.os, k.tape.trans h.out.tape, k.output.trans h.out.output, Nat.le_trans h.out.size k.size, fun x hx hne => (k.block x (Nat.lt_of_lt_of_le hx h.out.size) hne).trans (h.out.block x hx hne)⟩
theorem mkEvent_one (n : Int) : ∀ u ∈ [Value.int .i64 n], u.oneCell' = true := by intro u hu; simp at hu; subst hu; rfl
theorem mkEvent_oneb (b : Bool) : ∀ u ∈ [Value.bool b], u.oneCell' = true := by intro u hu; simp at hu; subst hu; rfl

set_option maxHeartbeats 2000000 in
theorem markEventS_calls (A : Option Addr) (n c base : Nat) (xs : List Value) (q : Int) (w : World) (ho : w.ownsRow base 41 3 (.slice A n c) n xs) (hq : 0 ≤ q) (hn : q + 3 * n ≤ 1099511627776) :
    Calls Try.prog 13 #[.slice A n c, .int .i64 q] w fun e w' => e = .returned (.int .i64 (q + 3 * n)) ∧ w'.ownsRow base 41 3 (.slice A n c) n ((marksEvent q n).flatMap markEvent) ∧ w.grownBy w' (Value.ownBlock (.slice A n c)) := by
  have HO := Lib.hid ho
  have hnc : n ≤ c := by
    rcases ho.2 with ⟨_, h0⟩ | ⟨g, cap, cur, hv, _, _, hl, _⟩
    · omega
    · injection hv with _ _ h3; omega
  clear ho
  have hlen : (n : Int) ≤ 1099511627776 := by omega
  go_enter Try.func13, Try.ntmps13
  go_wp2
  go_loopw [1, 5] (fun kv i wr => ∃ (k : Nat) (kk : Int), k ≤ n ∧ i = .int .i64 k ∧ kv = .int .i64 kk ∧ Hid (kk = q + 3 * k) ∧ w.grownBy wr (Value.ownBlock (.slice A n c)) ∧ Hid (∀ g, A = some ⟨g, 0, none⟩ → Fill wr g 41 (c * 3) ((marksEvent q k).flatMap markEvent))) (fun _ i _ => n - (intOf i).toNat)
  case atStart =>
    refine ⟨0, q, by omega, rfl, rfl, by show _ = _; omega, World.grownBy.refl _ _, ?_⟩
    intro g hA
    have ho := HO.out
    rcases ho.2 with ⟨h0, _⟩ | ⟨g', cap, cur, hv, _, hg, _, _, hs, _⟩
    · rw [hA] at h0; cases h0
    · injection hv with h1 _ h3
      rw [hA] at h1
      injection h1 with h1
      injection h1 with h1
      subst h1 h3
      exact ⟨cur, hg, hs, by simp [marksEvent]⟩
  case round =>
    obtain ⟨k, kk, hk, rfl, rfl, HK, hgr, HF⟩ := hrel
    by_cases hlt : k < n
    · obtain ⟨g, hA⟩ : ∃ g, A = some ⟨g, 0, none⟩ := by
        rcases HO.out.2 with ⟨_, h0⟩ | ⟨g', cap, cur, hv, _⟩
        · omega
        · injection hv with h1; exact ⟨g', h1⟩
      subst hA
      have hf0 := HF.out g rfl
      have hll := marksEvent_flat q k
      generalize hL : (marksEvent q k).flatMap markEvent = L at *
      have HL := Lib.hid hL
      have Hll := Lib.hid hll
      have Hgr : Hid (w.grownBy wr (some g)) := hgr
      clear hL hll hgr HF
      have hkk0 : (0 : Int) ≤ kk := by have := HK.out; omega
      have hkk1 : kk ≤ 1099511627776 - 3 := by have := HK.out; omega
      have hk0 : (0 : Int) ≤ (k : Int) := by omega
      have hkn : (k : Int) < (n : Int) := by omega
      go_wp2_with (first
        | (refine wpList_store_fill rfl _ _ _ rfl rfl g _ _ _ _ [.int .i64 _] rfl rfl mkEvent_size_int (mkEvent_one _) (by assumption) (by simp only [List.length_append, List.length_cons, List.length_nil, Hll.out] <;> omega) (by simp only [List.length_cons, List.length_nil]; omega) ?_; intro w1 hf1 hg1; have hp1 := mkEvent_tr (by assumption) hg1; clear hg1))
      refine ⟨⟨k + 1, _, by omega, by go_num, rfl, by show _ = _; have := HK.out; omega, hp1.out, ?_⟩, by simp [intOf]; omega⟩
      intro g' hg'
      injection hg' with hg'
      injection hg' with hg'
      subst hg'
      rw [marksEvent_succ, HL.out, ← HK.out]
      simpa [markEvent] using hf1
    · have hge : ¬ ((k : Int) < (n : Int)) := by omega
      have e1 : k = n := by omega
      subst e1
      go_wp2
      go_ret
      refine ⟨by rw [HK.out]; rfl, ?_, hgr⟩
      have ho := HO.out
      rcases ho.2 with ⟨h0, hn0⟩ | ⟨g, cap, cur, hv, hbg, _, _, hcm, _, _⟩
      · rw [h0, hn0]
        simpa [marksEvent] using World.ownsRow_nil wr base 41 3
      · injection hv with h1 _ h3
        subst h1 h3
        obtain ⟨cur', hg', hs', ht'⟩ := HF.out g rfl
        refine ⟨marksEvent_flat q k, .inr ⟨g, c, cur', rfl, hbg, hg', hnc, hcm, hs', ?_⟩⟩
        rw [marksEvent_flat] at ht'
        exact ht'

end Go.Proofs.Ytmeehfiekhdbkaa
