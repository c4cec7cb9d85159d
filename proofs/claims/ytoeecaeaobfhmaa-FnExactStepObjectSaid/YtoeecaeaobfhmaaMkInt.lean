/-
  What the law package's mark and held of slices (element: Int) do: the first writes running numbers, the second finds them. No condition but sizes.
-/
import Derived.Test.YtoeecaeaobfhmaaOwn
import Derived.Test.YtoeecaeaobfhmaaRows
namespace Go.Proofs.Ytoeecaeaobfhmaa
open Go.RowKit
set_option maxRecDepth 100000

def markInt (k : Int) : List Value := [.int .i64 (k)]
def marksInt (q : Int) (n : Nat) : List Int := (List.range n).map fun i : Nat => q + i
theorem markInt_len (k : Int) : (markInt k).length = 1 := rfl
theorem marksInt_len (q : Int) (n : Nat) : (marksInt q n).length = n := by simp [marksInt]
theorem marksInt_get {q : Int} {n k : Nat} (hk : k < n) : (marksInt q n)[k]? = some (q + k) := by simp [marksInt, hk]
theorem marksInt_succ (q : Int) (k : Nat) : (marksInt q (k + 1)).flatMap markInt = (marksInt q k).flatMap markInt ++ markInt (q + k) := by simp [marksInt, List.range_succ]
theorem marksInt_flat (q : Int) (k : Nat) : ((marksInt q k).flatMap markInt).length = k * 1 := by
  rw [flat_len _ (fun c _ => markInt_len c), marksInt_len]
theorem mkInt_size_int : (Try.prog.info? 3).map (·.size) = some 1 := by kernel_rfl
theorem mkInt_size_bool : (Try.prog.info? 4).map (·.size) = some 1 := by kernel_rfl
theorem mkInt_tr {w a b : World} {row : Option Nat} (h : Hid (w.grownBy a row)) (k : a.grownBy b row) : Hid (w.grownBy b row) :=
  ⟨k.os.trans h.out.os, k.tape.trans h.out.tape, k.output.trans h.out.output, Nat.le_trans h.out.size k.size, fun x hx hne => (k.block x (Nat.lt_of_lt_of_le hx h.out.size) hne).trans (h.out.block x hx hne)⟩
theorem mkInt_one (n : Int) : ∀ u ∈ [Value.int .i64 n], u.oneCell' = true := by intro u hu; simp at hu; subst hu; rfl
theorem mkInt_oneb (b : Bool) : ∀ u ∈ [Value.bool b], u.oneCell' = true := by intro u hu; simp at hu; subst hu; rfl

set_option maxHeartbeats 2000000 in
theorem markIntS_calls (A : Option Addr) (n c base : Nat) (xs : List Value) (q : Int) (w : World) (ho : w.ownsRow base 3 1 (.slice A n c) n xs) (hq : 0 ≤ q) (hn : q + n ≤ 1099511627776) :
    Calls Try.prog 20 #[.slice A n c, .int .i64 q] w fun e w' => e = .returned (.int .i64 (q + n)) ∧ w'.ownsRow base 3 1 (.slice A n c) n ((marksInt q n).flatMap markInt) ∧ w.grownBy w' (Value.ownBlock (.slice A n c)) := by
  have HO := Lib.hid ho
  have hnc : n ≤ c := by
    rcases ho.2 with ⟨_, h0⟩ | ⟨g, cap, cur, hv, _, _, hl, _⟩
    · omega
    · injection hv with _ _ h3; omega
  clear ho
  have hlen : (n : Int) ≤ 1099511627776 := by omega
  go_enter Try.func20, Try.ntmps20
  go_wp2
  go_loopw [1, 5] (fun kv i wr => ∃ (k : Nat) (kk : Int), k ≤ n ∧ i = .int .i64 k ∧ kv = .int .i64 kk ∧ Hid (kk = q + k) ∧ w.grownBy wr (Value.ownBlock (.slice A n c)) ∧ Hid (∀ g, A = some ⟨g, 0, none⟩ → Fill wr g 3 (c * 1) ((marksInt q k).flatMap markInt))) (fun _ i _ => n - (intOf i).toNat)
  case atStart =>
    refine ⟨0, q, by omega, rfl, rfl, by show _ = _; omega, World.grownBy.refl _ _, ?_⟩
    intro g hA
    have ho := HO.out
    rcases ho.2 with ⟨h0, _⟩ | ⟨g', cap, cur, hv, _, hg, _, _, hs, _⟩
    · rw [hA] at h0; cases h0
    · injection hv with h1 _ h3
      rw [hA] at h1
      injection h1 with h1
      injection h1 with h1
      subst h1 h3
      exact ⟨cur, hg, hs, by simp [marksInt]⟩
  case round =>
    obtain ⟨k, kk, hk, rfl, rfl, HK, hgr, HF⟩ := hrel
    by_cases hlt : k < n
    · obtain ⟨g, hA⟩ : ∃ g, A = some ⟨g, 0, none⟩ := by
        rcases HO.out.2 with ⟨_, h0⟩ | ⟨g', cap, cur, hv, _⟩
        · omega
        · injection hv with h1; exact ⟨g', h1⟩
      subst hA
      have hf0 := HF.out g rfl
      have hll := marksInt_flat q k
      generalize hL : (marksInt q k).flatMap markInt = L at *
      have HL := Lib.hid hL
      have Hll := Lib.hid hll
      have Hgr : Hid (w.grownBy wr (some g)) := hgr
      clear hL hll hgr HF
      have hkk0 : (0 : Int) ≤ kk := by have := HK.out; omega
      have hkk1 : kk ≤ 1099511627776 - 1 := by have := HK.out; omega
      have hk0 : (0 : Int) ≤ (k : Int) := by omega
      have hkn : (k : Int) < (n : Int) := by omega
      go_wp2_with (first
        | (refine wpList_store_fill rfl _ _ _ rfl rfl g _ _ _ _ [.int .i64 _] rfl rfl mkInt_size_int (mkInt_one _) (by assumption) (by simp only [List.length_append, List.length_cons, List.length_nil, Hll.out] <;> omega) (by simp only [List.length_cons, List.length_nil]; omega) ?_; intro w1 hf1 hg1; have hp1 := mkInt_tr (by assumption) hg1; clear hg1))
      refine ⟨⟨k + 1, _, by omega, by go_num, rfl, by show _ = _; have := HK.out; omega, hp1.out, ?_⟩, by simp [intOf]; omega⟩
      intro g' hg'
      injection hg' with hg'
      injection hg' with hg'
      subst hg'
      rw [marksInt_succ, HL.out, ← HK.out]
      simpa [markInt] using hf1
    · have hge : ¬ ((k : Int) < (n : Int)) := by omega
      have e1 : k = n := by omega
      subst e1
      go_wp2
      go_ret
      refine ⟨by rw [HK.out]; rfl, ?_, hgr⟩
      have ho := HO.out
      rcases ho.2 with ⟨h0, hn0⟩ | ⟨g, cap, cur, hv, hbg, _, _, hcm, _, _⟩
      · rw [h0, hn0]
        simpa [marksInt] using World.ownsRow_nil wr base 3 1
      · injection hv with h1 _ h3
        subst h1 h3
        obtain ⟨cur', hg', hs', ht'⟩ := HF.out g rfl
        refine ⟨marksInt_flat q k, .inr ⟨g, c, cur', rfl, hbg, hg', hnc, hcm, hs', ?_⟩⟩
        rw [marksInt_flat] at ht'
        exact ht'

end Go.Proofs.Ytoeecaeaobfhmaa
