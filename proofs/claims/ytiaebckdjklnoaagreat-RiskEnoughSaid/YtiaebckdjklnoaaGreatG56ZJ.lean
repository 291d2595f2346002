/- Both sides of Miss. -/
import Derived.Test.YtiaebckdjklnoaaGreatG56ZC
import Derived.Test.YtiaebckdjklnoaaGreatG56ZI
namespace Go.Proofs.YtiaebckdjklnoaaGreat
open Go.Pv
set_option maxRecDepth 100000
set_option maxHeartbeats 16000000
theorem same_rat (q : Rat) (h1 : dl q.num.natAbs ≤ 100000) (h2 : dl q.den ≤ 100000) (st : Store) : Rets P F.podiumref10_Same [.agg (rC false false q), .agg (rC false false q)] st (.bool true) := by
  rw [rC_cells]
  have := same10_spec (decide (q.num < 0)) false false false (decide (q.num < 0)) false false false (digs q.num.natAbs) (digs q.den) (digs q.num.natAbs) (digs q.den) h1 h2 st
  rw [decide_eq_true rfl, decide_eq_true rfl, decide_eq_true rfl, decide_eq_true rfl] at this
  exact this
theorem few4 {A : List Int} (h : fewB A 4 = true) : Few3 A := by
  unfold fewB at h
  simp only [Bool.or_eq_true, Bool.and_eq_true, decide_eq_true_eq] at h
  unfold Few3
  omega
theorem fewN_spec (n : Int) (st : Store) : Rets P F.podiumref56_Few [.int n] st (.bool (decide (n ≤ 40) || decide (4096 < n))) := by
  by_cases h1 : n ≤ 40
  · rw [decide_eq_true h1, Bool.true_or]
    refine H.podiumref56_Few.pure hmix rfl rfl ?_
    repeat' (simp -dsimp -implicitDefEqProofs [*])
  · rw [decide_eq_false h1, Bool.false_or]
    refine H.podiumref56_Few.pure hmix rfl rfl ?_
    repeat' (simp -dsimp -implicitDefEqProofs [*])
theorem rMissUp_spec (n w k : Nat) (hn : n ≤ 4096) (hw : w ≤ n) (hk : k ≤ n) (st : Store) : Rets P F.podiumref56_Miss [.int n, .int w, .int k] st (.tuple [.agg (rC false false (missR n w k)), .int 0]) := by
  have c1 := rSheets_spec n w
  have c2 := rMiss_spec n w k hn hw hk
  rw [show (wi n 4096 && wi w n) = true by simp [wi]; omega] at c1
  obtain ⟨X, hX⟩ : ∃ X, X = rC false false (missR n w k) := ⟨_, rfl⟩
  have lX : X.length = 4 := by rw [hX]; rfl
  rw [← hX] at c2 ⊢
  have fX := cells_sub lX
  have aX : setCells [.bool false, .nil, .bool false, .nil] 0 X = X := setCells_all X _ lX
  have k0 : ¬ (k : Int) < 0 := by omega
  have k1 : ¬ (n : Int) < k := by omega
  clear hX
  refine H.podiumref56_Miss.view hmix rfl rfl ?_
  repeat' (first 
   | (with_reducible refine Fresh.intro fun b hb => ?_) <;> (try simp -dsimp -implicitDefEqProofs [*] at hb)
   | (with_reducible refine Rets.xcall (c1 _) ?_)
   | (with_reducible refine Rets.xcall (c2 _) ?_)
   | (simp -dsimp -implicitDefEqProofs [*]))
  exact RetView.drop (st' := st) (by repeat' (first | exact StLe.refl _ | (refine StLe_cons (by simp [*]; done) ?_) | (refine StLe_fresh (by simp [*]; done) ?_))) ⟨rfl, rfl⟩
theorem rMissUp_err (n w k : Int) (h : (wi n 4096 && wi w n && wi k n) = false) (st : Store) : Rets P F.podiumref56_Miss [.int n, .int w, .int k] st (.tuple [.agg [.bool false, .list false [] 0, .bool false, .list false [] 0], .int 1]) := by
  have c1 := rSheets_spec n w
  have pl : PLe (.tuple [.agg [.bool false, .nil, .bool false, .nil], .int 1]) (.tuple [.agg [.bool false, .list false [] 0, .bool false, .list false [] 0], .int 1]) := PLe.tuples ⟨PLe.aggs ⟨.refl _, PLe.nil0, .refl _, PLe.nil0, trivial⟩, .refl _, trivial⟩
  cases h1 : (wi n 4096 && wi w n) with
  | false =>
    rw [h1] at c1
    clear h h1
    refine H.podiumref56_Miss.view hmix rfl rfl ?_
    repeat' (first 
     | (with_reducible refine Fresh.intro fun b hb => ?_) <;> (try simp -dsimp -implicitDefEqProofs [*] at hb)
     | (with_reducible refine Rets.xcall (c1 _) ?_)
     | (simp -dsimp -implicitDefEqProofs [*]))
    refine .le pl ?_
    exact RetView.drop (st' := st) (by repeat' (first | exact StLe.refl _ | (refine StLe_cons (by simp [*]; done) ?_) | (refine StLe_fresh (by simp [*]; done) ?_))) ⟨rfl, rfl⟩
  | true =>
    rw [h1] at c1 h
    have h3 : wi k n = false := by simpa using h
    by_cases k0 : k < 0
    · clear h h1 h3
      refine H.podiumref56_Miss.view hmix rfl rfl ?_
      repeat' (first 
       | (with_reducible refine Fresh.intro fun b hb => ?_) <;> (try simp -dsimp -implicitDefEqProofs [*] at hb)
       | (with_reducible refine Rets.xcall (c1 _) ?_)
       | (simp -dsimp -implicitDefEqProofs [*]))
      refine .le pl ?_
      exact RetView.drop (st' := st) (by repeat' (first | exact StLe.refl _ | (refine StLe_cons (by simp [*]; done) ?_) | (refine StLe_fresh (by simp [*]; done) ?_))) ⟨rfl, rfl⟩
    · have k1 : n < k := by simp [wi] at h3; omega
      clear h h1 h3
      refine H.podiumref56_Miss.view hmix rfl rfl ?_
      repeat' (first 
       | (with_reducible refine Fresh.intro fun b hb => ?_) <;> (try simp -dsimp -implicitDefEqProofs [*] at hb)
       | (with_reducible refine Rets.xcall (c1 _) ?_)
       | (simp -dsimp -implicitDefEqProofs [*]))
      refine .le pl ?_
      exact RetView.drop (st' := st) (by repeat' (first | exact StLe.refl _ | (refine StLe_cons (by simp [*]; done) ?_) | (refine StLe_fresh (by simp [*]; done) ?_))) ⟨rfl, rfl⟩
end Go.Proofs.YtiaebckdjklnoaaGreat
