/- The code of one function. -/
import Derived.Test.YtiaebckdjklnoaaGreatCode
import Derived.Test.YtiaebckdjklnoaaGreatG56ZJ
set_option maxRecDepth 100000
namespace Go.Proofs.YtiaebckdjklnoaaGreat
open Go.Pv
/-- podium/podiumlaw56.RiskSpec -/
noncomputable def C.podiumlaw56_RiskSpec : MFunc := ⟨73, 4, [.tmp 8],
  (.seq (.region [
    ⟨(some 7), none, .box T.apiRatio (.tmp 3)⟩,
    ⟨(some 8), none, .val (.mv (.const (.bool false)))⟩] [])
  (.seq (.seq (.region [
    ⟨(some 17), none, .call (.const (.func (.func F.podiumlaw56_sane) [] [])) []⟩,
    ⟨(some 18), none, .val (.un .not (.tmp 17))⟩] [17])
  (.cond (.tmp 18)
  (.seq (.region [
    ⟨(some 8), none, .val (.mv (.const (.bool false)))⟩] [])
  .ret)
  .skip))
  (.seq (.seq (.region [
    ⟨(some 19), none, .val (.mv (.tmp 0))⟩,
    ⟨(some 20), none, .call (.const (.func (.func F.podiumref56_Few) [] [])) [(.tmp 19)]⟩,
    ⟨(some 21), none, .val (.un .not (.tmp 20))⟩,
    ⟨(some 22), none, .val (.mv (.tmp 21))⟩,
    ⟨(some 23), (some (22, false)), .val (.load 4 true (.tmp 7))⟩,
    ⟨(some 24), (some (22, false)), .call (.const (.func (.func F.podiumref10_Few) [] [])) [(.tmp 23), (.const (.int 4))]⟩,
    ⟨(some 25), (some (22, false)), .val (.un .not (.tmp 24))⟩,
    ⟨(some 26), none, .val (.pick (.tmp 22) (.const (.bool true)) (.tmp 25))⟩] [19, 20, 21, 22, 23, 24, 25])
  (.cond (.tmp 26)
  (.seq (.region [
    ⟨(some 8), none, .val (.mv (.const (.bool true)))⟩] [])
  .ret)
  .skip))
  (.seq (.region [
    ⟨(some 28), none, .val (.mv (.tmp 0))⟩,
    ⟨(some 29), none, .val (.mv (.tmp 1))⟩,
    ⟨(some 30), none, .val (.mv (.tmp 2))⟩,
    ⟨(some 31), none, .call (.const (.func (.func F.risk_Miss) [] [])) [(.tmp 28), (.tmp 29), (.tmp 30)]⟩,
    ⟨(some 27), none, .val (.mv (.tmp 31))⟩,
    ⟨(some 32), none, .val (.extract 0 (.tmp 27))⟩,
    ⟨(some 33), none, .val (.extract 1 (.tmp 27))⟩,
    ⟨(some 9), none, .alloc T.apiRatio [(.bool false), .nil, (.bool false), .nil]⟩,
    ⟨none, none, .store 4 (.tmp 9) (.tmp 32)⟩,
    ⟨(some 10), none, .val (.mv (.tmp 33))⟩] [28, 29, 30, 31, 27, 32, 33])
  (.seq (.region [
    ⟨(some 35), none, .val (.mv (.tmp 0))⟩,
    ⟨(some 36), none, .val (.mv (.tmp 1))⟩,
    ⟨(some 37), none, .val (.mv (.tmp 2))⟩,
    ⟨(some 38), none, .call (.const (.func (.func F.podiumref56_Miss) [] [])) [(.tmp 35), (.tmp 36), (.tmp 37)]⟩,
    ⟨(some 34), none, .val (.mv (.tmp 38))⟩,
    ⟨(some 39), none, .val (.extract 0 (.tmp 34))⟩,
    ⟨(some 40), none, .val (.extract 1 (.tmp 34))⟩,
    ⟨(some 11), none, .alloc T.apiRatio [(.bool false), .nil, (.bool false), .nil]⟩,
    ⟨none, none, .store 4 (.tmp 11) (.tmp 39)⟩,
    ⟨(some 12), none, .val (.mv (.tmp 40))⟩] [35, 36, 37, 38, 34, 39, 40])
  (.seq (.region [
    ⟨(some 42), none, .val (.mv (.tmp 0))⟩,
    ⟨(some 43), none, .val (.mv (.tmp 1))⟩,
    ⟨(some 44), none, .val (.load 4 true (.tmp 7))⟩,
    ⟨(some 45), none, .call (.const (.func (.func F.risk_Need) [] [])) [(.tmp 42), (.tmp 43), (.tmp 44)]⟩,
    ⟨(some 41), none, .val (.mv (.tmp 45))⟩,
    ⟨(some 46), none, .val (.extract 0 (.tmp 41))⟩,
    ⟨(some 47), none, .val (.extract 1 (.tmp 41))⟩,
    ⟨(some 13), none, .val (.mv (.tmp 46))⟩,
    ⟨(some 14), none, .val (.mv (.tmp 47))⟩] [42, 43, 44, 45, 41, 46, 47])
  (.seq (.region [
    ⟨(some 49), none, .val (.mv (.tmp 0))⟩,
    ⟨(some 50), none, .val (.mv (.tmp 1))⟩,
    ⟨(some 51), none, .val (.load 4 true (.tmp 7))⟩,
    ⟨(some 52), none, .call (.const (.func (.func F.podiumref56_Need) [] [])) [(.tmp 49), (.tmp 50), (.tmp 51)]⟩,
    ⟨(some 48), none, .val (.mv (.tmp 52))⟩,
    ⟨(some 53), none, .val (.extract 0 (.tmp 48))⟩,
    ⟨(some 54), none, .val (.extract 1 (.tmp 48))⟩,
    ⟨(some 15), none, .val (.mv (.tmp 53))⟩,
    ⟨(some 16), none, .val (.mv (.tmp 54))⟩] [49, 50, 51, 52, 48, 53, 54])
  (.seq (.region [
    ⟨(some 55), none, .val (.load 4 true (.tmp 9))⟩,
    ⟨(some 56), none, .val (.load 4 true (.tmp 11))⟩,
    ⟨(some 57), none, .call (.const (.func (.func F.podiumref10_Same) [] [])) [(.tmp 55), (.tmp 56)]⟩,
    ⟨(some 58), none, .val (.mv (.tmp 57))⟩,
    ⟨(some 59), (some (58, true)), .val (.mv (.tmp 10))⟩,
    ⟨(some 60), (some (58, true)), .val (.mv (.tmp 12))⟩,
    ⟨(some 61), (some (58, true)), .val (.bin .eql T.apiErrno (.tmp 59) (.tmp 60))⟩,
    ⟨(some 62), none, .val (.pick (.tmp 58) (.tmp 61) (.const (.bool false)))⟩,
    ⟨(some 63), none, .val (.mv (.tmp 62))⟩,
    ⟨(some 64), (some (63, true)), .val (.mv (.tmp 13))⟩,
    ⟨(some 65), (some (63, true)), .val (.mv (.tmp 15))⟩,
    ⟨(some 66), (some (63, true)), .val (.bin .eql T.int (.tmp 64) (.tmp 65))⟩,
    ⟨(some 67), none, .val (.pick (.tmp 63) (.tmp 66) (.const (.bool false)))⟩,
    ⟨(some 68), none, .val (.mv (.tmp 67))⟩,
    ⟨(some 69), (some (68, true)), .val (.mv (.tmp 14))⟩,
    ⟨(some 70), (some (68, true)), .val (.mv (.tmp 16))⟩,
    ⟨(some 71), (some (68, true)), .val (.bin .eql T.apiErrno (.tmp 69) (.tmp 70))⟩,
    ⟨(some 72), none, .val (.pick (.tmp 68) (.tmp 71) (.const (.bool false)))⟩,
    ⟨(some 8), none, .val (.mv (.tmp 72))⟩] [55, 56, 57, 58, 59, 60, 61, 62, 63, 64, 65, 66, 67, 68, 69, 70, 71, 72])
  .ret))))))))⟩
theorem H.podiumlaw56_RiskSpec : Has P F.podiumlaw56_RiskSpec C.podiumlaw56_RiskSpec := ⟨Tryz.f3, Tryz.func3, by kernel_rfl, by kernel_rfl⟩
end Go.Proofs.YtiaebckdjklnoaaGreat
/- RiskSpec. -/
namespace Go.Proofs.YtiaebckdjklnoaaGreat
open Go.Pv
set_option maxRecDepth 100000
set_option maxHeartbeats 16000000
theorem spec_law (n w k : Int) (s1 t1 s2 t2 : Bool) (L1 L2 : List Int) (st : Store) : Rets P F.podiumlaw56_RiskSpec [.int n, .int w, .int k, .agg [.bool s1, intLst t1 L1, .bool s2, intLst t2 L2]] st (.bool true) := by
  have cn := fewN_spec n
  have cf := few10_spec s1 t1 s2 t2 L1 L2 4
  by_cases hn : n ≤ 40 ∨ 4096 < n
  · rw [show (decide (n ≤ 40) || decide (4096 < n)) = true by simpa using hn] at cn
    by_cases hf : (fewB L1 4 && fewB L2 4) = true
    · rw [hf] at cf
      rw [Bool.and_eq_true] at hf
      have ca := need_spec n w hn s1 t1 s2 t2 L1 L2 (few4 hf.1) (few4 hf.2)
      have cb := rNeed_spec n w hn s1 t1 s2 t2 L1 L2 (few4 hf.1) (few4 hf.2)
      have key : ∃ (X : List PV) (e : Int), X.length = 4 ∧ (∀ st, Rets P F.risk_Miss [.int n, .int w, .int k] st (.tuple [.agg X, .int e])) ∧ (∀ st, Rets P F.podiumref56_Miss [.int n, .int w, .int k] st (.tuple [.agg X, .int e])) ∧ ∀ st, Rets P F.podiumref10_Same [.agg X, .agg X] st (.bool true) := by
        cases h : (wi n 4096 && wi w n && wi k n) with
        | false =>
          refine ⟨_, 1, rfl, miss_err n w k h, rMissUp_err n w k h, fun st => ?_⟩
          have := same10_spec false false false false false false false false [] [] [] [] (by decide) (by decide) st
          exact this
        | true =>
          simp only [Bool.and_eq_true, wi, decide_eq_true_eq] at h
          obtain ⟨N, rfl⟩ : ∃ N : Nat, n = N := ⟨n.toNat, by omega⟩
          obtain ⟨W, rfl⟩ : ∃ N : Nat, w = N := ⟨w.toNat, by omega⟩
          obtain ⟨K, rfl⟩ : ∃ N : Nat, k = N := ⟨k.toNat, by omega⟩
          obtain ⟨m1, m2⟩ := missR_small (w := W) (show N ≤ 4096 by omega) (show K ≤ N by omega)
          have d1 := dl_pow (show K ≤ 40 by omega) m1
          have d2 := dl_pow (show K ≤ 40 by omega) m2
          exact ⟨_, 0, rfl, miss_spec N W K (by omega) (by omega) (by omega), rMissUp_spec N W K (by omega) (by omega) (by omega), same_rat _ (by omega) (by omega)⟩
      obtain ⟨X, e, lX, k1, k2, k3⟩ := key
      have fX := cells_sub lX
      have aX : setCells [.bool false, .nil, .bool false, .nil] 0 X = X := setCells_all X _ lX
      obtain ⟨u, hu⟩ : ∃ u, u = needK n w s1 L1 s2 L2 := ⟨_, rfl⟩
      obtain ⟨v, hv⟩ : ∃ u, u = needE n w s1 L1 s2 L2 := ⟨_, rfl⟩
      rw [← hu, ← hv] at ca cb
      clear hu hv hf hn
      refine H.podiumlaw56_RiskSpec.pure hmix rfl rfl ?_
      repeat' (first 
       | (with_reducible refine Fresh.intro fun b hb => ?_) <;> (try simp -dsimp -implicitDefEqProofs [*] at hb)
       | (with_reducible refine Rets.xcall (sane_spec _) ?_)
       | (with_reducible refine Rets.xcall (cn _) ?_)
       | (with_reducible refine Rets.xcall (cf _) ?_)
       | (with_reducible refine Rets.xcall (ca _) ?_)
       | (with_reducible refine Rets.xcall (cb _) ?_)
       | (with_reducible refine Rets.xcall (k1 _) ?_)
       | (with_reducible refine Rets.xcall (k2 _) ?_)
       | (with_reducible refine Rets.xcall (k3 _) ?_)
       | (simp -dsimp -implicitDefEqProofs [*]))
    · rw [Bool.not_eq_true] at hf
      rw [hf] at cf
      clear hf hn
      refine H.podiumlaw56_RiskSpec.pure hmix rfl rfl ?_
      repeat' (first 
       | (with_reducible refine Fresh.intro fun b hb => ?_) <;> (try simp -dsimp -implicitDefEqProofs [*] at hb)
       | (with_reducible refine Rets.xcall (sane_spec _) ?_)
       | (with_reducible refine Rets.xcall (cn _) ?_)
       | (with_reducible refine Rets.xcall (cf _) ?_)
       | (simp -dsimp -implicitDefEqProofs [*]))
  · rw [show (decide (n ≤ 40) || decide (4096 < n)) = false by simpa using hn] at cn
    clear hn
    refine H.podiumlaw56_RiskSpec.pure hmix rfl rfl ?_
    repeat' (first 
     | (with_reducible refine Fresh.intro fun b hb => ?_) <;> (try simp -dsimp -implicitDefEqProofs [*] at hb)
     | (with_reducible refine Rets.xcall (sane_spec _) ?_)
     | (with_reducible refine Rets.xcall (cn _) ?_)
     | (simp -dsimp -implicitDefEqProofs [*]))
end Go.Proofs.YtiaebckdjklnoaaGreat
