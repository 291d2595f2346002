/- The code of one function. -/
import Derived.Test.YtiaebckdjklnoaaCode
import Derived.Test.YtiaebckdjklnoaaS56ZC
set_option maxRecDepth 100000
namespace Go.Proofs.Ytiaebckdjklnoaa
open Go.Pv
/-- podium/podiumlaw56.RiskCounted -/
noncomputable def C.podiumlaw56_RiskCounted : MFunc := ⟨75, 3, [.tmp 6],
  (.seq (.region [
    ⟨(some 6), none, .val (.mv (.const (.bool false)))⟩] [])
  (.seq (.seq (.region [
    ⟨(some 17), none, .call (.const (.func (.func F.podiumlaw56_sane) [] [])) []⟩,
    ⟨(some 18), none, .val (.un .not (.tmp 17))⟩] [17])
  (.cond (.tmp 18)
  (.seq (.region [
    ⟨(some 6), none, .val (.mv (.const (.bool false)))⟩] [])
  .ret)
  .skip))
  (.seq (.region [
    ⟨(some 19), none, .val (.mv (.tmp 1))⟩,
    ⟨(some 20), none, .val (.toInt .i64 (.tmp 19))⟩,
    ⟨(some 21), none, .val (.bin .rem T.int (.tmp 20) (.const (.int 10)))⟩,
    ⟨(some 7), none, .val (.mv (.tmp 21))⟩] [19, 20, 21])
  (.seq (.region [
    ⟨(some 22), none, .val (.mv (.tmp 2))⟩,
    ⟨(some 23), none, .val (.toInt .i64 (.tmp 22))⟩,
    ⟨(some 24), none, .val (.mv (.tmp 7))⟩,
    ⟨(some 25), none, .val (.bin .add T.int (.tmp 24) (.const (.int 1)))⟩,
    ⟨(some 26), none, .val (.bin .rem T.int (.tmp 23) (.tmp 25))⟩,
    ⟨(some 8), none, .val (.mv (.tmp 26))⟩] [22, 23, 24, 25, 26])
  (.seq (.region [
    ⟨(some 27), none, .val (.mv (.tmp 0))⟩,
    ⟨(some 28), none, .val (.toInt .i64 (.tmp 27))⟩,
    ⟨(some 29), none, .val (.mv (.tmp 7))⟩,
    ⟨(some 30), none, .val (.bin .shl T.int (.const (.int 1)) (.tmp 29))⟩,
    ⟨(some 31), none, .val (.bin .rem T.int (.tmp 28) (.tmp 30))⟩,
    ⟨(some 9), none, .val (.mv (.tmp 31))⟩] [27, 28, 29, 30, 31])
  (.seq (.region [
    ⟨(some 10), none, .val (.mv (.const (.int 0)))⟩,
    ⟨(some 11), none, .val (.mv (.const (.int 0)))⟩] [])
  (.seq (.seq (.region [
    ⟨(some 32), none, .val (.mv (.tmp 7))⟩,
    ⟨(some 33), none, .val (.bin .shl T.int (.const (.int 1)) (.tmp 32))⟩,
    ⟨(some 34), none, .val (.mv (.const (.int 0)))⟩] [32])
  (.block 0 (.loop (.seq (.region [
    ⟨(some 35), none, .val (.bin .lss T.int (.tmp 34) (.tmp 33))⟩] [])
  (.seq (.cond (.tmp 35)
  .skip
  (.exit 0))
  (.seq (.block 1 (.seq (.region [
    ⟨(some 36), none, .val (.mv (.tmp 34))⟩,
    ⟨(some 12), none, .val (.mv (.tmp 36))⟩] [36])
  (.seq (.seq (.region [
    ⟨(some 37), none, .val (.mv (.tmp 12))⟩,
    ⟨(some 38), none, .call (.const (.func (.func F.podiumlaw56_count) [] [])) [(.tmp 37)]⟩,
    ⟨(some 39), none, .val (.mv (.tmp 8))⟩,
    ⟨(some 40), none, .val (.bin .neq T.int (.tmp 38) (.tmp 39))⟩] [37, 38, 39])
  (.cond (.tmp 40)
  (.exit 1)
  .skip))
  (.seq (.region [
    ⟨(some 41), none, .val (.mv (.tmp 10))⟩,
    ⟨(some 42), none, .val (.bin .add T.int (.tmp 41) (.const (.int 1)))⟩,
    ⟨(some 10), none, .val (.mv (.tmp 42))⟩] [41, 42])
  (.seq (.region [
    ⟨(some 43), none, .val (.mv (.tmp 12))⟩,
    ⟨(some 44), none, .val (.mv (.tmp 9))⟩,
    ⟨(some 45), none, .val (.bin .and T.int (.tmp 43) (.tmp 44))⟩,
    ⟨(some 46), none, .val (.bin .eql T.int (.tmp 45) (.const (.int 0)))⟩] [43, 44, 45])
  (.cond (.tmp 46)
  (.region [
    ⟨(some 47), none, .val (.mv (.tmp 11))⟩,
    ⟨(some 48), none, .val (.bin .add T.int (.tmp 47) (.const (.int 1)))⟩,
    ⟨(some 11), none, .val (.mv (.tmp 48))⟩] [47, 48])
  .skip))))))
  (.region [
    ⟨(some 49), none, .val (.bin .add T.int (.tmp 34) (.const (.int 1)))⟩,
    ⟨(some 34), none, .val (.mv (.tmp 49))⟩] [49])))))))
  (.seq (.region [
    ⟨(some 51), none, .val (.mv (.tmp 7))⟩,
    ⟨(some 52), none, .val (.mv (.tmp 9))⟩,
    ⟨(some 53), none, .call (.const (.func (.func F.podiumlaw56_count) [] [])) [(.tmp 52)]⟩,
    ⟨(some 54), none, .val (.mv (.tmp 8))⟩,
    ⟨(some 55), none, .call (.const (.func (.func F.risk_Miss) [] [])) [(.tmp 51), (.tmp 53), (.tmp 54)]⟩,
    ⟨(some 50), none, .val (.mv (.tmp 55))⟩,
    ⟨(some 56), none, .val (.extract 0 (.tmp 50))⟩,
    ⟨(some 57), none, .val (.extract 1 (.tmp 50))⟩,
    ⟨(some 13), none, .alloc T.apiRatio [(.bool false), .nil, (.bool false), .nil]⟩,
    ⟨none, none, .store 4 (.tmp 13) (.tmp 56)⟩,
    ⟨(some 14), none, .val (.mv (.tmp 57))⟩] [51, 52, 53, 54, 55, 50, 56, 57])
  (.seq (.region [
    ⟨(some 59), none, .val (.mv (.tmp 11))⟩,
    ⟨(some 60), none, .val (.mv (.tmp 10))⟩,
    ⟨(some 61), none, .call (.const (.func (.func F.ratio_Make) [] [])) [(.tmp 59), (.tmp 60)]⟩,
    ⟨(some 58), none, .val (.mv (.tmp 61))⟩,
    ⟨(some 62), none, .val (.extract 0 (.tmp 58))⟩,
    ⟨(some 63), none, .val (.extract 1 (.tmp 58))⟩,
    ⟨(some 15), none, .alloc T.apiRatio [(.bool false), .nil, (.bool false), .nil]⟩,
    ⟨none, none, .store 4 (.tmp 15) (.tmp 62)⟩,
    ⟨(some 16), none, .val (.mv (.tmp 63))⟩] [59, 60, 61, 58, 62, 63])
  (.seq (.region [
    ⟨(some 64), none, .val (.mv (.tmp 14))⟩,
    ⟨(some 65), none, .val (.bin .eql T.apiErrno (.tmp 64) (.const (.int 0)))⟩,
    ⟨(some 66), none, .val (.mv (.tmp 65))⟩,
    ⟨(some 67), (some (66, true)), .val (.mv (.tmp 16))⟩,
    ⟨(some 68), (some (66, true)), .val (.bin .eql T.apiErrno (.tmp 67) (.const (.int 0)))⟩,
    ⟨(some 69), none, .val (.pick (.tmp 66) (.tmp 68) (.const (.bool false)))⟩,
    ⟨(some 70), none, .val (.mv (.tmp 69))⟩,
    ⟨(some 71), (some (70, true)), .val (.load 4 true (.tmp 13))⟩,
    ⟨(some 72), (some (70, true)), .val (.load 4 true (.tmp 15))⟩,
    ⟨(some 73), (some (70, true)), .call (.const (.func (.func F.podiumref10_Same) [] [])) [(.tmp 71), (.tmp 72)]⟩,
    ⟨(some 74), none, .val (.pick (.tmp 70) (.tmp 73) (.const (.bool false)))⟩,
    ⟨(some 6), none, .val (.mv (.tmp 74))⟩] [64, 65, 66, 67, 68, 69, 70, 71, 72, 73, 74])
  .ret))))))))))⟩
theorem H.podiumlaw56_RiskCounted : Has P F.podiumlaw56_RiskCounted C.podiumlaw56_RiskCounted := ⟨Try.f4, Try.func4, by kernel_rfl, by kernel_rfl⟩
end Go.Proofs.Ytiaebckdjklnoaa
/- RiskCounted. -/
namespace Go.Proofs.Ytiaebckdjklnoaa
open Go.Pv
set_option maxRecDepth 100000
set_option maxHeartbeats 8000000
theorem countP_step {p : Nat → Bool} (i : Nat) : (List.range (i + 1)).countP p = (List.range i).countP p + if p i = true then 1 else 0 := by
  rw [List.range_succ, List.countP_append]
  simp
theorem same_rat (q : Rat) (h1 : dl q.num.natAbs ≤ 100000) (h2 : dl q.den ≤ 100000) (st : Store) : Rets P F.podiumref10_Same [.agg (rC false false q), .agg (rC false false q)] st (.bool true) := by
  rw [rC_cells]
  have := same10_spec (decide (q.num < 0)) false false false (decide (q.num < 0)) false false false (digs q.num.natAbs) (digs q.den) (digs q.num.natAbs) (digs q.den) h1 h2 st
  rw [decide_eq_true rfl, decide_eq_true rfl, decide_eq_true rfl, decide_eq_true rfl] at this
  exact this
theorem counted_law (wr nn kk : Int) (hw : 0 ≤ wr ∧ wr < 65536) (hn : 0 ≤ nn ∧ nn < 256) (hk : 0 ≤ kk ∧ kk < 256) (st : Store) : Rets P F.podiumlaw56_RiskCounted [.val (.int .u16 wr), .val (.int .u8 nn), .val (.int .u8 kk)] st (.bool true) := by
  have x1 : IntKind.i64.wrap wr = wr := wrap_in (by omega) (by omega)
  have x2 : IntKind.i64.wrap nn = nn := wrap_in (by omega) (by omega)
  have x3 : IntKind.i64.wrap kk = kk := wrap_in (by omega) (by omega)
  obtain ⟨M, hM⟩ : ∃ M : Nat, nn.tmod 10 = M := ⟨(nn.tmod 10).toNat, by have := Int.tmod_nonneg 10 hn.1; omega⟩
  have hM9 : M ≤ 9 := by have := Int.tmod_lt_of_pos nn (show (0 : Int) < 10 by decide); omega
  have y1 : IntKind.i64.wrap ((M : Int) + 1) = (M : Int) + 1 := wrap_succ (by omega)
  obtain ⟨S, hS⟩ : ∃ S : Nat, kk.tmod ((M : Int) + 1) = S := ⟨(kk.tmod ((M : Int) + 1)).toNat, by have := Int.tmod_nonneg ((M : Int) + 1) hk.1; omega⟩
  have hSM : S ≤ M := by have := Int.tmod_lt_of_pos kk (show (0 : Int) < (M : Int) + 1 by omega); omega
  obtain ⟨N, hN⟩ : ∃ N, N = 2 ^ M := ⟨_, rfl⟩
  have hN0 : 0 < N := by rw [hN]; exact Nat.pow_pos (by decide)
  have hN5 : N ≤ 512 := by rw [hN]; exact Nat.le_trans (Nat.pow_le_pow_right (by decide) hM9) (by decide)
  have hsh : ∀ K, xbin .shl (.val (.int .i64 1)) (.val (.int .i64 (M : Int))) K = K (.val (.int .i64 (N : Int))) := fun K => by rw [xshl_one M K (by omega), hN]
  have hNne : ¬ N = 0 := by omega
  obtain ⟨B, hB⟩ : ∃ B : Nat, wr.tmod (N : Int) = B := ⟨(wr.tmod (N : Int)).toNat, by have := Int.tmod_nonneg (N : Int) hw.1; omega⟩
  have hBN : B < N := by have := Int.tmod_lt_of_pos wr (show (0 : Int) < (N : Int) by omega); omega
  have hM1 : ¬ (M : Int) + 1 = 0 := by omega
  have kN : Hid (N = 2 ^ M) := ⟨hN⟩
  clear hN
  refine H.podiumlaw56_RiskCounted.pure hmix rfl rfl ?_
  repeat' (first 
   | (with_reducible refine Rets.xcall (sane_spec _) ?_)
   | (simp -dsimp -implicitDefEqProofs [*]))
  clear hw hn hk x1 x2 x3 y1 hM hS hsh hB
  have hpa := fun i => countP_step (p := fun s => decide (pop M s = S)) i
  have hpb := fun i => countP_step (p := fun s => decide (pop M s = S) && decide (s &&& B = 0)) i
  obtain ⟨pa, ea⟩ : ∃ f : Nat → Nat, ∀ i, f i = (List.range i).countP (fun s => decide (pop M s = S)) := ⟨fun i => _, fun _ => rfl⟩
  obtain ⟨pb, eb⟩ : ∃ f : Nat → Nat, ∀ i, f i = (List.range i).countP (fun s => decide (pop M s = S) && decide (s &&& B = 0)) := ⟨fun i => _, fun _ => rfl⟩
  simp only [← ea] at hpa
  simp only [← eb] at hpb
  have la : ∀ i, pa i ≤ i := fun i => by rw [ea]; exact Nat.le_trans List.countP_le_length (by rw [List.length_range]; exact Nat.le_refl _)
  have lb : ∀ i, pb i ≤ i := fun i => by rw [eb]; exact Nat.le_trans List.countP_le_length (by rw [List.length_range]; exact Nat.le_refl _)
  have a0 : pa 0 = 0 := by rw [ea]; rfl
  have b0 : pb 0 = 0 := by rw [eb]; rfl
  have kab : Hid ((∀ i, pa i = (List.range i).countP (fun s => decide (pop M s = S))) ∧ ∀ i, pb i = (List.range i).countP (fun s => decide (pop M s = S) && decide (s &&& B = 0))) := ⟨ea, eb⟩
  have kla : Hid _ := ⟨la⟩
  have klb : Hid _ := ⟨lb⟩
  have kpa : Hid _ := ⟨hpa⟩
  have kpb : Hid _ := ⟨hpb⟩
  clear ea eb la lb hpa hpb
  refine xloop_for (fun y : Nat => [(34, .int y), (33, .int N), (11, .int (pb y)), (10, .int (pa y)), (9, .int B), (8, .int S), (7, .int M), (6, .bool false)]) (fun _ => st) (fun y => y ≤ N) (fun y => N - y) 0 (Nat.zero_le _) (by simp [a0, b0]) (.refl _) ?_
  clear a0 b0
  intro i hi
  by_cases hiN : i < N
  · have cc := count_spec M i (by rw [← kN.out]; exact hiN) (by omega)
    have x5 := wrap_succ (n := i) (by omega)
    have x6 := wrap_succ (n := pa i) (by have := kla.out i; omega)
    have x7 := wrap_succ (n := pb i) (by have := klb.out i; omega)
    have hpa := kpa.out i
    have hpb := kpb.out i
    obtain ⟨a, ea⟩ : ∃ a, a = pa i := ⟨_, rfl⟩
    obtain ⟨b, eb⟩ : ∃ a, a = pb i := ⟨_, rfl⟩
    rw [← ea] at hpa x6 ⊢
    rw [← eb] at hpb x7 ⊢
    have hand : ∀ K, xbin .and (.val (.int .i64 (i : Int))) (.val (.int .i64 (B : Int))) K = K (.val (.int .i64 ((i &&& B : Nat) : Int))) := fun K => xand_nat i B K (by omega) (by omega)
    by_cases h1 : pop M i = S
    · rw [decide_eq_true h1, if_pos rfl] at hpa
      rw [h1] at cc
      by_cases h2 : i &&& B = 0
      · rw [decide_eq_true h1, decide_eq_true h2, if_pos (by rfl)] at hpb
        have h3 : ((i &&& B : Nat) : Int) = 0 := by omega
        have ka : Hid _ := ⟨hpa⟩
        have kb : Hid _ := ⟨hpb⟩
        clear hpa hpb ea eb h1 h2 kpa kpb kla klb kab kN
        repeat' (first 
         | (with_reducible refine Rets.xcall (cc _) ?_)
         | (simp -dsimp -implicitDefEqProofs [*]))
        exact Next.intro (i + 1) hiN (by omega) (by simp [ka.out, kb.out]) (.refl _)
      · rw [decide_eq_true h1, decide_eq_false h2, if_neg (by simp)] at hpb
        have h3 : ¬ ((i &&& B : Nat) : Int) = 0 := by omega
        have ka : Hid _ := ⟨hpa⟩
        have kb : Hid _ := ⟨hpb⟩
        clear hpa hpb ea eb h1 h2 kpa kpb kla klb kab kN
        repeat' (first 
         | (with_reducible refine Rets.xcall (cc _) ?_)
         | (with_reducible refine And.intro (fun h => ?_) (fun h => ?_)) <;> (try (exfalso; omega))
         | (simp -dsimp -implicitDefEqProofs [*]))
        exact Next.intro (i + 1) hiN (by omega) (by simp [ka.out, kb.out]) (.refl _)
    · rw [decide_eq_false h1, if_neg (by simp)] at hpa
      rw [decide_eq_false h1, Bool.false_and, if_neg (by simp)] at hpb
      have ka : Hid _ := ⟨hpa⟩
      have kb : Hid _ := ⟨hpb⟩
      obtain ⟨c, hc⟩ : ∃ c, c = pop M i := ⟨_, rfl⟩
      rw [← hc] at cc h1
      have h3 : ¬ (c : Int) = S := by omega
      clear hpa hpb ea eb h1 kpa kpb kla klb kab kN hc hand
      repeat' (first 
       | (with_reducible refine Rets.xcall (cc _) ?_)
       | (simp -dsimp -implicitDefEqProofs [*]))
      exact Next.intro (i + 1) hiN (by omega) (by simp [ka.out, kb.out]) (.refl _)
  · have e : i = N := by omega
    subst e
    have hBM : B < 2 ^ M := by rw [← kN.out]; exact hBN
    have cc := count_spec M B hBM (by omega)
    have hpl := pop_le M B
    have cm := miss_spec M (pop M B) S (by omega) hpl hSM
    have eA : pa i = binom M S := by
      have := cntS_eq M S 0 (Nat.pow_pos (by decide))
      unfold cntS at this
      rw [pop_zero, Nat.sub_zero] at this
      rw [kab.out.1, kN.out, ← this]
      refine List.countP_congr fun s _ => ?_
      simp
    have eB : pb i = binom (M - pop M B) S := by
      have := cntS_eq M S B hBM
      unfold cntS at this
      rw [kab.out.2, kN.out, this]
    have ck := ratMake_spec (pb i : Nat) (pa i) (by rw [eA]; have := binom_pos hSM; omega) (by omega) (by have := klb.out i; omega) (by have := kla.out i; omega)
    have er : mkRat ((pb i : Nat) : Int) (pa i) = missR M (pop M B) S := by rw [eA, eB]; exact binom_miss hSM
    rw [er] at ck
    obtain ⟨s1, s2⟩ := missR_small (w := pop M B) (show M ≤ 4096 by omega) hSM
    have cs := same_rat (missR M (pop M B) S) (by have := dl_pow (show S ≤ 40 by omega) s1; omega) (by have := dl_pow (show S ≤ 40 by omega) s2; omega)
    obtain ⟨w, hw⟩ : ∃ w, w = pop M B := ⟨_, rfl⟩
    rw [← hw] at cc cm ck cs
    obtain ⟨X, hX⟩ : ∃ X, X = rC false false (missR M w S) := ⟨_, rfl⟩
    have lX : X.length = 4 := by rw [hX]; rfl
    rw [← hX] at cm ck cs
    have fX := cells_sub lX
    have aX : setCells [.bool false, .nil, .bool false, .nil] 0 X = X := setCells_all X _ lX
    obtain ⟨a, ha⟩ : ∃ a, a = pa i := ⟨_, rfl⟩
    obtain ⟨b', hb'⟩ : ∃ a, a = pb i := ⟨_, rfl⟩
    rw [← ha, ← hb'] at ck
    rw [← ha, ← hb']
    clear ha hb' hX hw er eA eB hpl hBM s1 s2 kpa kpb kla klb kab kN
    repeat' (first 
     | (with_reducible refine Fresh.intro fun b hb => ?_) <;> (try simp -dsimp -implicitDefEqProofs [*] at hb)
     | (with_reducible refine Rets.xcall (cc _) ?_)
     | (with_reducible refine Rets.xcall (cm _) ?_)
     | (with_reducible refine Rets.xcall (ck _) ?_)
     | (with_reducible refine Rets.xcall (cs _) ?_)
     | (simp -dsimp -implicitDefEqProofs [*]))
end Go.Proofs.Ytiaebckdjklnoaa
