/- The code of one function. -/
import Derived.Test.YtiaebckdjklnoaaGreatCode
import Derived.Test.YtiaebckdjklnoaaGreatG56ZJ
set_option maxRecDepth 100000
namespace Go.Proofs.YtiaebckdjklnoaaGreat
open Go.Pv
/-- podium/podiumlaw56.RiskEnough -/
noncomputable def C.podiumlaw56_RiskEnough : MFunc := ⟨83, 3, [.tmp 6],
  (.seq (.region [
    ⟨(some 5), none, .box T.apiRatio (.tmp 2)⟩,
    ⟨(some 6), none, .val (.mv (.const (.bool false)))⟩] [])
  (.seq (.seq (.region [
    ⟨(some 14), none, .call (.const (.func (.func F.podiumlaw56_sane) [] [])) []⟩,
    ⟨(some 15), none, .val (.un .not (.tmp 14))⟩] [14])
  (.cond (.tmp 15)
  (.seq (.region [
    ⟨(some 6), none, .val (.mv (.const (.bool false)))⟩] [])
  .ret)
  .skip))
  (.seq (.region [
    ⟨(some 16), none, .val (.mv (.tmp 0))⟩,
    ⟨(some 17), none, .val (.toInt .i64 (.tmp 16))⟩,
    ⟨(some 18), none, .val (.bin .rem T.int (.tmp 17) (.const (.int 20)))⟩,
    ⟨(some 19), none, .val (.bin .add T.int (.const (.int 1)) (.tmp 18))⟩,
    ⟨(some 7), none, .val (.mv (.tmp 19))⟩] [16, 17, 18, 19])
  (.seq (.region [
    ⟨(some 20), none, .val (.mv (.tmp 1))⟩,
    ⟨(some 21), none, .val (.toInt .i64 (.tmp 20))⟩,
    ⟨(some 22), none, .val (.mv (.tmp 7))⟩,
    ⟨(some 23), none, .val (.bin .rem T.int (.tmp 21) (.tmp 22))⟩,
    ⟨(some 24), none, .val (.bin .add T.int (.const (.int 1)) (.tmp 23))⟩,
    ⟨(some 8), none, .val (.mv (.tmp 24))⟩] [20, 21, 22, 23, 24])
  (.seq (.seq (.region [
    ⟨(some 25), none, .val (.load 4 true (.tmp 5))⟩,
    ⟨(some 26), none, .call (.const (.func (.func F.podiumref10_Few) [] [])) [(.tmp 25), (.const (.int 4))]⟩,
    ⟨(some 27), none, .val (.un .not (.tmp 26))⟩,
    ⟨(some 28), none, .val (.mv (.tmp 27))⟩,
    ⟨(some 29), (some (28, false)), .val (.load 4 true (.tmp 5))⟩,
    ⟨(some 30), (some (28, false)), .call (.const (.func (.func F.podiumref10_Check) [] [])) [(.tmp 29)]⟩,
    ⟨(some 31), (some (28, false)), .val (.bin .neq T.apiErrno (.tmp 30) (.const (.int 0)))⟩,
    ⟨(some 32), none, .val (.pick (.tmp 28) (.const (.bool true)) (.tmp 31))⟩] [25, 26, 27, 28, 29, 30, 31])
  (.cond (.tmp 32)
  (.seq (.region [
    ⟨(some 6), none, .val (.mv (.const (.bool true)))⟩] [])
  .ret)
  .skip))
  (.seq (.region [
    ⟨(some 34), none, .val (.mv (.tmp 7))⟩,
    ⟨(some 35), none, .val (.mv (.tmp 8))⟩,
    ⟨(some 36), none, .val (.load 4 true (.tmp 5))⟩,
    ⟨(some 37), none, .call (.const (.func (.func F.risk_Need) [] [])) [(.tmp 34), (.tmp 35), (.tmp 36)]⟩,
    ⟨(some 33), none, .val (.mv (.tmp 37))⟩,
    ⟨(some 38), none, .val (.extract 0 (.tmp 33))⟩,
    ⟨(some 39), none, .val (.extract 1 (.tmp 33))⟩,
    ⟨(some 9), none, .val (.mv (.tmp 38))⟩,
    ⟨(some 10), none, .val (.mv (.tmp 39))⟩] [34, 35, 36, 37, 33, 38, 39])
  (.seq (.seq (.region [
    ⟨(some 40), none, .val (.load 4 true (.tmp 5))⟩,
    ⟨(some 41), none, .call (.const (.func (.func F.podiumref56_Limit) [] [])) [(.tmp 40)]⟩,
    ⟨(some 42), none, .val (.un .not (.tmp 41))⟩] [40, 41])
  (.cond (.tmp 42)
  (.seq (.region [
    ⟨(some 43), none, .val (.mv (.tmp 10))⟩,
    ⟨(some 44), none, .val (.bin .eql T.apiErrno (.tmp 43) (.const (.int 560)))⟩,
    ⟨(some 45), none, .val (.mv (.tmp 44))⟩,
    ⟨(some 46), (some (45, true)), .val (.mv (.tmp 9))⟩,
    ⟨(some 47), (some (45, true)), .val (.bin .eql T.int (.tmp 46) (.const (.int 0)))⟩,
    ⟨(some 48), none, .val (.pick (.tmp 45) (.tmp 47) (.const (.bool false)))⟩,
    ⟨(some 6), none, .val (.mv (.tmp 48))⟩] [43, 44, 45, 46, 47, 48])
  .ret)
  .skip))
  (.seq (.seq (.region [
    ⟨(some 49), none, .val (.mv (.tmp 10))⟩,
    ⟨(some 50), none, .val (.bin .neq T.apiErrno (.tmp 49) (.const (.int 0)))⟩,
    ⟨(some 51), none, .val (.mv (.tmp 50))⟩,
    ⟨(some 52), (some (51, false)), .val (.mv (.tmp 9))⟩,
    ⟨(some 53), (some (51, false)), .val (.bin .lss T.int (.tmp 52) (.const (.int 0)))⟩,
    ⟨(some 54), none, .val (.pick (.tmp 51) (.const (.bool true)) (.tmp 53))⟩,
    ⟨(some 55), none, .val (.mv (.tmp 54))⟩,
    ⟨(some 56), (some (55, false)), .val (.mv (.tmp 9))⟩,
    ⟨(some 57), (some (55, false)), .val (.mv (.tmp 7))⟩,
    ⟨(some 58), (some (55, false)), .val (.bin .gtr T.int (.tmp 56) (.tmp 57))⟩,
    ⟨(some 59), none, .val (.pick (.tmp 55) (.const (.bool true)) (.tmp 58))⟩] [49, 50, 51, 52, 53, 54, 55, 56, 57, 58])
  (.cond (.tmp 59)
  (.seq (.region [
    ⟨(some 6), none, .val (.mv (.const (.bool false)))⟩] [])
  .ret)
  .skip))
  (.seq (.seq (.region [
    ⟨(some 60), none, .val (.mv (.tmp 7))⟩,
    ⟨(some 61), none, .val (.bin .add T.int (.tmp 60) (.const (.int 1)))⟩,
    ⟨(some 62), none, .val (.mv (.const (.int 0)))⟩] [60])
  (.block 0 (.loop (.seq (.region [
    ⟨(some 63), none, .val (.bin .lss T.int (.tmp 62) (.tmp 61))⟩] [])
  (.seq (.cond (.tmp 63)
  .skip
  (.exit 0))
  (.seq (.block 1 (.seq (.region [
    ⟨(some 64), none, .val (.mv (.tmp 62))⟩,
    ⟨(some 11), none, .val (.mv (.tmp 64))⟩] [64])
  (.seq (.region [
    ⟨(some 66), none, .val (.mv (.tmp 7))⟩,
    ⟨(some 67), none, .val (.mv (.tmp 8))⟩,
    ⟨(some 68), none, .val (.mv (.tmp 11))⟩,
    ⟨(some 69), none, .val (.load 4 true (.tmp 5))⟩,
    ⟨(some 70), none, .call (.const (.func (.func F.podiumlaw56_greater) [] [])) [(.tmp 66), (.tmp 67), (.tmp 68), (.tmp 69)]⟩,
    ⟨(some 65), none, .val (.mv (.tmp 70))⟩,
    ⟨(some 71), none, .val (.extract 0 (.tmp 65))⟩,
    ⟨(some 72), none, .val (.extract 1 (.tmp 65))⟩,
    ⟨(some 12), none, .val (.mv (.tmp 71))⟩,
    ⟨(some 13), none, .val (.mv (.tmp 72))⟩] [66, 67, 68, 69, 70, 65, 71, 72])
  (.seq (.region [
    ⟨(some 73), none, .val (.mv (.tmp 13))⟩,
    ⟨(some 74), none, .val (.un .not (.tmp 73))⟩,
    ⟨(some 75), none, .val (.mv (.tmp 74))⟩,
    ⟨(some 76), (some (75, false)), .val (.mv (.tmp 12))⟩,
    ⟨(some 77), (some (75, false)), .val (.mv (.tmp 11))⟩,
    ⟨(some 78), (some (75, false)), .val (.mv (.tmp 9))⟩,
    ⟨(some 79), (some (75, false)), .val (.bin .lss T.int (.tmp 77) (.tmp 78))⟩,
    ⟨(some 80), (some (75, false)), .val (.eqBool true (.tmp 76) (.tmp 79))⟩,
    ⟨(some 81), none, .val (.pick (.tmp 75) (.const (.bool true)) (.tmp 80))⟩] [73, 74, 75, 76, 77, 78, 79, 80])
  (.cond (.tmp 81)
  (.seq (.region [
    ⟨(some 6), none, .val (.mv (.const (.bool false)))⟩] [])
  .ret)
  .skip)))))
  (.region [
    ⟨(some 82), none, .val (.bin .add T.int (.tmp 62) (.const (.int 1)))⟩,
    ⟨(some 62), none, .val (.mv (.tmp 82))⟩] [82])))))))
  (.seq (.region [
    ⟨(some 6), none, .val (.mv (.const (.bool true)))⟩] [])
  .ret))))))))))⟩
theorem H.podiumlaw56_RiskEnough : Has P F.podiumlaw56_RiskEnough C.podiumlaw56_RiskEnough := ⟨Tryz.f4, Tryz.func4, by kernel_rfl, by kernel_rfl⟩
end Go.Proofs.YtiaebckdjklnoaaGreat
/- RiskEnough. -/
namespace Go.Proofs.YtiaebckdjklnoaaGreat
open Go.Pv
set_option maxRecDepth 100000
set_option maxHeartbeats 16000000
theorem enough_law (nn ww : Int) (hn : 0 ≤ nn ∧ nn < 256) (hw : 0 ≤ ww ∧ ww < 256) (s1 t1 s2 t2 : Bool) (L1 L2 : List Int) (st : Store) : Rets P F.podiumlaw56_RiskEnough [.val (.int .u8 nn), .val (.int .u8 ww), .agg [.bool s1, intLst t1 L1, .bool s2, intLst t2 L2]] st (.bool true) := by
  have x1 : IntKind.i64.wrap nn = nn := wrap_in (by omega) (by omega)
  have x2 : IntKind.i64.wrap ww = ww := wrap_in (by omega) (by omega)
  obtain ⟨m, hm⟩ : ∃ m : Nat, nn.tmod 20 = m := ⟨(nn.tmod 20).toNat, by have := Int.tmod_nonneg 20 hn.1; omega⟩
  have hm9 : m < 20 := by have := Int.tmod_lt_of_pos nn (show (0 : Int) < 20 by decide); omega
  obtain ⟨M, hM⟩ : ∃ M : Nat, (1 : Int) + m = M := ⟨1 + m, by omega⟩
  have hM1 : 0 < M ∧ M ≤ 20 := by omega
  have y1 : IntKind.i64.wrap ((1 : Int) + m) = M := by rw [wrap_in (by omega) (by omega)]; exact hM
  have hMne : ¬ M = 0 := by omega
  obtain ⟨W0, hW⟩ : ∃ W : Nat, ww.tmod (M : Int) = W := ⟨(ww.tmod (M : Int)).toNat, by have := Int.tmod_nonneg (M : Int) hw.1; omega⟩
  have hWM : W0 < M := by have := Int.tmod_lt_of_pos ww (show (0 : Int) < (M : Int) by omega); omega
  obtain ⟨W, hW2⟩ : ∃ W : Nat, (1 : Int) + W0 = W := ⟨1 + W0, by omega⟩
  have hW1 : 0 < W ∧ W ≤ M := by omega
  have y2 : IntKind.i64.wrap ((1 : Int) + W0) = W := by rw [wrap_in (by omega) (by omega)]; exact hW2
  have y3 : IntKind.i64.wrap ((M : Int) + 1) = (M : Int) + 1 := wrap_succ (by omega)
  have cf := few10_spec s1 t1 s2 t2 L1 L2 4
  clear hM hW2
  cases hf : (fewB L1 4 && fewB L2 4) with
  | false =>
    rw [hf] at cf
    clear hf
    refine H.podiumlaw56_RiskEnough.pure hmix rfl rfl ?_
    repeat' (first 
     | (with_reducible refine Fresh.intro fun b hb => ?_) <;> (try simp -dsimp -implicitDefEqProofs [*] at hb)
     | (with_reducible refine Rets.xcall (sane_spec _) ?_)
     | (with_reducible refine Rets.xcall (cf _) ?_)
     | (simp -dsimp -implicitDefEqProofs [*]))
  | true =>
    rw [hf] at cf
    rw [Bool.and_eq_true] at hf
    have f1 := few4 hf.1
    have f2 := few4 hf.2
    have cc := rCheck10_spec s1 t1 s2 t2 L1 L2 (by unfold Few3 at f1; omega) (by unfold Few3 at f2; omega)
    cases h3 : ratOk s1 L1 s2 L2 with
    | false =>
      rw [h3] at cc
      have cc : ∀ st, Rets P F.podiumref10_Check [.agg [.bool s1, intLst t1 L1, .bool s2, intLst t2 L2]] st (.int 100) := cc
      clear hf f1 f2 h3
      refine H.podiumlaw56_RiskEnough.pure hmix rfl rfl ?_
      repeat' (first 
       | (with_reducible refine Fresh.intro fun b hb => ?_) <;> (try simp -dsimp -implicitDefEqProofs [*] at hb)
       | (with_reducible refine Rets.xcall (sane_spec _) ?_)
       | (with_reducible refine Rets.xcall (cf _) ?_)
       | (with_reducible refine Rets.xcall (cc _) ?_)
       | (simp -dsimp -implicitDefEqProofs [*]))
    | true =>
      rw [h3] at cc
      have cc : ∀ st, Rets P F.podiumref10_Check [.agg [.bool s1, intLst t1 L1, .bool s2, intLst t2 L2]] st (.int 0) := cc
      obtain ⟨q, hq⟩ := ratOk_iff.1 h3
      have ca := need_spec M W (.inl (by omega)) s1 t1 s2 t2 L1 L2 f1 f2
      have eV := IsRat.val hq
      have d1 : dl q.num.natAbs ≤ 4 := by have := hq.n; have e := congrArg List.length hq.L1; unfold Few3 at f1; unfold dl at *; omega
      have d2 : dl q.den ≤ 4 := by have := hq.d; have e := congrArg List.length hq.L2; unfold Few3 at f2; unfold dl at *; omega
      have eE : needE M W s1 L1 s2 L2 = if 0 < q ∧ q ≤ 1 then 0 else 560 := by
        unfold needE
        rw [show (wi M 4096 && wi W M) = true by simp [wi]; omega, h3, eV]
        have : ¬ W = 0 := by omega
        simp [this]
      have ec := hq.cells t1 t2
      have cl := rLimit_spec t1 t2 q (by omega) (by omega)
      rw [← ec] at cl
      obtain ⟨V, hV⟩ : ∃ V, V = [.bool s1, intLst t1 L1, .bool s2, intLst t2 L2] := ⟨_, rfl⟩
      by_cases hl : 0 < q ∧ q ≤ 1
      · rw [if_pos hl] at eE
        rw [decide_eq_true hl] at cl
        have eK : needK M W s1 L1 s2 L2 = needR M W q := by
          unfold needK
          rw [eE, if_pos rfl, eV]
          simp
        rw [eE, eK] at ca
        obtain ⟨r1, r2, r3⟩ := needR_spec (needR_last (n := M) (w := W) (by omega) (by omega) hl.1)
        have cg := fun k (hk : k ≤ M) => greater_spec M W k (by omega) (by omega) hk t1 t2 q (by omega) (by omega)
        rw [← ec] at cg
        have cg2 : ∀ k, k ≤ M → ∀ st, Rets P F.podiumlaw56_greater [.int M, .int W, .int k, .agg [.bool s1, intLst t1 L1, .bool s2, intLst t2 L2]] st (.tuple [.bool (decide (k < needR M W q)), .bool true]) := fun k hk st => by
          have := cg k hk st
          rwa [show decide (q < missR M W k) = decide (k < needR M W q) from decide_eq_decide.2 ⟨fun h => by
            by_cases h2 : k < needR M W q
            · exact h2
            · exact absurd (Rat.le_trans (missR_mono (show needR M W q ≤ k by omega) hk) r2) (Rat.not_le.2 h), fun h => Rat.not_le.1 (r3 k h)⟩] at this
        obtain ⟨R, hR⟩ : ∃ R, R = needR M W q := ⟨_, rfl⟩
        rw [← hR] at ca cg2 r1
        have hRM : ¬ ((M : Int) < R) := by omega
        have kg : Hid _ := ⟨cg2⟩
        rw [← hV] at ca cc cf cl kg ⊢
        have lV : V.length = 4 := by rw [hV]; rfl
        have fV := cells_sub lV
        clear cg cg2 hR r2 r3 eK eE hl ec d1 d2 eV hq h3 hf f1 f2 hV
        refine H.podiumlaw56_RiskEnough.pure hmix rfl rfl ?_
        repeat' (first 
         | (with_reducible refine Fresh.intro fun b hb => ?_) <;> (try simp -dsimp -implicitDefEqProofs [*] at hb)
         | (with_reducible refine Rets.xcall (sane_spec _) ?_)
         | (with_reducible refine Rets.xcall (cf _) ?_)
         | (with_reducible refine Rets.xcall (cc _) ?_)
         | (with_reducible refine Rets.xcall (ca _) ?_)
         | (with_reducible refine Rets.xcall (cl _) ?_)
         | (simp -dsimp -implicitDefEqProofs [*]))
        clear cf cc ca cl x1 x2 y1 y2 y3
        refine xloop_for (fun y : Nat => [(62, .int y), (61, .int ((M : Int) + 1)), (9, .int R), (8, .int W), (7, .int M), (6, .bool false), (5, .ptr b 0)]) (fun _ => (b, .arr T.apiRatio V) :: st) (fun y => y ≤ M + 1) (fun y => M + 1 - y) 0 (Nat.zero_le _) (by simp) (.refl _) ?_
        intro k hk
        by_cases hkM : k ≤ M
        · have x5 := wrap_succ (n := k) (by omega)
          have cg := kg.out k hkM
          have h0 : (k : Int) < (M : Int) + 1 := by omega
          clear kg
          by_cases h1 : k < R
          · rw [decide_eq_true h1] at cg
            repeat' (first 
             | (with_reducible refine Rets.xcall (cg _) ?_)
             | (simp -dsimp -implicitDefEqProofs [*]))
            exact Next.intro (k + 1) (by omega) (by omega) (by simp) (.refl _)
          · rw [decide_eq_false h1] at cg
            repeat' (first 
             | (with_reducible refine Rets.xcall (cg _) ?_)
             | (simp -dsimp -implicitDefEqProofs [*]))
            exact Next.intro (k + 1) (by omega) (by omega) (by simp) (.refl _)
        · have e : k = M + 1 := by omega
          subst e
          clear kg
          repeat' (simp -dsimp -implicitDefEqProofs [*])
      · rw [if_neg hl] at eE
        rw [decide_eq_false hl] at cl
        have eK : needK M W s1 L1 s2 L2 = 0 := by
          unfold needK
          rw [eE, if_neg (by decide)]
        rw [eE, eK] at ca
        rw [← hV] at ca cc cf cl ⊢
        have lV : V.length = 4 := by rw [hV]; rfl
        have fV := cells_sub lV
        clear eK eE hl ec d1 d2 eV hq h3 hf f1 f2 hV
        refine H.podiumlaw56_RiskEnough.pure hmix rfl rfl ?_
        repeat' (first 
         | (with_reducible refine Fresh.intro fun b hb => ?_) <;> (try simp -dsimp -implicitDefEqProofs [*] at hb)
         | (with_reducible refine Rets.xcall (sane_spec _) ?_)
         | (with_reducible refine Rets.xcall (cf _) ?_)
         | (with_reducible refine Rets.xcall (cc _) ?_)
         | (with_reducible refine Rets.xcall (ca _) ?_)
         | (with_reducible refine Rets.xcall (cl _) ?_)
         | (simp -dsimp -implicitDefEqProofs [*]))
end Go.Proofs.YtiaebckdjklnoaaGreat
