/- The code of one function. -/
import Derived.Test.YtiaebckdjklnoaaCode
import Derived.Test.YtiaebckdjklnoaaCpodiumlaw56RiskCounted
set_option maxRecDepth 100000
namespace Go.Proofs.Ytiaebckdjklnoaa
open Go.Pv
/-- podium/podiumlaw56.RiskMonotone -/
noncomputable def C.podiumlaw56_RiskMonotone : MFunc := ⟨140, 3, [.tmp 6],
  (.seq (.region [
    ⟨(some 6), none, .val (.mv (.const (.bool false)))⟩] [])
  (.seq (.seq (.region [
    ⟨(some 26), none, .call (.const (.func (.func F.podiumlaw56_sane) [] [])) []⟩,
    ⟨(some 27), none, .val (.un .not (.tmp 26))⟩] [26])
  (.cond (.tmp 27)
  (.seq (.region [
    ⟨(some 6), none, .val (.mv (.const (.bool false)))⟩] [])
  .ret)
  .skip))
  (.seq (.region [
    ⟨(some 28), none, .val (.mv (.tmp 0))⟩,
    ⟨(some 29), none, .val (.toInt .i64 (.tmp 28))⟩,
    ⟨(some 30), none, .val (.bin .rem T.int (.tmp 29) (.const (.int 40)))⟩,
    ⟨(some 31), none, .val (.bin .add T.int (.const (.int 1)) (.tmp 30))⟩,
    ⟨(some 7), none, .val (.mv (.tmp 31))⟩] [28, 29, 30, 31])
  (.seq (.draw false [
    (.early, ⟨(some 32), none, .val (.mv (.tmp 1))⟩),
    (.early, ⟨(some 33), none, .val (.toInt .i64 (.tmp 32))⟩),
    (.early, ⟨(some 34), none, .val (.mv (.tmp 7))⟩),
    (.early, ⟨(some 35), none, .val (.bin .rem T.int (.tmp 33) (.tmp 34))⟩),
    (.early, ⟨(some 36), none, .val (.mv (.tmp 2))⟩),
    (.early, ⟨(some 37), none, .val (.toInt .i64 (.tmp 36))⟩),
    (.early, ⟨(some 38), none, .val (.mv (.tmp 7))⟩),
    (.early, ⟨(some 39), none, .val (.bin .rem T.int (.tmp 37) (.tmp 38))⟩),
    (.early, ⟨(some 8), none, .val (.mv (.tmp 35))⟩),
    (.early, ⟨(some 9), none, .val (.mv (.tmp 39))⟩)] [32, 33, 34, 35, 36, 37, 38, 39])
  (.seq (.region [
    ⟨(some 41), none, .val (.mv (.tmp 7))⟩,
    ⟨(some 42), none, .val (.mv (.tmp 8))⟩,
    ⟨(some 43), none, .val (.mv (.tmp 9))⟩,
    ⟨(some 44), none, .call (.const (.func (.func F.risk_Miss) [] [])) [(.tmp 41), (.tmp 42), (.tmp 43)]⟩,
    ⟨(some 40), none, .val (.mv (.tmp 44))⟩,
    ⟨(some 45), none, .val (.extract 0 (.tmp 40))⟩,
    ⟨(some 46), none, .val (.extract 1 (.tmp 40))⟩,
    ⟨(some 10), none, .alloc T.apiRatio [(.bool false), .nil, (.bool false), .nil]⟩,
    ⟨none, none, .store 4 (.tmp 10) (.tmp 45)⟩,
    ⟨(some 11), none, .val (.mv (.tmp 46))⟩] [41, 42, 43, 44, 40, 45, 46])
  (.seq (.region [
    ⟨(some 48), none, .val (.mv (.tmp 7))⟩,
    ⟨(some 49), none, .val (.mv (.tmp 9))⟩,
    ⟨(some 50), none, .val (.mv (.tmp 8))⟩,
    ⟨(some 51), none, .call (.const (.func (.func F.risk_Miss) [] [])) [(.tmp 48), (.tmp 49), (.tmp 50)]⟩,
    ⟨(some 47), none, .val (.mv (.tmp 51))⟩,
    ⟨(some 52), none, .val (.extract 0 (.tmp 47))⟩,
    ⟨(some 53), none, .val (.extract 1 (.tmp 47))⟩,
    ⟨(some 12), none, .alloc T.apiRatio [(.bool false), .nil, (.bool false), .nil]⟩,
    ⟨none, none, .store 4 (.tmp 12) (.tmp 52)⟩,
    ⟨(some 13), none, .val (.mv (.tmp 53))⟩] [48, 49, 50, 51, 47, 52, 53])
  (.seq (.seq (.region [
    ⟨(some 54), none, .val (.mv (.tmp 11))⟩,
    ⟨(some 55), none, .val (.bin .neq T.apiErrno (.tmp 54) (.const (.int 0)))⟩,
    ⟨(some 56), none, .val (.mv (.tmp 55))⟩,
    ⟨(some 57), (some (56, false)), .val (.mv (.tmp 13))⟩,
    ⟨(some 58), (some (56, false)), .val (.bin .neq T.apiErrno (.tmp 57) (.const (.int 0)))⟩,
    ⟨(some 59), none, .val (.pick (.tmp 56) (.const (.bool true)) (.tmp 58))⟩,
    ⟨(some 60), none, .val (.mv (.tmp 59))⟩,
    ⟨(some 61), (some (60, false)), .val (.load 4 true (.tmp 10))⟩,
    ⟨(some 62), (some (60, false)), .val (.load 4 true (.tmp 12))⟩,
    ⟨(some 63), (some (60, false)), .call (.const (.func (.func F.podiumref10_Same) [] [])) [(.tmp 61), (.tmp 62)]⟩,
    ⟨(some 64), (some (60, false)), .val (.un .not (.tmp 63))⟩,
    ⟨(some 65), none, .val (.pick (.tmp 60) (.const (.bool true)) (.tmp 64))⟩] [54, 55, 56, 57, 58, 59, 60, 61, 62, 63, 64])
  (.cond (.tmp 65)
  (.seq (.region [
    ⟨(some 6), none, .val (.mv (.const (.bool false)))⟩] [])
  .ret)
  .skip))
  (.seq (.region [
    ⟨(some 67), none, .call (.const (.func (.func F.ratio_Make) [] [])) [(.const (.int 1)), (.const (.int 1))]⟩,
    ⟨(some 66), none, .val (.mv (.tmp 67))⟩,
    ⟨(some 68), none, .val (.extract 0 (.tmp 66))⟩,
    ⟨(some 69), none, .val (.extract 1 (.tmp 66))⟩,
    ⟨(some 14), none, .alloc T.apiRatio [(.bool false), .nil, (.bool false), .nil]⟩,
    ⟨none, none, .store 4 (.tmp 14) (.tmp 68)⟩,
    ⟨(some 15), none, .val (.mv (.tmp 69))⟩] [67, 66, 68, 69])
  (.seq (.region [
    ⟨(some 71), none, .call (.const (.func (.func F.ratio_Make) [] [])) [(.const (.int 0)), (.const (.int 1))]⟩,
    ⟨(some 70), none, .val (.mv (.tmp 71))⟩,
    ⟨(some 72), none, .val (.extract 0 (.tmp 70))⟩,
    ⟨(some 73), none, .val (.extract 1 (.tmp 70))⟩,
    ⟨(some 16), none, .alloc T.apiRatio [(.bool false), .nil, (.bool false), .nil]⟩,
    ⟨none, none, .store 4 (.tmp 16) (.tmp 72)⟩,
    ⟨(some 17), none, .val (.mv (.tmp 73))⟩] [71, 70, 72, 73])
  (.seq (.region [
    ⟨(some 75), none, .val (.load 4 true (.tmp 16))⟩,
    ⟨(some 76), none, .val (.load 4 true (.tmp 10))⟩,
    ⟨(some 77), none, .call (.const (.func (.func F.ratio_Cmp) [] [])) [(.tmp 75), (.tmp 76)]⟩,
    ⟨(some 74), none, .val (.mv (.tmp 77))⟩,
    ⟨(some 78), none, .val (.extract 0 (.tmp 74))⟩,
    ⟨(some 79), none, .val (.extract 1 (.tmp 74))⟩,
    ⟨(some 18), none, .val (.mv (.tmp 78))⟩,
    ⟨(some 19), none, .val (.mv (.tmp 79))⟩] [75, 76, 77, 74, 78, 79])
  (.seq (.region [
    ⟨(some 81), none, .val (.load 4 true (.tmp 10))⟩,
    ⟨(some 82), none, .val (.load 4 true (.tmp 14))⟩,
    ⟨(some 83), none, .call (.const (.func (.func F.ratio_Cmp) [] [])) [(.tmp 81), (.tmp 82)]⟩,
    ⟨(some 80), none, .val (.mv (.tmp 83))⟩,
    ⟨(some 84), none, .val (.extract 0 (.tmp 80))⟩,
    ⟨(some 85), none, .val (.extract 1 (.tmp 80))⟩,
    ⟨(some 20), none, .val (.mv (.tmp 84))⟩,
    ⟨(some 21), none, .val (.mv (.tmp 85))⟩] [81, 82, 83, 80, 84, 85])
  (.seq (.region [
    ⟨(some 87), none, .val (.mv (.tmp 7))⟩,
    ⟨(some 88), none, .val (.mv (.tmp 8))⟩,
    ⟨(some 89), none, .val (.bin .add T.int (.tmp 88) (.const (.int 1)))⟩,
    ⟨(some 90), none, .val (.mv (.tmp 9))⟩,
    ⟨(some 91), none, .val (.load 4 true (.tmp 10))⟩,
    ⟨(some 92), none, .call (.const (.func (.func F.podiumlaw56_greater) [] [])) [(.tmp 87), (.tmp 89), (.tmp 90), (.tmp 91)]⟩,
    ⟨(some 86), none, .val (.mv (.tmp 92))⟩,
    ⟨(some 93), none, .val (.extract 0 (.tmp 86))⟩,
    ⟨(some 94), none, .val (.extract 1 (.tmp 86))⟩,
    ⟨(some 22), none, .val (.mv (.tmp 93))⟩,
    ⟨(some 23), none, .val (.mv (.tmp 94))⟩] [87, 88, 89, 90, 91, 92, 86, 93, 94])
  (.seq (.region [
    ⟨(some 96), none, .val (.mv (.tmp 7))⟩,
    ⟨(some 97), none, .val (.mv (.tmp 8))⟩,
    ⟨(some 98), none, .val (.mv (.tmp 9))⟩,
    ⟨(some 99), none, .val (.bin .add T.int (.tmp 98) (.const (.int 1)))⟩,
    ⟨(some 100), none, .val (.load 4 true (.tmp 10))⟩,
    ⟨(some 101), none, .call (.const (.func (.func F.podiumlaw56_greater) [] [])) [(.tmp 96), (.tmp 97), (.tmp 99), (.tmp 100)]⟩,
    ⟨(some 95), none, .val (.mv (.tmp 101))⟩,
    ⟨(some 102), none, .val (.extract 0 (.tmp 95))⟩,
    ⟨(some 103), none, .val (.extract 1 (.tmp 95))⟩,
    ⟨(some 24), none, .val (.mv (.tmp 102))⟩,
    ⟨(some 25), none, .val (.mv (.tmp 103))⟩] [96, 97, 98, 99, 100, 101, 95, 102, 103])
  (.seq (.region (
    ⟨(some 104), none, .val (.mv (.tmp 15))⟩ ::
    ⟨(some 105), none, .val (.bin .eql T.apiErrno (.tmp 104) (.const (.int 0)))⟩ ::
    ⟨(some 106), none, .val (.mv (.tmp 105))⟩ ::
    ⟨(some 107), (some (106, true)), .val (.mv (.tmp 17))⟩ ::
    ⟨(some 108), (some (106, true)), .val (.bin .eql T.apiErrno (.tmp 107) (.const (.int 0)))⟩ ::
    ⟨(some 109), none, .val (.pick (.tmp 106) (.tmp 108) (.const (.bool false)))⟩ ::
    ⟨(some 110), none, .val (.mv (.tmp 109))⟩ ::
    ⟨(some 111), (some (110, true)), .val (.mv (.tmp 19))⟩ ::
    ⟨(some 112), (some (110, true)), .val (.bin .eql T.apiErrno (.tmp 111) (.const (.int 0)))⟩ ::
    ⟨(some 113), none, .val (.pick (.tmp 110) (.tmp 112) (.const (.bool false)))⟩ ::
    ⟨(some 114), none, .val (.mv (.tmp 113))⟩ ::
    ⟨(some 115), (some (114, true)), .val (.mv (.tmp 21))⟩ ::
    ⟨(some 116), (some (114, true)), .val (.bin .eql T.apiErrno (.tmp 115) (.const (.int 0)))⟩ ::
    ⟨(some 117), none, .val (.pick (.tmp 114) (.tmp 116) (.const (.bool false)))⟩ ::
    ⟨(some 118), none, .val (.mv (.tmp 117))⟩ ::
    ⟨(some 119), (some (118, true)), .val (.mv (.tmp 18))⟩ ::
    ⟨(some 120), (some (118, true)), .val (.bin .leq T.int (.tmp 119) (.const (.int 0)))⟩ ::
    ⟨(some 121), none, .val (.pick (.tmp 118) (.tmp 120) (.const (.bool false)))⟩ ::
    ⟨(some 122), none, .val (.mv (.tmp 121))⟩ ::
    ⟨(some 123), (some (122, true)), .val (.mv (.tmp 20))⟩ ::
    ⟨(some 124), (some (122, true)), .val (.bin .leq T.int (.tmp 123) (.const (.int 0)))⟩ ::
    ⟨(some 125), none, .val (.pick (.tmp 122) (.tmp 124) (.const (.bool false)))⟩ ::
    ⟨(some 126), none, .val (.mv (.tmp 125))⟩ ::
    ⟨(some 127), (some (126, true)), .val (.mv (.tmp 23))⟩ ::
    ⟨(some 128), none, .val (.pick (.tmp 126) (.tmp 127) (.const (.bool false)))⟩ ::
    ⟨(some 129), none, .val (.mv (.tmp 128))⟩ ::
    ⟨(some 130), (some (129, true)), .val (.mv (.tmp 25))⟩ ::
    ⟨(some 131), none, .val (.pick (.tmp 129) (.tmp 130) (.const (.bool false)))⟩ ::
    ⟨(some 132), none, .val (.mv (.tmp 131))⟩ ::
    ⟨(some 133), (some (132, true)), .val (.mv (.tmp 22))⟩ ::
    ⟨(some 134), (some (132, true)), .val (.un .not (.tmp 133))⟩ ::
    ⟨(some 135), none, .val (.pick (.tmp 132) (.tmp 134) (.const (.bool false)))⟩ ::
    ⟨(some 136), none, .val (.mv (.tmp 135))⟩ ::
    ⟨(some 137), (some (136, true)), .val (.mv (.tmp 24))⟩ ::
    ⟨(some 138), (some (136, true)), .val (.un .not (.tmp 137))⟩ ::
    ⟨(some 139), none, .val (.pick (.tmp 136) (.tmp 138) (.const (.bool false)))⟩ ::
    ⟨(some 6), none, .val (.mv (.tmp 139))⟩ :: []) (104 :: 105 :: 106 :: 107 :: 108 :: 109 :: 110 :: 111 :: 112 :: 113 :: 114 :: 115 :: 116 :: 117 :: 118 :: 119 :: 120 :: 121 :: 122 :: 123 :: 124 :: 125 :: 126 :: 127 :: 128 :: 129 :: 130 :: 131 :: 132 :: 133 :: 134 :: 135 :: 136 :: 137 :: 138 :: 139 :: []))
  .ret))))))))))))))⟩
theorem H.podiumlaw56_RiskMonotone : Has P F.podiumlaw56_RiskMonotone C.podiumlaw56_RiskMonotone := ⟨Try.f5, Try.func5, by kernel_rfl, by kernel_rfl⟩
end Go.Proofs.Ytiaebckdjklnoaa
/- RiskMonotone. -/
namespace Go.Proofs.Ytiaebckdjklnoaa
open Go.Pv
set_option maxRecDepth 100000
set_option maxHeartbeats 8000000
theorem small_int (n : Int) (h : n.natAbs < 1073741824) : Small (mkRat n 1) ∧ (mkRat n 1).num = n ∧ (mkRat n 1).den = 1 := by
  have e : mkRat n 1 = (n : Rat) := by rw [Rat.mkRat_one]
  rw [e]
  refine ⟨⟨?_, ?_⟩, rfl, rfl⟩
  · exact Nat.le_trans (dl_one h) (by decide)
  · show dl 1 ≤ 2048
    exact Nat.le_trans (dl_one (by decide)) (by decide)
theorem mono_law (nn ww kk : Int) (hn : 0 ≤ nn ∧ nn < 256) (hw : 0 ≤ ww ∧ ww < 256) (hk : 0 ≤ kk ∧ kk < 256) (st : Store) : Rets P F.podiumlaw56_RiskMonotone [.val (.int .u8 nn), .val (.int .u8 ww), .val (.int .u8 kk)] st (.bool true) := by
  have x1 : IntKind.i64.wrap ww = ww := wrap_in (by omega) (by omega)
  have x2 : IntKind.i64.wrap nn = nn := wrap_in (by omega) (by omega)
  have x3 : IntKind.i64.wrap kk = kk := wrap_in (by omega) (by omega)
  obtain ⟨m, hm⟩ : ∃ m : Nat, nn.tmod 40 = m := ⟨(nn.tmod 40).toNat, by have := Int.tmod_nonneg 40 hn.1; omega⟩
  have hm9 : m < 40 := by have := Int.tmod_lt_of_pos nn (show (0 : Int) < 40 by decide); omega
  obtain ⟨M, hM⟩ : ∃ M : Nat, (1 : Int) + m = M := ⟨1 + m, by omega⟩
  have hM1 : 0 < M ∧ M ≤ 40 := by omega
  have y1 : IntKind.i64.wrap ((1 : Int) + m) = M := by rw [wrap_in (by omega) (by omega)]; exact hM
  have hMne : ¬ M = 0 := by omega
  obtain ⟨W, hW⟩ : ∃ W : Nat, ww.tmod (M : Int) = W := ⟨(ww.tmod (M : Int)).toNat, by have := Int.tmod_nonneg (M : Int) hw.1; omega⟩
  have hWM : W < M := by have := Int.tmod_lt_of_pos ww (show (0 : Int) < (M : Int) by omega); omega
  obtain ⟨K, hK⟩ : ∃ W : Nat, kk.tmod (M : Int) = W := ⟨(kk.tmod (M : Int)).toNat, by have := Int.tmod_nonneg (M : Int) hk.1; omega⟩
  have hKM : K < M := by have := Int.tmod_lt_of_pos kk (show (0 : Int) < (M : Int) by omega); omega
  have z1 := wrap_succ (n := W) (by omega)
  have z2 := wrap_succ (n := K) (by omega)
  have c1 := miss_spec M W K (by omega) (by omega) (by omega)
  have c2 := miss_spec M K W (by omega) (by omega) (by omega)
  rw [← missR_symm (n := M) (w := W) (k := K) (by omega) (by omega)] at c2
  obtain ⟨s1, s2⟩ := missR_small (w := W) (show M ≤ 4096 by omega) (show K ≤ M by omega)
  have d1 := dl_pow (show K ≤ 40 by omega) s1
  have d2 := dl_pow (show K ≤ 40 by omega) s2
  have cs := same_rat (missR M W K) (by omega) (by omega)
  have k1 : ∀ st, Rets P F.ratio_Make [.int 1, .int 1] st (.tuple [.agg (rC false false (mkRat 1 1)), .int 0]) := ratMake_spec 1 1 (by decide) (by decide) (by decide) (by decide)
  have k0 : ∀ st, Rets P F.ratio_Make [.int 0, .int 1] st (.tuple [.agg (rC false false (mkRat 0 1)), .int 0]) := ratMake_spec 0 1 (by decide) (by decide) (by decide) (by decide)
  obtain ⟨r0, n0, e0⟩ := small_int 0 (by decide)
  obtain ⟨r1, n1, e1⟩ := small_int 1 (by decide)
  have o1 : dl 1 ≤ 1 := dl_one (by decide)
  have o0 : dl (0 : Int).natAbs ≤ 1 := dl_one (by decide)
  have oi : dl (1 : Int).natAbs ≤ 1 := dl_one (by decide)
  have q0 := ratCmp_spec false false false false (mkRat 0 1) (missR M W K) r0 ⟨by omega, by omega⟩ (Nat.le_trans (dl_mul_nat _ _) (by rw [n0]; omega)) (Nat.le_trans (dl_mul_nat _ _) (by rw [e0]; omega))
  have q1 := ratCmp_spec false false false false (missR M W K) (mkRat 1 1) ⟨by omega, by omega⟩ r1 (Nat.le_trans (dl_mul_nat _ _) (by rw [e1]; omega)) (Nat.le_trans (dl_mul_nat _ _) (by rw [n1]; omega))
  have l0 : cmpR (mkRat 0 1) (missR M W K) ≤ 0 := cmpR_le.2 (missR_nonneg (by omega))
  have l1 : cmpR (missR M W K) (mkRat 1 1) ≤ 0 := cmpR_le.2 (missR_le1 (by omega))
  have g1 := greater_spec M (W + 1) K (by omega) (by omega) (by omega) false false (missR M W K) d1 d2
  have g2 := greater_spec M W (K + 1) (by omega) (by omega) (by omega) false false (missR M W K) d1 d2
  rw [decide_eq_false (Rat.not_lt.2 (missR_wrong (by omega) (by omega)))] at g1
  rw [decide_eq_false (Rat.not_lt.2 (missR_anti (by omega)))] at g2
  have ew : ((W + 1 : Nat) : Int) = (W : Int) + 1 := by omega
  have ek : ((K + 1 : Nat) : Int) = (K : Int) + 1 := by omega
  rw [ew] at g1
  rw [ek] at g2
  obtain ⟨v0, hv0⟩ : ∃ v, v = cmpR (mkRat 0 1) (missR M W K) := ⟨_, rfl⟩
  obtain ⟨v1, hv1⟩ : ∃ v, v = cmpR (missR M W K) (mkRat 1 1) := ⟨_, rfl⟩
  rw [← hv0] at q0 l0
  rw [← hv1] at q1 l1
  obtain ⟨X, hX⟩ : ∃ X, X = rC false false (missR M W K) := ⟨_, rfl⟩
  obtain ⟨Z, hZ⟩ : ∃ X, X = rC false false (mkRat 0 1) := ⟨_, rfl⟩
  obtain ⟨O, hO⟩ : ∃ X, X = rC false false (mkRat 1 1) := ⟨_, rfl⟩
  have lX : X.length = 4 := by rw [hX]; rfl
  have lZ : Z.length = 4 := by rw [hZ]; rfl
  have lO : O.length = 4 := by rw [hO]; rfl
  rw [← hX] at c1 c2 cs q0 q1 g1 g2
  rw [← hZ] at k0 q0
  rw [← hO] at k1 q1
  have fX := cells_sub lX
  have fZ := cells_sub lZ
  have fO := cells_sub lO
  have aX : setCells [.bool false, .nil, .bool false, .nil] 0 X = X := setCells_all X _ lX
  have aZ : setCells [.bool false, .nil, .bool false, .nil] 0 Z = Z := setCells_all Z _ lZ
  have aO : setCells [.bool false, .nil, .bool false, .nil] 0 O = O := setCells_all O _ lO
  clear hX hZ hO hv0 hv1 ew ek d1 d2 s1 s2 r0 r1 n0 n1 e0 e1 o1 o0 oi hn hw hk hm9 hM
  refine H.podiumlaw56_RiskMonotone.pure hmix rfl rfl ?_
  repeat' (first 
   | (with_reducible refine Fresh.intro fun b hb => ?_) <;> (try simp -dsimp -implicitDefEqProofs [*] at hb)
   | (with_reducible refine Rets.xcall (sane_spec _) ?_)
   | (with_reducible refine Rets.xcall (c1 _) ?_)
   | (with_reducible refine Rets.xcall (c2 _) ?_)
   | (with_reducible refine Rets.xcall (cs _) ?_)
   | (with_reducible refine Rets.xcall (k1 _) ?_)
   | (with_reducible refine Rets.xcall (k0 _) ?_)
   | (with_reducible refine Rets.xcall (q0 _) ?_)
   | (with_reducible refine Rets.xcall (q1 _) ?_)
   | (with_reducible refine Rets.xcall (g1 _) ?_)
   | (with_reducible refine Rets.xcall (g2 _) ?_)
   | (simp -dsimp -implicitDefEqProofs [*]))
end Go.Proofs.Ytiaebckdjklnoaa
