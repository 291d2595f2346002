/- The code of one function. -/
import Derived.Test.YtokkkmfbejgccaaCode
import Derived.Test.YtokkkmfbejgccaaS57ZG
set_option maxRecDepth 100000
namespace Go.Proofs.Ytokkkmfbejgccaa
open Go.Pv
/-- podium/podiumlaw57.RecountEnough -/
noncomputable def C.podiumlaw57_RecountEnough : MFunc := ⟨144, 5, [.tmp 10],
  (.seq (.region [
    ⟨(some 7), none, .box T.apiRatio (.tmp 2)⟩,
    ⟨(some 10), none, .val (.mv (.const (.bool false)))⟩] [])
  (.seq (.seq (.region [
    ⟨(some 24), none, .call (.const (.func (.func F.podiumlaw57_sane) [] [])) []⟩,
    ⟨(some 25), none, .val (.un .not (.tmp 24))⟩] [24])
  (.cond (.tmp 25)
  (.seq (.region [
    ⟨(some 10), none, .val (.mv (.const (.bool false)))⟩] [])
  .ret)
  .skip))
  (.seq (.seq (.region [
    ⟨(some 26), none, .val (.mv (.tmp 0))⟩,
    ⟨(some 27), none, .val (.bin .gtr T.int (.tmp 26) (.const (.int 12)))⟩,
    ⟨(some 28), none, .val (.mv (.tmp 27))⟩,
    ⟨(some 29), (some (28, false)), .val (.mv (.tmp 3))⟩,
    ⟨(some 30), (some (28, false)), .val (.len (.tmp 29))⟩,
    ⟨(some 31), (some (28, false)), .val (.mv (.tmp 0))⟩,
    ⟨(some 32), (some (28, false)), .val (.bin .neq T.int (.tmp 30) (.tmp 31))⟩,
    ⟨(some 33), none, .val (.pick (.tmp 28) (.const (.bool true)) (.tmp 32))⟩,
    ⟨(some 34), none, .val (.mv (.tmp 33))⟩,
    ⟨(some 35), (some (34, false)), .val (.mv (.tmp 0))⟩,
    ⟨(some 36), (some (34, false)), .val (.load 4 true (.tmp 7))⟩,
    ⟨(some 37), (some (34, false)), .call (.const (.func (.func F.podiumref57_Few) [] [])) [(.tmp 35), (.tmp 36)]⟩,
    ⟨(some 38), (some (34, false)), .val (.un .not (.tmp 37))⟩,
    ⟨(some 39), none, .val (.pick (.tmp 34) (.const (.bool true)) (.tmp 38))⟩] [26, 27, 28, 29, 30, 31, 32, 33, 34, 35, 36, 37, 38])
  (.cond (.tmp 39)
  (.seq (.region [
    ⟨(some 10), none, .val (.mv (.const (.bool true)))⟩] [])
  .ret)
  .skip))
  (.seq (.region [
    ⟨(some 41), none, .val (.mv (.tmp 0))⟩,
    ⟨(some 42), none, .val (.mv (.tmp 1))⟩,
    ⟨(some 43), none, .val (.load 4 true (.tmp 7))⟩,
    ⟨(some 44), none, .call (.const (.func (.func F.recount_Start) [] [])) [(.tmp 41), (.tmp 42), (.tmp 43)]⟩,
    ⟨(some 40), none, .val (.mv (.tmp 44))⟩,
    ⟨(some 45), none, .val (.extract 0 (.tmp 40))⟩,
    ⟨(some 46), none, .val (.extract 1 (.tmp 40))⟩,
    ⟨(some 11), none, .alloc T.apiRecount [(.int 0), (.int 0), (.bool false), .nil, (.bool false), .nil, (.int 0), (.int 0)]⟩,
    ⟨none, none, .store 8 (.tmp 11) (.tmp 45)⟩,
    ⟨(some 12), none, .val (.mv (.tmp 46))⟩] [41, 42, 43, 44, 40, 45, 46])
  (.seq (.seq (.region [
    ⟨(some 47), none, .val (.mv (.tmp 12))⟩,
    ⟨(some 48), none, .val (.bin .neq T.apiErrno (.tmp 47) (.const (.int 0)))⟩] [47])
  (.cond (.tmp 48)
  (.seq (.region [
    ⟨(some 10), none, .val (.mv (.const (.bool true)))⟩] [])
  .ret)
  .skip))
  (.seq (.region [
    ⟨(some 49), none, .val (.mv (.tmp 0))⟩,
    ⟨(some 50), none, .val (.minmax true [(.const (.int 0)), (.tmp 49)])⟩,
    ⟨(some 51), none, .mkSlice T.bool 1 1 [(.bool false)] (.tmp 50) (.tmp 50)⟩,
    ⟨(some 13), none, .val (.mv (.tmp 51))⟩] [49, 50, 51])
  (.seq (.seq (.region [
    ⟨(some 52), none, .val (.mv (.tmp 13))⟩,
    ⟨(some 53), none, .val (.len (.tmp 52))⟩,
    ⟨(some 54), none, .val (.mv (.const (.int 0)))⟩] [52])
  (.block 0 (.loop (.seq (.region [
    ⟨(some 55), none, .val (.bin .lss T.int (.tmp 54) (.tmp 53))⟩] [])
  (.seq (.cond (.tmp 55)
  .skip
  (.exit 0))
  (.seq (.block 1 (.seq (.region [
    ⟨(some 56), none, .val (.mv (.tmp 54))⟩,
    ⟨(some 14), none, .val (.mv (.tmp 56))⟩] [56])
  (.region [
    ⟨(some 57), none, .val (.mv (.tmp 13))⟩,
    ⟨(some 58), none, .val (.mv (.tmp 14))⟩,
    ⟨(some 59), none, .val (.indexAddr 1 (.tmp 57) (.tmp 58))⟩,
    ⟨none, none, .store 1 (.tmp 59) (.const (.bool true))⟩] [57, 58, 59])))
  (.region [
    ⟨(some 60), none, .val (.bin .add T.int (.tmp 54) (.const (.int 1)))⟩,
    ⟨(some 54), none, .val (.mv (.tmp 60))⟩] [60])))))))
  (.seq (.region [
    ⟨(some 62), none, .val (.mv (.tmp 0))⟩,
    ⟨(some 63), none, .val (.mv (.tmp 1))⟩,
    ⟨(some 64), none, .val (.load 4 true (.tmp 7))⟩,
    ⟨(some 65), none, .call (.const (.func (.func F.risk_Need) [] [])) [(.tmp 62), (.tmp 63), (.tmp 64)]⟩,
    ⟨(some 61), none, .val (.mv (.tmp 65))⟩,
    ⟨(some 66), none, .val (.extract 0 (.tmp 61))⟩,
    ⟨(some 67), none, .val (.extract 1 (.tmp 61))⟩,
    ⟨(some 15), none, .val (.mv (.tmp 66))⟩,
    ⟨(some 16), none, .val (.mv (.tmp 67))⟩] [62, 63, 64, 65, 61, 66, 67])
  (.seq (.region [
    ⟨(some 69), none, .val (.load 8 true (.tmp 11))⟩,
    ⟨(some 70), none, .val (.mv (.tmp 3))⟩,
    ⟨(some 71), none, .val (.mv (.tmp 13))⟩,
    ⟨(some 72), none, .call (.const (.func (.func F.recount_Run) [] [])) [(.tmp 69), (.tmp 70), (.tmp 71)]⟩,
    ⟨(some 68), none, .val (.mv (.tmp 72))⟩,
    ⟨(some 73), none, .val (.extract 0 (.tmp 68))⟩,
    ⟨(some 74), none, .val (.extract 1 (.tmp 68))⟩,
    ⟨(some 75), none, .val (.extract 2 (.tmp 68))⟩,
    ⟨(some 17), none, .alloc T.apiRecount [(.int 0), (.int 0), (.bool false), .nil, (.bool false), .nil, (.int 0), (.int 0)]⟩,
    ⟨none, none, .store 8 (.tmp 17) (.tmp 73)⟩,
    ⟨(some 18), none, .val (.mv (.tmp 74))⟩,
    ⟨(some 19), none, .val (.mv (.tmp 75))⟩] [69, 70, 71, 72, 68, 73, 74, 75])
  (.seq (.seq (.region [
    ⟨(some 76), none, .val (.mv (.tmp 19))⟩,
    ⟨(some 77), none, .val (.bin .neq T.apiErrno (.tmp 76) (.const (.int 0)))⟩] [76])
  (.cond (.tmp 77)
  (.seq (.region [
    ⟨(some 78), none, .val (.mv (.tmp 19))⟩,
    ⟨(some 79), none, .val (.bin .eql T.apiErrno (.tmp 78) (.const (.int 1)))⟩,
    ⟨(some 10), none, .val (.mv (.tmp 79))⟩] [78, 79])
  .ret)
  .skip))
  (.seq (.seq (.region [
    ⟨(some 80), none, .val (.mv (.tmp 16))⟩,
    ⟨(some 81), none, .val (.bin .neq T.apiErrno (.tmp 80) (.const (.int 0)))⟩,
    ⟨(some 82), none, .val (.mv (.tmp 81))⟩,
    ⟨(some 83), (some (82, false)), .val (.fieldAddr 7 (.tmp 17))⟩,
    ⟨(some 84), (some (82, false)), .val (.load 1 false (.tmp 83))⟩,
    ⟨(some 85), (some (82, false)), .val (.bin .neq T.int (.tmp 84) (.const (.int 1)))⟩,
    ⟨(some 86), none, .val (.pick (.tmp 82) (.const (.bool true)) (.tmp 85))⟩,
    ⟨(some 87), none, .val (.mv (.tmp 86))⟩,
    ⟨(some 88), (some (87, false)), .val (.mv (.tmp 18))⟩,
    ⟨(some 89), (some (87, false)), .val (.mv (.tmp 15))⟩,
    ⟨(some 90), (some (87, false)), .val (.bin .neq T.int (.tmp 88) (.tmp 89))⟩,
    ⟨(some 91), none, .val (.pick (.tmp 87) (.const (.bool true)) (.tmp 90))⟩,
    ⟨(some 92), none, .val (.mv (.tmp 91))⟩,
    ⟨(some 93), (some (92, false)), .val (.fieldAddr 6 (.tmp 17))⟩,
    ⟨(some 94), (some (92, false)), .val (.load 1 false (.tmp 93))⟩,
    ⟨(some 95), (some (92, false)), .val (.mv (.tmp 15))⟩,
    ⟨(some 96), (some (92, false)), .val (.bin .neq T.int (.tmp 94) (.tmp 95))⟩,
    ⟨(some 97), none, .val (.pick (.tmp 92) (.const (.bool true)) (.tmp 96))⟩] [80, 81, 82, 83, 84, 85, 86, 87, 88, 89, 90, 91, 92, 93, 94, 95, 96])
  (.cond (.tmp 97)
  (.seq (.region [
    ⟨(some 10), none, .val (.mv (.const (.bool false)))⟩] [])
  .ret)
  .skip))
  (.seq (.region [
    ⟨(some 98), none, .val (.mv (.tmp 4))⟩,
    ⟨(some 99), none, .val (.toInt .i64 (.tmp 98))⟩,
    ⟨(some 100), none, .val (.mv (.tmp 0))⟩,
    ⟨(some 101), none, .val (.bin .add T.int (.tmp 100) (.const (.int 1)))⟩,
    ⟨(some 102), none, .val (.bin .rem T.int (.tmp 99) (.tmp 101))⟩,
    ⟨(some 20), none, .val (.mv (.tmp 102))⟩] [98, 99, 100, 101, 102])
  (.seq (.draw true [
    (.late, ⟨(some 104), none, .val (.load 8 true (.tmp 11))⟩),
    (.late, ⟨(some 105), none, .val (.mv (.tmp 3))⟩),
    (.late, ⟨(some 106), none, .val (.mv (.tmp 20))⟩),
    (.late, ⟨(some 107), none, .val (.slice 1 (.tmp 105) none (some (.tmp 106)) none)⟩),
    (.late, ⟨(some 108), none, .val (.mv (.tmp 13))⟩),
    (.late, ⟨(some 109), none, .call (.const (.func (.func F.recount_Run) [] [])) [(.tmp 104), (.tmp 107), (.tmp 108)]⟩),
    (.late, ⟨(some 103), none, .val (.mv (.tmp 109))⟩),
    (.late, ⟨(some 110), none, .val (.extract 0 (.tmp 103))⟩),
    (.late, ⟨(some 111), none, .val (.extract 1 (.tmp 103))⟩),
    (.late, ⟨(some 112), none, .val (.extract 2 (.tmp 103))⟩),
    (.hard, ⟨(some 21), none, .alloc T.apiRecount [(.int 0), (.int 0), (.bool false), .nil, (.bool false), .nil, (.int 0), (.int 0)]⟩),
    (.last, ⟨none, none, .store 8 (.tmp 21) (.tmp 110)⟩),
    (.late, ⟨(some 22), none, .val (.mv (.tmp 111))⟩),
    (.late, ⟨(some 23), none, .val (.mv (.tmp 112))⟩)] [104, 105, 106, 107, 108, 109, 103, 110, 111, 112])
  (.seq (.seq (.region [
    ⟨(some 113), none, .val (.mv (.tmp 23))⟩,
    ⟨(some 114), none, .val (.bin .neq T.apiErrno (.tmp 113) (.const (.int 0)))⟩,
    ⟨(some 115), none, .val (.mv (.tmp 114))⟩,
    ⟨(some 116), (some (115, false)), .val (.mv (.tmp 22))⟩,
    ⟨(some 117), (some (115, false)), .val (.mv (.tmp 20))⟩,
    ⟨(some 118), (some (115, false)), .val (.mv (.tmp 15))⟩,
    ⟨(some 119), (some (115, false)), .val (.minmax false [(.tmp 117), (.tmp 118)])⟩,
    ⟨(some 120), (some (115, false)), .val (.bin .neq T.int (.tmp 116) (.tmp 119))⟩,
    ⟨(some 121), none, .val (.pick (.tmp 115) (.const (.bool true)) (.tmp 120))⟩,
    ⟨(some 122), none, .val (.mv (.tmp 121))⟩,
    ⟨(some 123), (some (122, false)), .val (.fieldAddr 6 (.tmp 21))⟩,
    ⟨(some 124), (some (122, false)), .val (.load 1 false (.tmp 123))⟩,
    ⟨(some 125), (some (122, false)), .val (.mv (.tmp 22))⟩,
    ⟨(some 126), (some (122, false)), .val (.bin .neq T.int (.tmp 124) (.tmp 125))⟩,
    ⟨(some 127), none, .val (.pick (.tmp 122) (.const (.bool true)) (.tmp 126))⟩] [113, 114, 115, 116, 117, 118, 119, 120, 121, 122, 123, 124, 125, 126])
  (.cond (.tmp 127)
  (.seq (.region [
    ⟨(some 10), none, .val (.mv (.const (.bool false)))⟩] [])
  .ret)
  .skip))
  (.seq (.region [
    ⟨(some 128), none, .val (.fieldAddr 7 (.tmp 21))⟩,
    ⟨(some 129), none, .val (.load 1 false (.tmp 128))⟩,
    ⟨(some 130), none, .val (.bin .eql T.int (.tmp 129) (.const (.int 1)))⟩,
    ⟨(some 131), none, .val (.mv (.tmp 20))⟩,
    ⟨(some 132), none, .val (.mv (.tmp 15))⟩,
    ⟨(some 133), none, .val (.bin .geq T.int (.tmp 131) (.tmp 132))⟩,
    ⟨(some 134), none, .val (.eqBool false (.tmp 130) (.tmp 133))⟩,
    ⟨(some 135), none, .val (.mv (.tmp 134))⟩,
    ⟨(some 136), (some (135, true)), .val (.fieldAddr 7 (.tmp 21))⟩,
    ⟨(some 137), (some (135, true)), .val (.load 1 false (.tmp 136))⟩,
    ⟨(some 138), (some (135, true)), .val (.bin .eql T.int (.tmp 137) (.const (.int 0)))⟩,
    ⟨(some 139), (some (135, true)), .val (.mv (.tmp 20))⟩,
    ⟨(some 140), (some (135, true)), .val (.mv (.tmp 15))⟩,
    ⟨(some 141), (some (135, true)), .val (.bin .lss T.int (.tmp 139) (.tmp 140))⟩,
    ⟨(some 142), (some (135, true)), .val (.eqBool false (.tmp 138) (.tmp 141))⟩,
    ⟨(some 143), none, .val (.pick (.tmp 135) (.tmp 142) (.const (.bool false)))⟩,
    ⟨(some 10), none, .val (.mv (.tmp 143))⟩] [128, 129, 130, 131, 132, 133, 134, 135, 136, 137, 138, 139, 140, 141, 142, 143])
  .ret)))))))))))))))⟩
theorem H.podiumlaw57_RecountEnough : Has P F.podiumlaw57_RecountEnough C.podiumlaw57_RecountEnough := ⟨Try.f3, Try.func3, by kernel_rfl, by kernel_rfl⟩
end Go.Proofs.Ytokkkmfbejgccaa
/- RecountEnough: plain facts, and the walk. -/
namespace Go.Proofs.Ytokkkmfbejgccaa
open Go.Pv
set_option maxRecDepth 100000
set_option maxHeartbeats 16000000
/-- Looks at sheets that agree. -/
theorem runL_agree {K : Int} : ∀ (m : Nat) (q : Rc), q.a ≤ K → q.s = (if q.a < K then 0 else 1) →
    runL K (List.replicate m true) q = (⟨q.n, q.w, q.s1, q.L1, q.s2, q.L2, min (q.a + m) K, if q.a + m < K then 0 else 1⟩, (min (q.a + m) K - q.a).toNat)
  | 0, q, h1, h2 => by
    obtain ⟨n, w, s1, L1, s2, L2, a, s⟩ := q
    simp only at h1 h2
    have e : min (a + ((0 : Nat) : Int)) K = a := by omega
    have e2 : a + ((0 : Nat) : Int) = a := by omega
    simp only [List.replicate_zero, runL]
    rw [e, e2, ← h2]
    simp
  | m + 1, q, h1, h2 => by
    by_cases hs : q.s = 0
    · have ha : q.a < K := by
        by_cases hh : q.a < K
        · exact hh
        · rw [if_neg hh] at h2; omega
      have ih := runL_agree (K := K) m (q.look true K) (by show q.a + 1 ≤ K; omega) (by
        show (if q.a + 1 = K then (1 : Int) else q.s) = if q.a + 1 < K then 0 else 1
        rw [hs]
        split <;> split <;> omega)
      simp only [List.replicate_succ, runL, if_pos hs, ih]
      show (_, _) = (_, _)
      have e1 : (q.look true K).a = q.a + 1 := rfl
      have e2 : (q.a + 1 + (m : Int)) = q.a + ((m + 1 : Nat) : Int) := by omega
      rw [e1, e2]
      refine congr (congrArg Prod.mk rfl) ?_
      show ((min (q.a + ((m + 1 : Nat) : Int)) K - (q.a + 1)).toNat + 1) = (min (q.a + ((m + 1 : Nat) : Int)) K - q.a).toNat
      omega
    · have ha : q.a = K := by
        by_cases hh : q.a < K
        · rw [if_pos hh] at h2; exact absurd h2 hs
        · omega
      rw [runL_stop hs]
      obtain ⟨n, w, s1, L1, s2, L2, a, s⟩ := q
      simp only at *
      subst ha
      rw [if_neg (by omega)] at h2
      subst h2
      rw [if_neg (by omega)]
      have e : min (a + ((m + 1 : Nat) : Int)) a = a := by omega
      rw [e]
      simp
theorem seqA_true {O : List Int} {N : Nat} (h : orderOk N O = true) : seqA O (List.replicate N true) = List.replicate O.length true := by
  unfold seqA
  refine List.ext_getElem (by simp) fun i h1 h2 => ?_
  have hi : i < O.length := by simpa using h1
  have := orderOk_get h i hi
  have h3 : (O[i]).toNat < N := by omega
  simp [List.getD, h3]
/-- What Run gives of a recount that was started, if all sheets agree. -/
theorem run_agree {n w : Int} {s1 s2 : Bool} {L1 L2 : List Int} {O : List Int} {N : Nat} (hE : needE n w s1 L1 s2 L2 = 0) (hn : (N : Int) = n) (ho : orderOk n O = true) :
    runR (startR n w s1 L1 s2 L2) O (List.replicate N true) = ((⟨n, w, s1, L1, s2, L2, min (O.length : Int) (needK n w s1 L1 s2 L2), if (O.length : Int) < needK n w s1 L1 s2 L2 then 0 else 1⟩ : Rc), min (O.length : Int) (needK n w s1 L1 s2 L2), 0) := by
  obtain ⟨e, h1, -⟩ := startR_ok hE
  have hn2 : (startR n w s1 L1 s2 L2).n = n := by rw [e]
  have hK : (startR n w s1 L1 s2 L2).K = needK n w s1 L1 s2 L2 := by rw [e]; rfl
  have hK0 : 0 ≤ needK n w s1 L1 s2 L2 := by unfold needK; split <;> omega
  rw [runR_ok h1 (by rw [hn2]; simpa using hn) (by rw [hn2]; exact ho)]
  subst hn
  rw [seqA_true ho, hK, runL_agree _ _ (by rw [e]; exact hK0) (by rw [e]; simp only; split <;> split <;> omega), e]
  simp only [Int.zero_add]
  refine congr (congrArg Prod.mk rfl) (congr (congrArg Prod.mk ?_) rfl)
  omega
theorem needK_le {n w : Int} (hn : n ≤ 40 ∨ 4096 < n) {s1 s2 : Bool} {L1 L2 : List Int} (hl1 : Few3 L1) (hl2 : Few3 L2) (hE : needE n w s1 L1 s2 L2 = 0) : 0 ≤ needK n w s1 L1 s2 L2 ∧ needK n w s1 L1 s2 L2 ≤ n ∧ n ≤ 40 := by
  obtain ⟨e, h1, -⟩ := startR_ok hE
  have := Rc.K_le (r := startR n w s1 L1 s2 L2) (by rw [e]; exact ⟨hn, hl1, hl2⟩) h1
  have hn2 : (startR n w s1 L1 s2 L2).n = n := by rw [e]
  have hK : (startR n w s1 L1 s2 L2).K = needK n w s1 L1 s2 L2 := by rw [e]; rfl
  omega
theorem enough_law (n w : Int) (s1 t1 s2 t2 : Bool) (L1 L2 : List Int) (t : Bool) (O : List Int) (m : Int) (hm : 0 ≤ m ∧ m < 256) (st : Store) :
    Rets P F.podiumlaw57_RecountEnough [.int n, .int w, .agg [.bool s1, intLst t1 L1, .bool s2, intLst t2 L2], intLst t O, .val (.int .u8 m)] st (.bool true) := by
  have cf := few57_spec n s1 t1 s2 t2 L1 L2
  by_cases hn : 12 < n
  · refine H.podiumlaw57_RecountEnough.pure hmix rfl rfl ?_
    repeat' (first 
     | (with_reducible refine Fresh.intro fun b hb => ?_) <;> (try simp -dsimp -implicitDefEqProofs [*] at hb)
     | (with_reducible refine Rets.xcall (sane_spec _) ?_)
     | (simp -dsimp -implicitDefEqProofs [*]))
  by_cases hO : (O.length : Int) = n
  · by_cases hf : few57 n L1 L2 = true
    · rw [hf] at cf
      have fw := few57_few (r := ⟨n, w, s1, L1, s2, L2, 0, 0⟩) hf
      have cs := start_spec n w s1 t1 s2 t2 L1 L2 fw.n fw.l1 fw.l2
      have cn := need_spec n w fw.n s1 t1 s2 t2 L1 L2 fw.l1 fw.l2
      have lX : ∀ R : Rc, (R.enc false false).length = 8 := fun R => rfl
      have fX := fun R : Rc => cells_sub (lX R)
      have fa := fun R : Rc => cells_all (c := [.int 0, .int 0, .bool false, .nil, .bool false, .nil, .int 0, .int 0]) (V := R.enc false false) rfl
      by_cases hE : needE n w s1 L1 s2 L2 = 0
      · obtain ⟨eR, rok, rs⟩ := startR_ok hE
        obtain ⟨K0, K1, -⟩ := needK_le fw.n fw.l1 fw.l2 hE
        obtain ⟨r, hr⟩ : ∃ r, r = startR n w s1 L1 s2 L2 := ⟨_, rfl⟩
        have run1 : ∀ (t u : Bool) (Q : List Int), Q.length ≤ 1000 → (orderOk n Q = true → ∀ st, Rets P F.recount_Run [.agg (r.enc false false), intLst t Q, boolLst u (List.replicate O.length true)] st (.tuple [.agg ((⟨n, w, s1, L1, s2, L2, min (Q.length : Int) (needK n w s1 L1 s2 L2), if (Q.length : Int) < needK n w s1 L1 s2 L2 then 0 else 1⟩ : Rc).enc false false), .int (min (Q.length : Int) (needK n w s1 L1 s2 L2)), .int 0])) ∧ (orderOk n Q = false → ∀ st, Rets P F.recount_Run [.agg (r.enc false false), intLst t Q, boolLst u (List.replicate O.length true)] st (.tuple [.agg (Rc.zero.enc false false), .int 0, .int 1])) := by
          intro t u Q hQ
          have rf : r.Few := by rw [hr, eR]; exact ⟨fw.n, fw.l1, fw.l2⟩
          have c := run_spec r rf false false t u Q (List.replicate O.length true) hQ
          refine ⟨fun ho => ?_, fun ho => ?_⟩
          · have e := run_agree (w := w) (s1 := s1) (L1 := L1) (s2 := s2) (L2 := L2) hE hO ho
            rw [hr] at c ⊢
            rw [e] at c
            exact c
          · have e : runR r Q (List.replicate O.length true) = (Rc.zero, 0, 1) := by
              unfold runR
              have en : r.n = n := by rw [hr, eR]
              rw [hr, rok, ← hr, en, ho]
              simp [hO]
            rw [e] at c
            exact c
        rw [← hr] at cs
        rw [hE] at cs cn
        refine H.podiumlaw57_RecountEnough.pure hmix rfl rfl ?_
        subst hO
        clear eR rok rs hr hE hf fw
        obtain ⟨K, hK⟩ : ∃ K, K = needK O.length w s1 L1 s2 L2 := ⟨_, rfl⟩
        rw [← hK] at run1 K0 K1 cn
        clear hK
        have run1 : Hid _ := ⟨run1⟩
        have m1 : (if 0 < O.length then (O.length : Int) else 0) = O.length := by split <;> omega
        have m2 : max (O.length : Int) 0 = O.length := by omega
        have m3 : boolRow (List.replicate O.length false) = List.replicate O.length (.bool false) := boolRow_rep _
        have x4 : IntKind.i64.wrap m = m := wrap_in (by omega) (by omega)
        have x5 : IntKind.i64.wrap ((O.length : Int) + 1) = (O.length : Int) + 1 := wrap_in (by omega) (by omega)
        obtain ⟨z, hz⟩ : ∃ z : Nat, m.tmod ((O.length : Int) + 1) = z := ⟨(m.tmod ((O.length : Int) + 1)).toNat, by have := Int.tmod_nonneg ((O.length : Int) + 1) hm.1; omega⟩
        have hzl : z ≤ O.length := by have := Int.tmod_lt_of_pos m (show (0 : Int) < (O.length : Int) + 1 by omega); omega
        have x6 : IntKind.i64.wrap (m.tmod ((O.length : Int) + 1)) = z := by rw [hz]; exact wrap_in (by omega) (by omega)
        repeat' (first 
         | (with_reducible refine Fresh.intro fun b hb => ?_) <;> (try simp -dsimp -implicitDefEqProofs [*] at hb)
         | (with_reducible refine Rets.xcall (sane_spec _) ?_)
         | (with_reducible refine Rets.xcall (cf _) ?_)
         | (with_reducible refine Rets.xcall (cs _) ?_)
         | ((with_reducible refine and_keep ?_ fun hk => ?_); omega)
         | (simp -dsimp -implicitDefEqProofs [*]))
        revert b
        revert b
        revert b
        intro p7 hp7 p11 hp11 b hb
        have kv : Hid (∀ y : Nat × List Bool, (y.1 ≤ O.length ∧ y.2.length = O.length ∧ ∀ j, j < y.1 → y.2[j]? = some true) → y.1 = O.length →
            View ⟨[(54, .int y.1), (53, .int O.length), (13, .own b 0 O.length O.length), (12, .int 0), (11, .ptr p11 0), (10, .bool false), (7, .ptr p7 0), (0, .int O.length), (1, .int w), (3, intLst t O), (4, .val (.int .u8 m))], (b, .arr T.bool (boolRow y.2)) :: (p11, .arr T.apiRecount (r.enc false false)) :: (p7, .arr T.apiRatio [.bool s1, intLst t1 L1, .bool s2, intLst t2 L2]) :: st⟩
              ⟨[(54, .int y.1), (53, .int O.length), (13, boolLst false (List.replicate O.length true)), (12, .int 0), (11, .ptr p11 0), (10, .bool false), (7, .ptr p7 0), (0, .int O.length), (1, .int w), (3, intLst t O), (4, .val (.int .u8 m))], (p11, .arr T.apiRecount (r.enc false false)) :: (p7, .arr T.apiRatio [.bool s1, intLst t1 L1, .bool s2, intLst t2 L2]) :: st⟩) := ⟨fun y h1 h2 => by
          obtain ⟨k0, B⟩ := y
          obtain ⟨-, hB, hB2⟩ := h1
          simp only at hB h2 hB2 ⊢
          have eB : B = List.replicate O.length true := List.ext_getElem? fun i => by
            by_cases hi : i < O.length
            · rw [hB2 i (by omega), List.getElem?_replicate, if_pos hi]
            · rw [List.getElem?_eq_none (by omega), List.getElem?_replicate, if_neg hi]
          refine View.frz (b := b) (o := .arr T.bool (boolRow B)) (by simp [*]) (.refl _) ?_
          have h := Frz.own (b := b) (o := .arr T.bool (boolRow B)) T.bool (boolRow B) 0 O.length O.length 1 rfl (Nat.le_refl _) (by omega)
          rw [List.drop_zero, List.take_of_length_le (by rw [boolRow_length, hB]; simp), eB] at h
          rw [eB]
          simp [Frz.refl]
          show Frz b _ _ (.list false (boolRow (List.replicate O.length true)) (List.replicate O.length true).length)
          rw [List.length_replicate]
          exact h⟩
        refine xloop_fz (fun y : Nat × List Bool => [(54, .int y.1), (53, .int O.length), (13, .own b 0 O.length O.length), (12, .int 0), (11, .ptr p11 0), (10, .bool false), (7, .ptr p7 0), (0, .int O.length), (1, .int w), (3, intLst t O), (4, .val (.int .u8 m))])
          (fun y => (b, .arr T.bool (boolRow y.2)) :: (p11, .arr T.apiRecount (r.enc false false)) :: (p7, .arr T.apiRatio [.bool s1, intLst t1 L1, .bool s2, intLst t2 L2]) :: st)
          (fun y => y.1 ≤ O.length ∧ y.2.length = O.length ∧ ∀ j, j < y.1 → y.2[j]? = some true) (fun y => O.length - y.1) (fun y => y.1 = O.length)
          (fun y => [(54, .int y.1), (53, .int O.length), (13, boolLst false (List.replicate O.length true)), (12, .int 0), (11, .ptr p11 0), (10, .bool false), (7, .ptr p7 0), (0, .int O.length), (1, .int w), (3, intLst t O), (4, .val (.int .u8 m))])
          (fun y => (p11, .arr T.apiRecount (r.enc false false)) :: (p7, .arr T.apiRatio [.bool s1, intLst t1 L1, .bool s2, intLst t2 L2]) :: st)
          kv.out (0, List.replicate O.length false) ⟨Nat.zero_le _, by simp, fun j h => absurd h (Nat.not_lt_zero _)⟩ (by simp) (by simp [m3]) ?_ ?_
        · intro y hy hfin
          obtain ⟨k0, B⟩ := y
          simp only at hy hfin ⊢
          subst hfin
          clear hy kv m1 m2 m3 hb
          obtain ⟨go, gn⟩ := run1.out t false O (by omega)
          have ez : (intRow O).take z = intRow (O.take z) := by simp [intRow]
          have lz : (O.take z).length = z := by rw [List.length_take]; omega
          by_cases ho : orderOk O.length O = true
          · have c1 := go ho
            have c2 := (run1.out false false (O.take z) (by omega)).1 (orderOk_take z ho)
            rw [lz] at c2
            have c3 : ∀ st, Rets P F.recount_Run [.agg (r.enc false false), .list false ((intRow O).take z) z, boolLst false (List.replicate O.length true)] st _ := fun st => by
              have := c2 st
              unfold intLst at this
              rw [lz, ← ez] at this
              exact this
            clear go gn ho run1 c2
            have K1 : K ≤ (O.length : Int) := K1
            have n1 : min (O.length : Int) K = K := by omega
            have n2 : ¬ (O.length : Int) < K := by omega
            rw [n1, if_neg n2] at c1
            obtain ⟨Y1, hY1⟩ : ∃ Y, Y = (⟨O.length, w, s1, L1, s2, L2, K, 1⟩ : Rc).enc false false := ⟨_, rfl⟩
            obtain ⟨v, hv⟩ : ∃ v : Int, v = if (z : Int) < K then 0 else 1 := ⟨_, rfl⟩
            obtain ⟨u, hu⟩ : ∃ u : Int, u = min (z : Int) K := ⟨_, rfl⟩
            have hu2 : u = if (z : Int) < K then (z : Int) else K := by rw [hu]; split <;> omega
            rw [← hv, ← hu] at c3
            obtain ⟨Y2, hY2⟩ : ∃ Y, Y = (⟨O.length, w, s1, L1, s2, L2, u, v⟩ : Rc).enc false false := ⟨_, rfl⟩
            rw [← hY1] at c1
            rw [← hY2] at c3
            have l1 : Y1.length = 8 := by rw [hY1]; rfl
            have l2 : Y2.length = 8 := by rw [hY2]; rfl
            have f1 := cells_sub l1
            have f2 := cells_sub l2
            have a1 : setCells [.int 0, .int 0, .bool false, .nil, .bool false, .nil, .int 0, .int 0] 0 Y1 = Y1 := by rw [hY1]; exact fa _
            have a2 : setCells [.int 0, .int 0, .bool false, .nil, .bool false, .nil, .int 0, .int 0] 0 Y2 = Y2 := by rw [hY2]; exact fa _
            have g16 : ∀ h : 6 < Y1.length, Y1[6]'h = .int K := by subst hY1; exact fun _ => rfl
            have g17 : ∀ h : 7 < Y1.length, Y1[7]'h = .int 1 := by subst hY1; exact fun _ => rfl
            have g26 : ∀ h : 6 < Y2.length, Y2[6]'h = .int u := by subst hY2; exact fun _ => rfl
            have g27 : ∀ h : 7 < Y2.length, Y2[7]'h = .int v := by subst hY2; exact fun _ => rfl
            have fr := fX r
            clear hY1 hY2 ez lz n1 n2 fa fX lX hu
            by_cases hzK : (z : Int) < K
            · rw [if_pos hzK] at hv hu2
              subst hv; subst hu2
              repeat' (first 
               | (with_reducible refine Fresh.intro fun b hb => ?_) <;> (try simp -dsimp -implicitDefEqProofs [*] at hb)
               | (with_reducible refine Rets.xcall (c1 _) ?_)
               | (with_reducible refine Rets.xcall (cn _) ?_)
               | (with_reducible refine xlateCall_of (fun _ => c3 _) ?_)
               | (with_reducible refine DrawLate.intro [] ?_)
               | (with_reducible refine Cls_and ?_ ?_)
               | (with_reducible exact Cls.self _ _)
               | (with_reducible refine Cls_fresh ?_ ?_)
               | (with_reducible refine And.intro (fun h => ?_) ?_) <;> (try (exfalso; omega))
               | (simp -dsimp -implicitDefEqProofs [*]))
              all_goals (intros; omega)
            · rw [if_neg hzK] at hv hu2
              subst hv; subst hu2
              repeat' (first 
               | (with_reducible refine Fresh.intro fun b hb => ?_) <;> (try simp -dsimp -implicitDefEqProofs [*] at hb)
               | (with_reducible refine Rets.xcall (c1 _) ?_)
               | (with_reducible refine Rets.xcall (cn _) ?_)
               | (with_reducible refine xlateCall_of (fun _ => c3 _) ?_)
               | (with_reducible refine DrawLate.intro [] ?_)
               | (with_reducible refine Cls_and ?_ ?_)
               | (with_reducible exact Cls.self _ _)
               | (with_reducible refine Cls_fresh ?_ ?_)
               | (with_reducible refine And.intro (fun h => ?_) ?_) <;> (try (exfalso; omega))
               | (simp -dsimp -implicitDefEqProofs [*]))
              all_goals (intros; omega)
          · have c1 := gn (by simpa using ho)
            clear go gn ho
            repeat' (first 
             | (with_reducible refine Fresh.intro fun b hb => ?_) <;> (try simp -dsimp -implicitDefEqProofs [*] at hb)
             | (with_reducible refine Rets.xcall (c1 _) ?_)
             | (with_reducible refine Rets.xcall (cn _) ?_)
             | (simp -dsimp -implicitDefEqProofs [*]))
        · intro y hy hfin
          obtain ⟨k0, B⟩ := y
          simp only at hy hfin ⊢
          have hk1 : k0 < O.length := by omega
          have hB := hy.2.1
          have x7 := wrap_succ (n := k0) (by omega)
          have e1 : ∀ v, (boolRow B).set k0 (.bool v) = boolRow (B.set k0 v) := fun v => boolRow_set _ _ _
          have hBL : (boolRow B).length = O.length := by rw [boolRow_length]; exact hB
          have k2 : Hid (k0 + 1 ≤ O.length ∧ (B.set k0 true).length = O.length ∧ ∀ j, j < k0 + 1 → (B.set k0 true)[j]? = some true) := ⟨⟨hk1, by rw [List.length_set]; exact hB, fun j hj => by
            rw [List.getElem?_set]
            split
            · simp [hB, hk1]
            · exact hy.2.2 j (by omega)⟩⟩
          clear hy
          repeat' (first 
           | ((with_reducible refine and_keep ?_ fun hk => ?_); omega)
           | (simp -dsimp -implicitDefEqProofs [*]))
          exact NextF.intro kv.out (k0 + 1, B.set k0 true) k2.out (by simp only; omega) (by simp) (.refl _)
      · refine H.podiumlaw57_RecountEnough.pure hmix rfl rfl ?_
        repeat' (first 
         | (with_reducible refine Fresh.intro fun b hb => ?_) <;> (try simp -dsimp -implicitDefEqProofs [*] at hb)
         | (with_reducible refine Rets.xcall (sane_spec _) ?_)
         | (with_reducible refine Rets.xcall (cf _) ?_)
         | (with_reducible refine Rets.xcall (cs _) ?_)
         | (simp -dsimp -implicitDefEqProofs [*]))
    · rw [Bool.not_eq_true] at hf
      rw [hf] at cf
      refine H.podiumlaw57_RecountEnough.pure hmix rfl rfl ?_
      repeat' (first 
       | (with_reducible refine Fresh.intro fun b hb => ?_) <;> (try simp -dsimp -implicitDefEqProofs [*] at hb)
       | (with_reducible refine Rets.xcall (sane_spec _) ?_)
       | (with_reducible refine Rets.xcall (cf _) ?_)
       | (simp -dsimp -implicitDefEqProofs [*]))
  · refine H.podiumlaw57_RecountEnough.pure hmix rfl rfl ?_
    repeat' (first 
     | (with_reducible refine Fresh.intro fun b hb => ?_) <;> (try simp -dsimp -implicitDefEqProofs [*] at hb)
     | (with_reducible refine Rets.xcall (sane_spec _) ?_)
     | (simp -dsimp -implicitDefEqProofs [*]))
end Go.Proofs.Ytokkkmfbejgccaa
