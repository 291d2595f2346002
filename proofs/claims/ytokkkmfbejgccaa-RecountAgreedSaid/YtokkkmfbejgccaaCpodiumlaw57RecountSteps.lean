/- The code of one function. -/
import Derived.Test.YtokkkmfbejgccaaCode
import Derived.Test.YtokkkmfbejgccaaS57ZG
set_option maxRecDepth 100000
namespace Go.Proofs.Ytokkkmfbejgccaa
open Go.Pv
/-- podium/podiumlaw57.RecountSteps -/
noncomputable def C.podiumlaw57_RecountSteps : MFunc := ⟨156, 4, [.tmp 8],
  (.seq (.region [
    ⟨(some 4), none, .box T.apiRecount (.tmp 0)⟩,
    ⟨(some 8), none, .val (.mv (.const (.bool false)))⟩] [])
  (.seq (.seq (.region [
    ⟨(some 27), none, .call (.const (.func (.func F.podiumlaw57_sane) [] [])) []⟩,
    ⟨(some 28), none, .val (.un .not (.tmp 27))⟩] [27])
  (.cond (.tmp 28)
  (.seq (.region [
    ⟨(some 8), none, .val (.mv (.const (.bool false)))⟩] [])
  .ret)
  .skip))
  (.seq (.seq (.region [
    ⟨(some 29), none, .val (.fieldAddr 0 (.tmp 4))⟩,
    ⟨(some 30), none, .val (.load 1 false (.tmp 29))⟩,
    ⟨(some 31), none, .val (.fieldAddr 2 (.tmp 4))⟩,
    ⟨(some 32), none, .val (.load 4 true (.tmp 31))⟩,
    ⟨(some 33), none, .call (.const (.func (.func F.podiumref57_Few) [] [])) [(.tmp 30), (.tmp 32)]⟩,
    ⟨(some 34), none, .val (.un .not (.tmp 33))⟩,
    ⟨(some 35), none, .val (.mv (.tmp 34))⟩,
    ⟨(some 36), (some (35, false)), .val (.mv (.tmp 1))⟩,
    ⟨(some 37), (some (35, false)), .val (.len (.tmp 36))⟩,
    ⟨(some 38), (some (35, false)), .val (.bin .gtr T.int (.tmp 37) (.const (.int 12)))⟩,
    ⟨(some 39), none, .val (.pick (.tmp 35) (.const (.bool true)) (.tmp 38))⟩] [29, 30, 31, 32, 33, 34, 35, 36, 37, 38])
  (.cond (.tmp 39)
  (.seq (.region [
    ⟨(some 8), none, .val (.mv (.const (.bool true)))⟩] [])
  .ret)
  .skip))
  (.seq (.region [
    ⟨(some 41), none, .val (.load 8 true (.tmp 4))⟩,
    ⟨(some 42), none, .val (.mv (.tmp 1))⟩,
    ⟨(some 43), none, .val (.mv (.tmp 2))⟩,
    ⟨(some 44), none, .call (.const (.func (.func F.recount_Run) [] [])) [(.tmp 41), (.tmp 42), (.tmp 43)]⟩,
    ⟨(some 40), none, .val (.mv (.tmp 44))⟩,
    ⟨(some 45), none, .val (.extract 0 (.tmp 40))⟩,
    ⟨(some 46), none, .val (.extract 1 (.tmp 40))⟩,
    ⟨(some 47), none, .val (.extract 2 (.tmp 40))⟩,
    ⟨(some 9), none, .alloc T.apiRecount [(.int 0), (.int 0), (.bool false), .nil, (.bool false), .nil, (.int 0), (.int 0)]⟩,
    ⟨none, none, .store 8 (.tmp 9) (.tmp 45)⟩,
    ⟨(some 10), none, .val (.mv (.tmp 46))⟩,
    ⟨(some 11), none, .val (.mv (.tmp 47))⟩] [41, 42, 43, 44, 40, 45, 46, 47])
  (.seq (.seq (.region [
    ⟨(some 48), none, .val (.mv (.tmp 11))⟩,
    ⟨(some 49), none, .val (.bin .neq T.apiErrno (.tmp 48) (.const (.int 0)))⟩] [48])
  (.cond (.tmp 49)
  (.seq (.region [
    ⟨(some 50), none, .val (.load 8 true (.tmp 9))⟩,
    ⟨(some 51), none, .val (.build [(.int 0), (.int 0), (.bool false), .nil, (.bool false), .nil, (.int 0), (.int 0)] [])⟩,
    ⟨(some 52), none, .call (.const (.func (.func F.podiumref57_Same) [] [])) [(.tmp 50), (.tmp 51)]⟩,
    ⟨(some 53), none, .val (.mv (.tmp 52))⟩,
    ⟨(some 54), (some (53, true)), .val (.mv (.tmp 10))⟩,
    ⟨(some 55), (some (53, true)), .val (.bin .eql T.int (.tmp 54) (.const (.int 0)))⟩,
    ⟨(some 56), none, .val (.pick (.tmp 53) (.tmp 55) (.const (.bool false)))⟩,
    ⟨(some 8), none, .val (.mv (.tmp 56))⟩] [50, 51, 52, 53, 54, 55, 56])
  .ret)
  .skip))
  (.seq (.region [
    ⟨(some 57), none, .val (.load 8 true (.tmp 4))⟩,
    ⟨(some 12), none, .alloc T.apiRecount [(.int 0), (.int 0), (.bool false), .nil, (.bool false), .nil, (.int 0), (.int 0)]⟩,
    ⟨none, none, .store 8 (.tmp 12) (.tmp 57)⟩] [57])
  (.seq (.region [
    ⟨(some 13), none, .val (.mv (.const (.int 0)))⟩] [])
  (.seq (.seq (.region [
    ⟨(some 58), none, .val (.mv (.tmp 1))⟩,
    ⟨(some 59), none, .val (.len (.tmp 58))⟩,
    ⟨(some 60), none, .val (.mv (.const (.int 0)))⟩] [])
  (.block 0 (.loop (.seq (.region [
    ⟨(some 61), none, .val (.bin .lss T.int (.tmp 60) (.tmp 59))⟩] [])
  (.seq (.cond (.tmp 61)
  .skip
  (.exit 0))
  (.seq (.block 1 (.seq (.region [
    ⟨(some 62), none, .val (.indexAddr 1 (.tmp 58) (.tmp 60))⟩,
    ⟨(some 63), none, .val (.load 1 false (.tmp 62))⟩,
    ⟨(some 15), none, .val (.mv (.tmp 63))⟩] [62, 63])
  (.seq (.seq (.region [
    ⟨(some 64), none, .val (.fieldAddr 7 (.tmp 12))⟩,
    ⟨(some 65), none, .val (.load 1 false (.tmp 64))⟩,
    ⟨(some 66), none, .val (.bin .neq T.int (.tmp 65) (.const (.int 0)))⟩] [64, 65])
  (.cond (.tmp 66)
  (.exit 0)
  .skip))
  (.seq (.seq (.region [
    ⟨(some 67), none, .val (.mv (.tmp 15))⟩,
    ⟨(some 68), none, .val (.bin .lss T.int (.tmp 67) (.const (.int 0)))⟩,
    ⟨(some 69), none, .val (.mv (.tmp 68))⟩,
    ⟨(some 70), (some (69, false)), .val (.mv (.tmp 15))⟩,
    ⟨(some 71), (some (69, false)), .val (.mv (.tmp 2))⟩,
    ⟨(some 72), (some (69, false)), .val (.len (.tmp 71))⟩,
    ⟨(some 73), (some (69, false)), .val (.bin .geq T.int (.tmp 70) (.tmp 72))⟩,
    ⟨(some 74), none, .val (.pick (.tmp 69) (.const (.bool true)) (.tmp 73))⟩] [67, 68, 69, 70, 71, 72, 73])
  (.cond (.tmp 74)
  (.seq (.region [
    ⟨(some 8), none, .val (.mv (.const (.bool false)))⟩] [])
  .ret)
  .skip))
  (.seq (.draw true [
    (.late, ⟨(some 76), none, .val (.load 8 true (.tmp 12))⟩),
    (.late, ⟨(some 77), none, .val (.mv (.tmp 2))⟩),
    (.late, ⟨(some 78), none, .val (.mv (.tmp 15))⟩),
    (.late, ⟨(some 79), none, .val (.indexAddr 1 (.tmp 77) (.tmp 78))⟩),
    (.late, ⟨(some 80), none, .val (.load 1 false (.tmp 79))⟩),
    (.late, ⟨(some 81), none, .call (.const (.func (.func F.recount_Look) [] [])) [(.tmp 76), (.tmp 80)]⟩),
    (.late, ⟨(some 75), none, .val (.mv (.tmp 81))⟩),
    (.late, ⟨(some 82), none, .val (.extract 0 (.tmp 75))⟩),
    (.late, ⟨(some 83), none, .val (.extract 1 (.tmp 75))⟩),
    (.hard, ⟨(some 16), none, .alloc T.apiRecount [(.int 0), (.int 0), (.bool false), .nil, (.bool false), .nil, (.int 0), (.int 0)]⟩),
    (.last, ⟨none, none, .store 8 (.tmp 16) (.tmp 82)⟩),
    (.late, ⟨(some 17), none, .val (.mv (.tmp 83))⟩)] [76, 77, 78, 79, 80, 81, 75, 82, 83])
  (.seq (.seq (.region [
    ⟨(some 84), none, .val (.mv (.tmp 17))⟩,
    ⟨(some 85), none, .val (.bin .neq T.apiErrno (.tmp 84) (.const (.int 0)))⟩,
    ⟨(some 86), none, .val (.mv (.tmp 85))⟩,
    ⟨(some 87), (some (86, false)), .val (.load 8 true (.tmp 16))⟩,
    ⟨(some 88), (some (86, false)), .call (.const (.func (.func F.recount_Check) [] [])) [(.tmp 87)]⟩,
    ⟨(some 89), (some (86, false)), .val (.bin .neq T.apiErrno (.tmp 88) (.const (.int 0)))⟩,
    ⟨(some 90), none, .val (.pick (.tmp 86) (.const (.bool true)) (.tmp 89))⟩] [84, 85, 86, 87, 88, 89])
  (.cond (.tmp 90)
  (.seq (.region [
    ⟨(some 8), none, .val (.mv (.const (.bool false)))⟩] [])
  .ret)
  .skip))
  (.seq (.region [
    ⟨(some 91), none, .val (.load 8 true (.tmp 16))⟩,
    ⟨none, none, .store 8 (.tmp 12) (.tmp 91)⟩] [91])
  (.region [
    ⟨(some 92), none, .val (.mv (.tmp 13))⟩,
    ⟨(some 93), none, .val (.bin .add T.int (.tmp 92) (.const (.int 1)))⟩,
    ⟨(some 13), none, .val (.mv (.tmp 93))⟩] [92, 93]))))))))
  (.region [
    ⟨(some 94), none, .val (.bin .add T.int (.tmp 60) (.const (.int 1)))⟩,
    ⟨(some 60), none, .val (.mv (.tmp 94))⟩] [94])))))))
  (.seq (.seq (.region [
    ⟨(some 95), none, .val (.load 8 true (.tmp 9))⟩,
    ⟨(some 96), none, .val (.load 8 true (.tmp 12))⟩,
    ⟨(some 97), none, .call (.const (.func (.func F.podiumref57_Same) [] [])) [(.tmp 95), (.tmp 96)]⟩,
    ⟨(some 98), none, .val (.un .not (.tmp 97))⟩,
    ⟨(some 99), none, .val (.mv (.tmp 98))⟩,
    ⟨(some 100), (some (99, false)), .val (.mv (.tmp 10))⟩,
    ⟨(some 101), (some (99, false)), .val (.mv (.tmp 13))⟩,
    ⟨(some 102), (some (99, false)), .val (.bin .neq T.int (.tmp 100) (.tmp 101))⟩,
    ⟨(some 103), none, .val (.pick (.tmp 99) (.const (.bool true)) (.tmp 102))⟩,
    ⟨(some 104), none, .val (.mv (.tmp 103))⟩,
    ⟨(some 105), (some (104, false)), .val (.load 8 true (.tmp 9))⟩,
    ⟨(some 106), (some (104, false)), .call (.const (.func (.func F.recount_Check) [] [])) [(.tmp 105)]⟩,
    ⟨(some 107), (some (104, false)), .val (.bin .neq T.apiErrno (.tmp 106) (.const (.int 0)))⟩,
    ⟨(some 108), none, .val (.pick (.tmp 104) (.const (.bool true)) (.tmp 107))⟩] [95, 96, 97, 98, 99, 100, 101, 102, 103, 104, 105, 106, 107])
  (.cond (.tmp 108)
  (.seq (.region [
    ⟨(some 8), none, .val (.mv (.const (.bool false)))⟩] [])
  .ret)
  .skip))
  (.seq (.seq (.region [
    ⟨(some 109), none, .val (.fieldAddr 7 (.tmp 9))⟩,
    ⟨(some 110), none, .val (.load 1 false (.tmp 109))⟩,
    ⟨(some 111), none, .val (.bin .neq T.int (.tmp 110) (.const (.int 0)))⟩] [109, 110])
  (.cond (.tmp 111)
  (.seq (.region [
    ⟨(some 113), none, .val (.load 8 true (.tmp 9))⟩,
    ⟨(some 114), none, .call (.const (.func (.func F.recount_Look) [] [])) [(.tmp 113), (.const (.bool true))]⟩,
    ⟨(some 112), none, .val (.mv (.tmp 114))⟩,
    ⟨(some 115), none, .val (.extract 0 (.tmp 112))⟩,
    ⟨(some 116), none, .val (.extract 1 (.tmp 112))⟩,
    ⟨(some 18), none, .alloc T.apiRecount [(.int 0), (.int 0), (.bool false), .nil, (.bool false), .nil, (.int 0), (.int 0)]⟩,
    ⟨none, none, .store 8 (.tmp 18) (.tmp 115)⟩,
    ⟨(some 19), none, .val (.mv (.tmp 116))⟩] [113, 114, 112, 115, 116, 18])
  (.seq (.region [
    ⟨(some 117), none, .val (.mv (.tmp 19))⟩,
    ⟨(some 118), none, .val (.bin .neq T.apiErrno (.tmp 117) (.const (.int 570)))⟩] [117])
  (.cond (.tmp 118)
  (.seq (.region [
    ⟨(some 8), none, .val (.mv (.const (.bool false)))⟩] [])
  .ret)
  .skip)))
  .skip))
  (.seq (.region [
    ⟨(some 119), none, .val (.mv (.tmp 3))⟩,
    ⟨(some 120), none, .val (.toInt .i64 (.tmp 119))⟩,
    ⟨(some 121), none, .val (.mv (.tmp 1))⟩,
    ⟨(some 122), none, .val (.len (.tmp 121))⟩,
    ⟨(some 123), none, .val (.bin .add T.int (.tmp 122) (.const (.int 1)))⟩,
    ⟨(some 124), none, .val (.bin .rem T.int (.tmp 120) (.tmp 123))⟩,
    ⟨(some 20), none, .val (.mv (.tmp 124))⟩] [119, 120, 121, 122, 123, 124])
  (.seq (.draw true [
    (.late, ⟨(some 126), none, .val (.load 8 true (.tmp 4))⟩),
    (.late, ⟨(some 127), none, .val (.mv (.tmp 1))⟩),
    (.late, ⟨(some 128), none, .val (.mv (.tmp 20))⟩),
    (.late, ⟨(some 129), none, .val (.slice 1 (.tmp 127) none (some (.tmp 128)) none)⟩),
    (.late, ⟨(some 130), none, .val (.mv (.tmp 2))⟩),
    (.late, ⟨(some 131), none, .call (.const (.func (.func F.recount_Run) [] [])) [(.tmp 126), (.tmp 129), (.tmp 130)]⟩),
    (.late, ⟨(some 125), none, .val (.mv (.tmp 131))⟩),
    (.late, ⟨(some 132), none, .val (.extract 0 (.tmp 125))⟩),
    (.late, ⟨(some 133), none, .val (.extract 1 (.tmp 125))⟩),
    (.late, ⟨(some 134), none, .val (.extract 2 (.tmp 125))⟩),
    (.hard, ⟨(some 21), none, .alloc T.apiRecount [(.int 0), (.int 0), (.bool false), .nil, (.bool false), .nil, (.int 0), (.int 0)]⟩),
    (.last, ⟨none, none, .store 8 (.tmp 21) (.tmp 132)⟩),
    (.late, ⟨(some 22), none, .val (.mv (.tmp 133))⟩),
    (.late, ⟨(some 23), none, .val (.mv (.tmp 134))⟩)] [126, 127, 128, 129, 130, 131, 125, 132, 133, 134, 22])
  (.seq (.draw true [
    (.late, ⟨(some 136), none, .val (.load 8 true (.tmp 21))⟩),
    (.late, ⟨(some 137), none, .val (.mv (.tmp 1))⟩),
    (.late, ⟨(some 138), none, .val (.mv (.tmp 20))⟩),
    (.late, ⟨(some 139), none, .val (.slice 1 (.tmp 137) (some (.tmp 138)) none none)⟩),
    (.late, ⟨(some 140), none, .val (.mv (.tmp 2))⟩),
    (.late, ⟨(some 141), none, .call (.const (.func (.func F.recount_Run) [] [])) [(.tmp 136), (.tmp 139), (.tmp 140)]⟩),
    (.late, ⟨(some 135), none, .val (.mv (.tmp 141))⟩),
    (.late, ⟨(some 142), none, .val (.extract 0 (.tmp 135))⟩),
    (.late, ⟨(some 143), none, .val (.extract 1 (.tmp 135))⟩),
    (.late, ⟨(some 144), none, .val (.extract 2 (.tmp 135))⟩),
    (.hard, ⟨(some 24), none, .alloc T.apiRecount [(.int 0), (.int 0), (.bool false), .nil, (.bool false), .nil, (.int 0), (.int 0)]⟩),
    (.last, ⟨none, none, .store 8 (.tmp 24) (.tmp 142)⟩),
    (.late, ⟨(some 25), none, .val (.mv (.tmp 143))⟩),
    (.late, ⟨(some 26), none, .val (.mv (.tmp 144))⟩)] [136, 137, 138, 139, 140, 141, 135, 142, 143, 144, 25])
  (.seq (.region [
    ⟨(some 145), none, .val (.mv (.tmp 23))⟩,
    ⟨(some 146), none, .val (.bin .eql T.apiErrno (.tmp 145) (.const (.int 0)))⟩,
    ⟨(some 147), none, .val (.mv (.tmp 146))⟩,
    ⟨(some 148), (some (147, true)), .val (.mv (.tmp 26))⟩,
    ⟨(some 149), (some (147, true)), .val (.bin .eql T.apiErrno (.tmp 148) (.const (.int 0)))⟩,
    ⟨(some 150), none, .val (.pick (.tmp 147) (.tmp 149) (.const (.bool false)))⟩,
    ⟨(some 151), none, .val (.mv (.tmp 150))⟩,
    ⟨(some 152), (some (151, true)), .val (.load 8 true (.tmp 24))⟩,
    ⟨(some 153), (some (151, true)), .val (.load 8 true (.tmp 9))⟩,
    ⟨(some 154), (some (151, true)), .call (.const (.func (.func F.podiumref57_Same) [] [])) [(.tmp 152), (.tmp 153)]⟩,
    ⟨(some 155), none, .val (.pick (.tmp 151) (.tmp 154) (.const (.bool false)))⟩,
    ⟨(some 8), none, .val (.mv (.tmp 155))⟩] [145, 146, 147, 148, 149, 150, 151, 152, 153, 154, 155])
  .ret))))))))))))))⟩
theorem H.podiumlaw57_RecountSteps : Has P F.podiumlaw57_RecountSteps C.podiumlaw57_RecountSteps := ⟨Try.f4, Try.func4, by kernel_rfl, by kernel_rfl⟩
end Go.Proofs.Ytokkkmfbejgccaa
/- RecountSteps. -/
namespace Go.Proofs.Ytokkkmfbejgccaa
open Go.Pv
set_option maxRecDepth 100000
set_option maxHeartbeats 16000000
theorem steps_law (r : Rc) (t1 t2 t u : Bool) (O : List Int) (A : List Bool) (m : Int) (hm : 0 ≤ m ∧ m < 256) (st : Store) : Rets P F.podiumlaw57_RecountSteps [.agg (r.enc t1 t2), intLst t O, boolLst u A, .val (.int .u8 m)] st (.bool true) := by
  refine Rets.args (qs := [.agg (r.enc false false), intLst t O, boolLst u A, .val (.int .u8 m)]) ⟨enc_loose r t1 t2, .refl _, .refl _, .refl _, trivial⟩ ?_
  have lE : (r.enc false false).length = 8 := rfl
  have l0 : ∀ h : 0 < (r.enc false false).length, (r.enc false false)[0]'h = .int r.n := fun _ => rfl
  have f2 := cells_sub lE
  have fS : sub (r.enc false false) 2 4 = some [.bool r.s1, intLst false r.L1, .bool r.s2, intLst false r.L2] := rfl
  have cf := few57_spec r.n r.s1 false r.s2 false r.L1 r.L2
  by_cases hf : few57 r.n r.L1 r.L2 = true
  · rw [hf] at cf
    by_cases hO : O.length ≤ 12
    · have hr := few57_few hf
      have cr := run_spec r hr false false t u O A (by omega)
      rcases runR_cases r O A with ⟨h, hA, ho⟩ | e
      · have n1 : ¬ (12 : Int) < (O.length : Int) := by omega
        rw [runR_ok h hA ho] at cr
        obtain ⟨X, hX⟩ : ∃ X : Rc × Nat, X = runL r.K (seqA O A) r := ⟨_, rfl⟩
        rw [← hX] at cr
        have lX : ∀ R : Rc, (R.enc false false).length = 8 := fun R => rfl
        have fX := fun R : Rc => cells_sub (lX R)
        have fa := fun R : Rc => cells_all (c := [.int 0, .int 0, .bool false, .nil, .bool false, .nil, .int 0, .int 0]) (V := R.enc false false) rfl
        obtain ⟨V, hV⟩ : ∃ V, V = r.enc false false := ⟨_, rfl⟩
        rw [← hV] at lE l0 f2 fS cr ⊢
        have kV : Hid (V = r.enc false false) := ⟨hV⟩
        have kX : Hid (X = runL r.K (seqA O A) r) := ⟨hX⟩
        have kr : Hid (r.Few ∧ r.ok = true ∧ (A.length : Int) = r.n ∧ orderOk r.n O = true) := ⟨hr, h, hA, ho⟩
        have cr : ∀ st, Rets P F.recount_Run [.agg V, intLst t O, boolLst u A] st (.tuple [.agg (X.1.enc false false), .int X.2, .int 0]) := cr
        clear hV hX hf hr h hA ho
        refine H.podiumlaw57_RecountSteps.pure hmix rfl rfl ?_
        have kc : Hid (∀ (c : Nat → Rc), c = curL r.K (seqA O A) r → (∀ n, n ≤ O.length → (∀ j, j < n → (c j).s = 0) → (c n).ok = true ∧ (c n).K = r.K ∧ (c n).Few) ∧ (∀ n, n ≤ O.length → (∀ j, j < n → (c j).s = 0) → (n = O.length ∨ (c n).s ≠ 0) → X = (c n, n)) ∧ (c 0 = r) ∧ ∀ n (hn : n < O.length), c (n + 1) = (c n).look (A.getD O[n].toNat false) r.K) := ⟨fun c hc => by
          obtain ⟨hr, h, hA, ho⟩ := kr.out
          have sL : (seqA O A).length = O.length := by simp [seqA]
          subst hc
          refine ⟨fun n h1 h2 => ?_, fun n h1 h2 h3 => ?_, rfl, fun n hn => ?_⟩
          · obtain ⟨k1, k2, k3, k4⟩ := curL_keep h hr n (by rw [sL]; exact h1) h2
            exact ⟨k1, k2, k4⟩
          · rw [kX.out]
            exact runL_at (by rw [sL]; exact h1) h2 (by rw [sL]; exact h3)
          · rw [curL_succ (by rw [sL]; exact hn)]
            congr 1
            simp [seqA]⟩
        obtain ⟨c, hc⟩ : ∃ c, c = curL r.K (seqA O A) r := ⟨_, rfl⟩
        obtain ⟨kok, kE, k0, kn⟩ := kc.out c hc
        have kE : Hid _ := ⟨kE⟩
        have kn : Hid _ := ⟨kn⟩
        have kok : Hid _ := ⟨kok⟩
        clear kc hc
        repeat' (first 
         | (with_reducible refine Fresh.intro fun b hb => ?_) <;> (try simp -dsimp -implicitDefEqProofs [*] at hb)
         | (with_reducible refine Rets.xcall (sane_spec _) ?_)
         | (with_reducible refine Rets.xcall (cf _) ?_)
         | (with_reducible refine Rets.xcall (cr _) ?_)
         | (simp -dsimp -implicitDefEqProofs [*]))
        revert b
        revert b
        revert b
        intro p4 hp4 p9 hp9 p12 hp12
        have cr' : Hid _ := ⟨cr⟩
        clear cr
        refine xloop_for (fun y : Nat × Rc => [(60, .int y.1), (59, .int O.length), (58, intLst t O), (13, .int y.1), (12, .ptr p12 0), (10, .int X.2), (9, .ptr p9 0), (8, .bool false), (4, .ptr p4 0), (1, intLst t O), (2, boolLst u A), (3, .val (.int .u8 m))])
          (fun y => (p12, .arr T.apiRecount (y.2.enc false false)) :: (p9, .arr T.apiRecount (X.1.enc false false)) :: (p4, .arr T.apiRecount V) :: st) (fun y => y.1 ≤ O.length ∧ Hid (y.2 = c y.1 ∧ ∀ j, j < y.1 → (c j).s = 0)) (fun y => O.length - y.1) (0, r) ⟨Nat.zero_le _, ⟨k0.symm, fun j hj => absurd hj (by omega)⟩⟩ (by simp) (by rw [kV.out]; exact .refl _) ?_
        rintro ⟨i, R⟩ ⟨hi, hI⟩
        simp only at hi hI
        have ls : ∀ h : 7 < (R.enc false false).length, (R.enc false false)[7]'h = .int R.s := fun _ => rfl
        by_cases hgo : i < O.length ∧ R.s = 0
        · obtain ⟨hil, hs⟩ := hgo
          rw [hs] at ls
          obtain ⟨q1, q2, q3⟩ := kok.out i hi hI.out.2
          rw [← hI.out.1] at q1 q2 q3
          obtain ⟨o1, o2⟩ := orderOk_get kr.out.2.2.2 i hil
          have hA := kr.out.2.2.1
          obtain ⟨j, hj⟩ : ∃ j : Nat, O[i] = j := ⟨(O[i]).toNat, by omega⟩
          have hjA : j < A.length := by omega
          have eZ := kn.out i hil
          rw [← hI.out.1, hj] at eZ
          have eg : A.getD (j : Int).toNat false = A[j] := by show A.getD j false = A[j]; simp [hjA]
          rw [eg] at eZ
          have x5 := wrap_succ (n := i) (by omega)
          have hK := (Rc.K_le q3 q1)
          have cl := look_spec R q3 (by omega) false false A[j]
          rw [lookR_ok q1 hs, q2] at cl
          have zok := look_ok q1 hs A[j]
          rw [q2] at zok
          have cc := check_spec (R.look A[j] r.K) (look_few q3 _ _) false false
          rw [zok] at cc
          have kF : Hid (R.look A[j] r.K = c (i + 1) ∧ ∀ j, j < i + 1 → (c j).s = 0) := ⟨eZ.symm, fun k hk => by
            by_cases e : k = i
            · rw [e, ← hI.out.1]; exact hs
            · exact hI.out.2 k (by omega)⟩
          clear kok kE kn hI eZ zok kr kV kX cr' q1 q2 q3 o1 o2 hA hK eg cf k0 hs hi
          have f7 := fX R
          have lR := lX R
          have hS : ∀ h : 7 < (R.enc false false).length, (R.enc false false)[7]'h = .int 0 := ls
          clear ls
          obtain ⟨W, hW⟩ : ∃ W, W = R.enc false false := ⟨_, rfl⟩
          rw [← hW] at cl f7 lR hS
          obtain ⟨Z, hZ⟩ : ∃ Z : Rc, Z = R.look A[j] r.K := ⟨_, rfl⟩
          rw [← hZ] at cl cc kF
          simp only
          rw [← hW]
          clear hW hZ
          repeat' (first 
           | (with_reducible refine Fresh.intro fun b hb => ?_) <;> (try simp -dsimp -implicitDefEqProofs [*] at hb)
           | (with_reducible refine xlateCall_of (fun _ => cl _) ?_)
           | (with_reducible refine Rets.xcall (cc _) ?_)
           | (with_reducible refine DrawLate.intro [] ?_)
           | (with_reducible refine Cls_and ?_ ?_)
           | (with_reducible exact Cls.self _ _)
           | (with_reducible refine Cls_fresh ?_ ?_)
           | (simp -dsimp -implicitDefEqProofs [*]))
          exact Next.intro (i + 1, Z) ⟨by simp only; omega, kF⟩ (by simp only; omega) (by simp) (by repeat' (first | exact StLe.refl _ | (refine StLe_cons (by simp [*]; done) ?_) | (refine StLe_fresh (by simp [*]; done) ?_)))
        · have eX : X = (R, i) := by
            rw [hI.out.1]
            refine kE.out i hi hI.out.2 ?_
            rw [← hI.out.1]
            omega
          obtain ⟨q1, q2, q3⟩ := kok.out i hi hI.out.2
          rw [← hI.out.1] at q1 q2 q3
          have cx := check_spec R q3 false false
          rw [q1] at cx
          have hK := (Rc.K_le q3 q1)
          have cs := same57_spec R R q3.len false false false false
          rw [decide_eq_true rfl] at cs
          have cl : R.s ≠ 0 → ∀ st, Rets P F.recount_Look [.agg (R.enc false false), .bool true] st (.tuple [.agg (Rc.zero.enc false false), .int 570]) := fun hs st => by
            have := look_spec R q3 (by omega) false false true st
            rw [lookR_no (fun _ => hs)] at this
            exact this
          obtain ⟨p, hp1, hp2⟩ : ∃ p : Nat, p ≤ O.length ∧ m.tmod (O.length + 1) = p := ⟨(m.tmod (O.length + 1)).toNat, by
            have a1 := Int.tmod_nonneg ((O.length : Int) + 1) hm.1
            have a2 := Int.tmod_lt_of_pos m (show (0 : Int) < (O.length : Int) + 1 by omega)
            omega, by
            have a1 := Int.tmod_nonneg ((O.length : Int) + 1) hm.1
            omega⟩
          obtain ⟨hr, h, hA, ho⟩ := kr.out
          have sp := runR_split hr h hA ho p
          rw [runR_ok h hA ho, ← kX.out, eX] at sp
          have c1 := run_spec r hr false false false u (O.take p) A (by rw [List.length_take]; omega)
          obtain ⟨Y, hY⟩ : ∃ Y, Y = runR r (O.take p) A := ⟨_, rfl⟩
          rw [← hY] at sp c1
          have yf : Y.1.Few := by
            rw [hY, runR_ok h hA (orderOk_take p ho)]
            exact (runL_keep (r := r) _ r h rfl rfl hr).2.2.2
          have c2 := run_spec Y.1 yf false false t u (O.drop p) A (by rw [List.length_drop]; omega)
          obtain ⟨U, hU⟩ : ∃ U, U = runR Y.1 (O.drop p) A := ⟨_, rfl⟩
          rw [← hU] at sp c2
          obtain ⟨y1, y2, u2⟩ := Y
          obtain ⟨v, v1, v2⟩ := U
          simp only at sp c1 c2
          obtain ⟨s1, s2, s3⟩ := sp
          have s3 : R = v := s3.symm
          subst s1; subst s2; subst s3
          subst eX
          rw [← kV.out] at c1
          clear kok kE kn hI kr kV kX cr' q1 q2 q3 hK cf k0 hr h hA ho hY hU yf
          have e1 : intRow (O.take p) = (intRow O).take p := by simp [intRow, List.map_take]
          have e2 : intRow (O.drop p) = (intRow O).drop p := by simp [intRow, List.map_drop]
          have e3 : (O.take p).length = p := by rw [List.length_take]; omega
          have e4 : (O.drop p).length = O.length - p := by rw [List.length_drop]
          unfold intLst at c1 c2
          rw [e1, e3] at c1
          rw [e2, e4] at c2
          clear e1 e2 e3 e4
          have x5 := wrap_succ (n := O.length) (by omega)
          have xm : IntKind.i64.wrap m = m := wrap_in (by omega) (by omega)
          have f7 := fX R
          have lR := lX R
          have hc : (i = O.length ∧ R.s = 0) ∨ (i = O.length ∧ R.s ≠ 0) ∨ (i < O.length ∧ R.s ≠ 0) := by omega
          clear hi hgo
          simp only
          rcases hc with ⟨hi, hs⟩ | ⟨hi, hs⟩ | ⟨hi, hs⟩
          · rw [hs] at ls
            clear cl
            subst hi
            repeat' (first 
             | (with_reducible refine Fresh.intro fun b hb => ?_) <;> (try simp -dsimp -implicitDefEqProofs [*] at hb)
             | (with_reducible refine Rets.xcall (cs _) ?_)
             | (with_reducible refine Rets.xcall (cx _) ?_)
             | (with_reducible refine xlateCall_of (fun _ => c1 _) ?_)
             | (with_reducible refine xlateCall_of (fun _ => c2 _) ?_)
             | (with_reducible refine DrawLate.intro [] ?_)
             | (with_reducible refine Cls_and ?_ ?_)
             | (with_reducible exact Cls.self _ _)
             | (with_reducible refine Cls_fresh ?_ ?_)
             | (with_reducible refine And.intro (fun h => ?_) ?_) <;> (try (exfalso; omega))
             | (simp -dsimp -implicitDefEqProofs [*]))
          · have cl := cl hs
            subst hi
            repeat' (first 
             | (with_reducible refine Fresh.intro fun b hb => ?_) <;> (try simp -dsimp -implicitDefEqProofs [*] at hb)
             | (with_reducible refine Rets.xcall (cs _) ?_)
             | (with_reducible refine Rets.xcall (cx _) ?_)
             | (with_reducible refine Rets.xcall (cl _) ?_)
             | (with_reducible refine xlateCall_of (fun _ => c1 _) ?_)
             | (with_reducible refine xlateCall_of (fun _ => c2 _) ?_)
             | (with_reducible refine DrawLate.intro [] ?_)
             | (with_reducible refine Cls_and ?_ ?_)
             | (with_reducible exact Cls.self _ _)
             | (with_reducible refine Cls_fresh ?_ ?_)
             | (with_reducible refine And.intro (fun h => ?_) ?_) <;> (try (exfalso; omega))
             | (simp -dsimp -implicitDefEqProofs [*]))
          · have cl := cl hs
            repeat' (first 
             | (with_reducible refine Fresh.intro fun b hb => ?_) <;> (try simp -dsimp -implicitDefEqProofs [*] at hb)
             | (with_reducible refine Rets.xcall (cs _) ?_)
             | (with_reducible refine Rets.xcall (cx _) ?_)
             | (with_reducible refine Rets.xcall (cl _) ?_)
             | (with_reducible refine xlateCall_of (fun _ => c1 _) ?_)
             | (with_reducible refine xlateCall_of (fun _ => c2 _) ?_)
             | (with_reducible refine DrawLate.intro [] ?_)
             | (with_reducible refine Cls_and ?_ ?_)
             | (with_reducible exact Cls.self _ _)
             | (with_reducible refine Cls_fresh ?_ ?_)
             | (with_reducible refine And.intro (fun h => ?_) ?_) <;> (try (exfalso; omega))
             | (simp -dsimp -implicitDefEqProofs [*]))
      · have lz : (Rc.zero.enc false false).length = 8 := rfl
        have fz := cells_sub lz
        have fa := cells_all (c := [.int 0, .int 0, .bool false, .nil, .bool false, .nil, .int 0, .int 0]) (V := Rc.zero.enc false false) rfl
        obtain ⟨V, hV⟩ : ∃ V, V = r.enc false false := ⟨_, rfl⟩
        rw [← hV] at lE l0 f2 fS cr ⊢
        obtain ⟨Y, hY⟩ : ∃ Y, Y = Rc.zero.enc false false := ⟨_, rfl⟩
        have cz := same57_zero
        rw [← hY] at lz fz fa cz
        have cr : ∃ e : Int, e ≠ 0 ∧ ∀ st, Rets P F.recount_Run [.agg V, intLst t O, boolLst u A] st (.tuple [.agg Y, .int 0, .int e]) := by
          rcases e with e | e
          · rw [e] at cr; rw [hY]; exact ⟨570, by decide, cr⟩
          · rw [e] at cr; rw [hY]; exact ⟨1, by decide, cr⟩
        obtain ⟨e, he, cr⟩ := cr
        have n1 : ¬ (12 : Int) < (O.length : Int) := by omega
        clear hV hY hf hr
        refine H.podiumlaw57_RecountSteps.pure hmix rfl rfl ?_
        repeat' (first 
         | (with_reducible refine Fresh.intro fun b hb => ?_) <;> (try simp -dsimp -implicitDefEqProofs [*] at hb)
         | (with_reducible refine Rets.xcall (sane_spec _) ?_)
         | (with_reducible refine Rets.xcall (cf _) ?_)
         | (with_reducible refine Rets.xcall (cr _) ?_)
         | (with_reducible refine Rets.xcall (cz _) ?_)
         | (simp -dsimp -implicitDefEqProofs [*]))
    · obtain ⟨V, hV⟩ : ∃ V, V = r.enc false false := ⟨_, rfl⟩
      rw [← hV] at lE l0 f2 fS ⊢
      clear hV hf
      have hO2 : (12 : Int) < (O.length : Int) := by omega
      refine H.podiumlaw57_RecountSteps.pure hmix rfl rfl ?_
      repeat' (first 
       | (with_reducible refine Fresh.intro fun b hb => ?_) <;> (try simp -dsimp -implicitDefEqProofs [*] at hb)
       | (with_reducible refine Rets.xcall (sane_spec _) ?_)
       | (with_reducible refine Rets.xcall (cf _) ?_)
       | (simp -dsimp -implicitDefEqProofs [*]))
  · obtain ⟨V, hV⟩ : ∃ V, V = r.enc false false := ⟨_, rfl⟩
    rw [← hV] at lE l0 f2 fS ⊢
    rw [Bool.not_eq_true] at hf
    rw [hf] at cf
    clear hV hf
    refine H.podiumlaw57_RecountSteps.pure hmix rfl rfl ?_
    repeat' (first 
     | (with_reducible refine Fresh.intro fun b hb => ?_) <;> (try simp -dsimp -implicitDefEqProofs [*] at hb)
     | (with_reducible refine Rets.xcall (sane_spec _) ?_)
     | (with_reducible refine Rets.xcall (cf _) ?_)
     | (simp -dsimp -implicitDefEqProofs [*]))
end Go.Proofs.Ytokkkmfbejgccaa
