/- The code of one function. -/
import Derived.Test.YtokkkmfbejgccaaGreatCode
import Derived.Test.YtokkkmfbejgccaaGreatG57ZL
set_option maxRecDepth 100000
namespace Go.Proofs.YtokkkmfbejgccaaGreat
open Go.Pv
/-- podium/podiumlaw57.RecountSpec -/
noncomputable def C.podiumlaw57_RecountSpec : MFunc := ⟨84, 5, [.tmp 10],
  (.seq (.region [
    ⟨(some 7), none, .box T.apiRatio (.tmp 2)⟩,
    ⟨(some 8), none, .box T.apiRecount (.tmp 3)⟩,
    ⟨(some 10), none, .val (.mv (.const (.bool false)))⟩] [])
  (.seq (.seq (.region [
    ⟨(some 19), none, .call (.const (.func (.func F.podiumlaw57_sane) [] [])) []⟩,
    ⟨(some 20), none, .val (.un .not (.tmp 19))⟩] [19])
  (.cond (.tmp 20)
  (.seq (.region [
    ⟨(some 10), none, .val (.mv (.const (.bool false)))⟩] [])
  .ret)
  .skip))
  (.seq (.seq (.region [
    ⟨(some 21), none, .val (.mv (.tmp 0))⟩,
    ⟨(some 22), none, .val (.load 4 true (.tmp 7))⟩,
    ⟨(some 23), none, .call (.const (.func (.func F.podiumref57_Few) [] [])) [(.tmp 21), (.tmp 22)]⟩,
    ⟨(some 24), none, .val (.un .not (.tmp 23))⟩,
    ⟨(some 25), none, .val (.mv (.tmp 24))⟩,
    ⟨(some 26), (some (25, false)), .val (.fieldAddr 0 (.tmp 8))⟩,
    ⟨(some 27), (some (25, false)), .val (.load 1 false (.tmp 26))⟩,
    ⟨(some 28), (some (25, false)), .val (.fieldAddr 2 (.tmp 8))⟩,
    ⟨(some 29), (some (25, false)), .val (.load 4 true (.tmp 28))⟩,
    ⟨(some 30), (some (25, false)), .call (.const (.func (.func F.podiumref57_Few) [] [])) [(.tmp 27), (.tmp 29)]⟩,
    ⟨(some 31), (some (25, false)), .val (.un .not (.tmp 30))⟩,
    ⟨(some 32), none, .val (.pick (.tmp 25) (.const (.bool true)) (.tmp 31))⟩] [21, 22, 23, 24, 25, 26, 27, 28, 29, 30, 31])
  (.cond (.tmp 32)
  (.seq (.region [
    ⟨(some 10), none, .val (.mv (.const (.bool true)))⟩] [])
  .ret)
  .skip))
  (.seq (.region [
    ⟨(some 34), none, .val (.mv (.tmp 0))⟩,
    ⟨(some 35), none, .val (.mv (.tmp 1))⟩,
    ⟨(some 36), none, .val (.load 4 true (.tmp 7))⟩,
    ⟨(some 37), none, .call (.const (.func (.func F.recount_Start) [] [])) [(.tmp 34), (.tmp 35), (.tmp 36)]⟩,
    ⟨(some 33), none, .val (.mv (.tmp 37))⟩,
    ⟨(some 38), none, .val (.extract 0 (.tmp 33))⟩,
    ⟨(some 39), none, .val (.extract 1 (.tmp 33))⟩,
    ⟨(some 11), none, .alloc T.apiRecount [(.int 0), (.int 0), (.bool false), .nil, (.bool false), .nil, (.int 0), (.int 0)]⟩,
    ⟨none, none, .store 8 (.tmp 11) (.tmp 38)⟩,
    ⟨(some 12), none, .val (.mv (.tmp 39))⟩] [34, 35, 36, 37, 33, 38, 39])
  (.seq (.region [
    ⟨(some 41), none, .val (.mv (.tmp 0))⟩,
    ⟨(some 42), none, .val (.mv (.tmp 1))⟩,
    ⟨(some 43), none, .val (.load 4 true (.tmp 7))⟩,
    ⟨(some 44), none, .call (.const (.func (.func F.podiumref57_Start) [] [])) [(.tmp 41), (.tmp 42), (.tmp 43)]⟩,
    ⟨(some 40), none, .val (.mv (.tmp 44))⟩,
    ⟨(some 45), none, .val (.extract 0 (.tmp 40))⟩,
    ⟨(some 46), none, .val (.extract 1 (.tmp 40))⟩,
    ⟨(some 13), none, .alloc T.apiRecount [(.int 0), (.int 0), (.bool false), .nil, (.bool false), .nil, (.int 0), (.int 0)]⟩,
    ⟨none, none, .store 8 (.tmp 13) (.tmp 45)⟩,
    ⟨(some 14), none, .val (.mv (.tmp 46))⟩] [41, 42, 43, 44, 40, 45, 46])
  (.seq (.region [
    ⟨(some 48), none, .val (.load 8 true (.tmp 8))⟩,
    ⟨(some 49), none, .val (.mv (.tmp 4))⟩,
    ⟨(some 50), none, .call (.const (.func (.func F.recount_Look) [] [])) [(.tmp 48), (.tmp 49)]⟩,
    ⟨(some 47), none, .val (.mv (.tmp 50))⟩,
    ⟨(some 51), none, .val (.extract 0 (.tmp 47))⟩,
    ⟨(some 52), none, .val (.extract 1 (.tmp 47))⟩,
    ⟨(some 15), none, .alloc T.apiRecount [(.int 0), (.int 0), (.bool false), .nil, (.bool false), .nil, (.int 0), (.int 0)]⟩,
    ⟨none, none, .store 8 (.tmp 15) (.tmp 51)⟩,
    ⟨(some 16), none, .val (.mv (.tmp 52))⟩] [48, 49, 50, 47, 51, 52])
  (.seq (.region [
    ⟨(some 54), none, .val (.load 8 true (.tmp 8))⟩,
    ⟨(some 55), none, .val (.mv (.tmp 4))⟩,
    ⟨(some 56), none, .call (.const (.func (.func F.podiumref57_Look) [] [])) [(.tmp 54), (.tmp 55)]⟩,
    ⟨(some 53), none, .val (.mv (.tmp 56))⟩,
    ⟨(some 57), none, .val (.extract 0 (.tmp 53))⟩,
    ⟨(some 58), none, .val (.extract 1 (.tmp 53))⟩,
    ⟨(some 17), none, .alloc T.apiRecount [(.int 0), (.int 0), (.bool false), .nil, (.bool false), .nil, (.int 0), (.int 0)]⟩,
    ⟨none, none, .store 8 (.tmp 17) (.tmp 57)⟩,
    ⟨(some 18), none, .val (.mv (.tmp 58))⟩] [54, 55, 56, 53, 57, 58])
  (.seq (.draw true [
    (.early, ⟨(some 59), none, .val (.load 8 true (.tmp 11))⟩),
    (.early, ⟨(some 60), none, .val (.load 8 true (.tmp 13))⟩),
    (.hard, ⟨(some 61), none, .call (.const (.func (.func F.podiumref57_Same) [] [])) [(.tmp 59), (.tmp 60)]⟩),
    (.late, ⟨(some 62), none, .val (.mv (.tmp 61))⟩),
    (.late, ⟨(some 63), (some (62, true)), .val (.mv (.tmp 12))⟩),
    (.late, ⟨(some 64), (some (62, true)), .val (.mv (.tmp 14))⟩),
    (.late, ⟨(some 65), (some (62, true)), .val (.bin .eql T.apiErrno (.tmp 63) (.tmp 64))⟩),
    (.late, ⟨(some 66), none, .val (.pick (.tmp 62) (.tmp 65) (.const (.bool false)))⟩),
    (.late, ⟨(some 67), none, .val (.mv (.tmp 66))⟩),
    (.late, ⟨(some 68), (some (67, true)), .val (.load 8 true (.tmp 8))⟩),
    (.late, ⟨(some 70), (some (67, true)), .val (.load 8 true (.tmp 8))⟩),
    (.hard, ⟨(some 69), (some (67, true)), .call (.const (.func (.func F.recount_Check) [] [])) [(.tmp 68)]⟩),
    (.hard, ⟨(some 71), (some (67, true)), .call (.const (.func (.func F.podiumref57_Check) [] [])) [(.tmp 70)]⟩),
    (.late, ⟨(some 72), (some (67, true)), .val (.bin .eql T.apiErrno (.tmp 69) (.tmp 71))⟩),
    (.late, ⟨(some 73), none, .val (.pick (.tmp 67) (.tmp 72) (.const (.bool false)))⟩),
    (.late, ⟨(some 74), none, .val (.mv (.tmp 73))⟩),
    (.late, ⟨(some 75), (some (74, true)), .val (.load 8 true (.tmp 15))⟩),
    (.late, ⟨(some 76), (some (74, true)), .val (.load 8 true (.tmp 17))⟩),
    (.hard, ⟨(some 77), (some (74, true)), .call (.const (.func (.func F.podiumref57_Same) [] [])) [(.tmp 75), (.tmp 76)]⟩),
    (.late, ⟨(some 78), none, .val (.pick (.tmp 74) (.tmp 77) (.const (.bool false)))⟩),
    (.late, ⟨(some 79), none, .val (.mv (.tmp 78))⟩),
    (.late, ⟨(some 80), (some (79, true)), .val (.mv (.tmp 16))⟩),
    (.late, ⟨(some 81), (some (79, true)), .val (.mv (.tmp 18))⟩),
    (.late, ⟨(some 82), (some (79, true)), .val (.bin .eql T.apiErrno (.tmp 80) (.tmp 81))⟩),
    (.late, ⟨(some 83), none, .val (.pick (.tmp 79) (.tmp 82) (.const (.bool false)))⟩),
    (.late, ⟨(some 10), none, .val (.mv (.tmp 83))⟩)] [59, 60, 61, 62, 63, 64, 65, 66, 67, 68, 69, 70, 71, 72, 73, 74, 75, 76, 77, 78, 79, 80, 81, 82, 83])
  .ret))))))))⟩
theorem H.podiumlaw57_RecountSpec : Has P F.podiumlaw57_RecountSpec C.podiumlaw57_RecountSpec := ⟨Tryz.f3, Tryz.func3, by kernel_rfl, by kernel_rfl⟩
end Go.Proofs.YtokkkmfbejgccaaGreat
/- RecountSpec. -/
namespace Go.Proofs.YtokkkmfbejgccaaGreat
open Go.Pv
set_option maxRecDepth 100000
set_option maxHeartbeats 16000000
theorem spec_law (n w : Int) (s1 t1 s2 t2 : Bool) (L1 L2 : List Int) (r : Rc) (g : Bool) (st : Store) : Rets P F.podiumlaw57_RecountSpec [.int n, .int w, .agg [.bool s1, intLst t1 L1, .bool s2, intLst t2 L2], .agg (r.enc false false), .bool g] st (.bool true) := by
  have cf0 := few57_spec n s1 t1 s2 t2 L1 L2
  have cf := few57_spec r.n r.s1 false r.s2 false r.L1 r.L2
  have lE : (r.enc false false).length = 8 := rfl
  have l0 : ∀ h : 0 < (r.enc false false).length, (r.enc false false)[0]'h = .int r.n := fun _ => rfl
  have f8 := cells_sub lE
  have f4 : sub (r.enc false false) 2 4 = some [.bool r.s1, intLst false r.L1, .bool r.s2, intLst false r.L2] := rfl
  by_cases hf0 : few57 n L1 L2 = true
  · have fr0 := few57_few (r := ⟨n, w, s1, L1, s2, L2, 0, 0⟩) hf0
    rw [hf0] at cf0
    clear hf0
    by_cases hf : few57 r.n r.L1 r.L2 = true
    · have fr := few57_few hf
      rw [hf] at cf
      clear hf
      have c1 := start_spec n w s1 t1 s2 t2 L1 L2 fr0.n fr0.l1 fr0.l2
      have c2 := rStart_spec n w s1 t1 s2 t2 L1 L2 fr0.n fr0.l1 fr0.l2
      have c3 := check_spec r fr false false
      have c4 := rCheck57_spec r fr
      have hK : r.K ≤ 1000000 := needK_small fr.n
      have c5 := look_spec r fr hK false false g
      have c6 := rLook57_spec r fr g
      have cs := same_self (startR_len (w := w) (s1 := s1) (s2 := s2) fr0.n fr0.l1 fr0.l2)
      have cl := same_self (lookR_len fr g)
      obtain ⟨E, hE⟩ : ∃ E, E = needE n w s1 L1 s2 L2 := ⟨_, rfl⟩
      obtain ⟨Y, hY⟩ : ∃ Y, Y = (startR n w s1 L1 s2 L2).enc false false := ⟨_, rfl⟩
      have lY : Y.length = 8 := by rw [hY]; rfl
      rw [← hY, ← hE] at c1 c2
      rw [← hY] at cs
      obtain ⟨Z, hZ⟩ : ∃ Z, Z = lookR r g := ⟨_, rfl⟩
      rw [← hZ] at c5 c6 cl
      obtain ⟨X, hX⟩ : ∃ Y, Y = Z.1.enc false false := ⟨_, rfl⟩
      have lX : X.length = 8 := by rw [hX]; rfl
      rw [← hX] at c5 c6 cl
      obtain ⟨k, hk⟩ : ∃ k : Int, k = if r.ok = true then 0 else 570 := ⟨_, rfl⟩
      rw [← hk] at c3 c4
      have fY := cells_sub lY
      have aY : setCells [.int 0, .int 0, .bool false, .nil, .bool false, .nil, .int 0, .int 0] 0 Y = Y := setCells_all Y _ lY
      have fX := cells_sub lX
      have aX : setCells [.int 0, .int 0, .bool false, .nil, .bool false, .nil, .int 0, .int 0] 0 X = X := setCells_all X _ lX
      clear hZ hY hX hE hk hK fr fr0
      refine H.podiumlaw57_RecountSpec.pure hmix rfl rfl ?_
      repeat' (first 
       | (with_reducible refine Fresh.intro fun b hb => ?_) <;> (try simp -dsimp -implicitDefEqProofs [*] at hb)
       | (with_reducible refine Rets.xcall (sane_spec _) ?_)
       | (with_reducible refine Rets.xcall (cf0 _) ?_)
       | (with_reducible refine Rets.xcall (cf _) ?_)
       | (with_reducible refine Rets.xcall (c1 _) ?_)
       | (with_reducible refine Rets.xcall (c2 _) ?_)
       | (with_reducible refine Rets.xcall (c3 _) ?_)
       | (with_reducible refine Rets.xcall (c4 _) ?_)
       | (with_reducible refine Rets.xcall (c5 _) ?_)
       | (with_reducible refine Rets.xcall (c6 _) ?_)
       | (with_reducible refine Rets.xcall (cs _) ?_)
       | (with_reducible refine Rets.xcall (cl _) ?_)
       | (with_reducible refine DrawLate.intro [] ?_)
       | (simp -dsimp -implicitDefEqProofs [*]))
    · rw [Bool.not_eq_true] at hf
      rw [hf] at cf
      clear hf
      refine H.podiumlaw57_RecountSpec.pure hmix rfl rfl ?_
      repeat' (first 
       | (with_reducible refine Fresh.intro fun b hb => ?_) <;> (try simp -dsimp -implicitDefEqProofs [*] at hb)
       | (with_reducible refine Rets.xcall (sane_spec _) ?_)
       | (with_reducible refine Rets.xcall (cf0 _) ?_)
       | (with_reducible refine Rets.xcall (cf _) ?_)
       | (simp -dsimp -implicitDefEqProofs [*]))
  · rw [Bool.not_eq_true] at hf0
    rw [hf0] at cf0
    clear hf0
    refine H.podiumlaw57_RecountSpec.pure hmix rfl rfl ?_
    repeat' (first 
     | (with_reducible refine Fresh.intro fun b hb => ?_) <;> (try simp -dsimp -implicitDefEqProofs [*] at hb)
     | (with_reducible refine Rets.xcall (sane_spec _) ?_)
     | (with_reducible refine Rets.xcall (cf0 _) ?_)
     | (simp -dsimp -implicitDefEqProofs [*]))
end Go.Proofs.YtokkkmfbejgccaaGreat
