/- The code of one function. -/
import Derived.Test.YtokkkmfbejgccaaGreatCode
import Derived.Test.YtokkkmfbejgccaaGreatG57ZL
set_option maxRecDepth 100000
namespace Go.Proofs.YtokkkmfbejgccaaGreat
open Go.Pv
/-- podium/podiumlaw57.RecountRunSpec -/
noncomputable def C.podiumlaw57_RecountRunSpec : MFunc := ⟨55, 3, [.tmp 6],
  (.seq (.region [
    ⟨(some 3), none, .box T.apiRecount (.tmp 0)⟩,
    ⟨(some 6), none, .val (.mv (.const (.bool false)))⟩] [])
  (.seq (.seq (.region [
    ⟨(some 13), none, .call (.const (.func (.func F.podiumlaw57_sane) [] [])) []⟩,
    ⟨(some 14), none, .val (.un .not (.tmp 13))⟩] [13])
  (.cond (.tmp 14)
  (.seq (.region [
    ⟨(some 6), none, .val (.mv (.const (.bool false)))⟩] [])
  .ret)
  .skip))
  (.seq (.seq (.region [
    ⟨(some 15), none, .val (.fieldAddr 0 (.tmp 3))⟩,
    ⟨(some 16), none, .val (.load 1 false (.tmp 15))⟩,
    ⟨(some 17), none, .val (.fieldAddr 2 (.tmp 3))⟩,
    ⟨(some 18), none, .val (.load 4 true (.tmp 17))⟩,
    ⟨(some 19), none, .call (.const (.func (.func F.podiumref57_Few) [] [])) [(.tmp 16), (.tmp 18)]⟩,
    ⟨(some 20), none, .val (.un .not (.tmp 19))⟩,
    ⟨(some 21), none, .val (.mv (.tmp 20))⟩,
    ⟨(some 22), (some (21, false)), .val (.mv (.tmp 1))⟩,
    ⟨(some 23), (some (21, false)), .val (.len (.tmp 22))⟩,
    ⟨(some 24), (some (21, false)), .val (.bin .gtr T.int (.tmp 23) (.const (.int 40)))⟩,
    ⟨(some 25), none, .val (.pick (.tmp 21) (.const (.bool true)) (.tmp 24))⟩] [15, 16, 17, 18, 19, 20, 21, 22, 23, 24])
  (.cond (.tmp 25)
  (.seq (.region [
    ⟨(some 6), none, .val (.mv (.const (.bool true)))⟩] [])
  .ret)
  .skip))
  (.seq (.region [
    ⟨(some 27), none, .val (.load 8 true (.tmp 3))⟩,
    ⟨(some 28), none, .val (.mv (.tmp 1))⟩,
    ⟨(some 29), none, .val (.mv (.tmp 2))⟩,
    ⟨(some 30), none, .call (.const (.func (.func F.recount_Run) [] [])) [(.tmp 27), (.tmp 28), (.tmp 29)]⟩,
    ⟨(some 26), none, .val (.mv (.tmp 30))⟩,
    ⟨(some 31), none, .val (.extract 0 (.tmp 26))⟩,
    ⟨(some 32), none, .val (.extract 1 (.tmp 26))⟩,
    ⟨(some 33), none, .val (.extract 2 (.tmp 26))⟩,
    ⟨(some 7), none, .alloc T.apiRecount [(.int 0), (.int 0), (.bool false), .nil, (.bool false), .nil, (.int 0), (.int 0)]⟩,
    ⟨none, none, .store 8 (.tmp 7) (.tmp 31)⟩,
    ⟨(some 8), none, .val (.mv (.tmp 32))⟩,
    ⟨(some 9), none, .val (.mv (.tmp 33))⟩] [27, 28, 29, 30, 26, 31, 32, 33])
  (.seq (.region [
    ⟨(some 35), none, .val (.load 8 true (.tmp 3))⟩,
    ⟨(some 36), none, .val (.mv (.tmp 1))⟩,
    ⟨(some 37), none, .val (.mv (.tmp 2))⟩,
    ⟨(some 38), none, .call (.const (.func (.func F.podiumref57_Run) [] [])) [(.tmp 35), (.tmp 36), (.tmp 37)]⟩,
    ⟨(some 34), none, .val (.mv (.tmp 38))⟩,
    ⟨(some 39), none, .val (.extract 0 (.tmp 34))⟩,
    ⟨(some 40), none, .val (.extract 1 (.tmp 34))⟩,
    ⟨(some 41), none, .val (.extract 2 (.tmp 34))⟩,
    ⟨(some 10), none, .alloc T.apiRecount [(.int 0), (.int 0), (.bool false), .nil, (.bool false), .nil, (.int 0), (.int 0)]⟩,
    ⟨none, none, .store 8 (.tmp 10) (.tmp 39)⟩,
    ⟨(some 11), none, .val (.mv (.tmp 40))⟩,
    ⟨(some 12), none, .val (.mv (.tmp 41))⟩] [35, 36, 37, 38, 34, 39, 40, 41])
  (.seq (.region [
    ⟨(some 42), none, .val (.load 8 true (.tmp 7))⟩,
    ⟨(some 43), none, .val (.load 8 true (.tmp 10))⟩,
    ⟨(some 44), none, .call (.const (.func (.func F.podiumref57_Same) [] [])) [(.tmp 42), (.tmp 43)]⟩,
    ⟨(some 45), none, .val (.mv (.tmp 44))⟩,
    ⟨(some 46), (some (45, true)), .val (.mv (.tmp 8))⟩,
    ⟨(some 47), (some (45, true)), .val (.mv (.tmp 11))⟩,
    ⟨(some 48), (some (45, true)), .val (.bin .eql T.int (.tmp 46) (.tmp 47))⟩,
    ⟨(some 49), none, .val (.pick (.tmp 45) (.tmp 48) (.const (.bool false)))⟩,
    ⟨(some 50), none, .val (.mv (.tmp 49))⟩,
    ⟨(some 51), (some (50, true)), .val (.mv (.tmp 9))⟩,
    ⟨(some 52), (some (50, true)), .val (.mv (.tmp 12))⟩,
    ⟨(some 53), (some (50, true)), .val (.bin .eql T.apiErrno (.tmp 51) (.tmp 52))⟩,
    ⟨(some 54), none, .val (.pick (.tmp 50) (.tmp 53) (.const (.bool false)))⟩,
    ⟨(some 6), none, .val (.mv (.tmp 54))⟩] [42, 43, 44, 45, 46, 47, 48, 49, 50, 51, 52, 53, 54])
  .ret))))))⟩
theorem H.podiumlaw57_RecountRunSpec : Has P F.podiumlaw57_RecountRunSpec C.podiumlaw57_RecountRunSpec := ⟨Tryz.f4, Tryz.func4, by kernel_rfl, by kernel_rfl⟩
end Go.Proofs.YtokkkmfbejgccaaGreat
/- RecountRunSpec. -/
namespace Go.Proofs.YtokkkmfbejgccaaGreat
open Go.Pv
set_option maxRecDepth 100000
set_option maxHeartbeats 16000000
theorem runSpec_law (r : Rc) (t u : Bool) (O : List Int) (A : List Bool) (st : Store) : Rets P F.podiumlaw57_RecountRunSpec [.agg (r.enc false false), intLst t O, boolLst u A] st (.bool true) := by
  have cf := few57_spec r.n r.s1 false r.s2 false r.L1 r.L2
  have lE : (r.enc false false).length = 8 := rfl
  have l0 : ∀ h : 0 < (r.enc false false).length, (r.enc false false)[0]'h = .int r.n := fun _ => rfl
  have f8 := cells_sub lE
  have f4 : sub (r.enc false false) 2 4 = some [.bool r.s1, intLst false r.L1, .bool r.s2, intLst false r.L2] := rfl
  by_cases hf : few57 r.n r.L1 r.L2 = true
  · have fr := few57_few hf
    rw [hf] at cf
    clear hf
    by_cases hO : (40 : Int) < O.length
    · refine H.podiumlaw57_RecountRunSpec.pure hmix rfl rfl ?_
      repeat' (first 
       | (with_reducible refine Fresh.intro fun b hb => ?_) <;> (try simp -dsimp -implicitDefEqProofs [*] at hb)
       | (with_reducible refine Rets.xcall (sane_spec _) ?_)
       | (with_reducible refine Rets.xcall (cf _) ?_)
       | (simp -dsimp -implicitDefEqProofs [*]))
    · have c1 := run_spec r fr false false t u O A (by omega)
      have c2 := rRun57_spec r fr t u O A (by omega)
      have cs := same_self (runR_len fr O A)
      obtain ⟨Z, hZ⟩ : ∃ Z, Z = runR r O A := ⟨_, rfl⟩
      rw [← hZ] at c1 c2 cs
      obtain ⟨Y, hY⟩ : ∃ Y, Y = Z.1.enc false false := ⟨_, rfl⟩
      have lY : Y.length = 8 := by rw [hY]; rfl
      rw [← hY] at c1 c2 cs
      have fY := cells_sub lY
      have aY : setCells [.int 0, .int 0, .bool false, .nil, .bool false, .nil, .int 0, .int 0] 0 Y = Y := setCells_all Y _ lY
      clear hZ hY fr
      refine H.podiumlaw57_RecountRunSpec.pure hmix rfl rfl ?_
      repeat' (first 
       | (with_reducible refine Fresh.intro fun b hb => ?_) <;> (try simp -dsimp -implicitDefEqProofs [*] at hb)
       | (with_reducible refine Rets.xcall (sane_spec _) ?_)
       | (with_reducible refine Rets.xcall (cf _) ?_)
       | (with_reducible refine Rets.xcall (c1 _) ?_)
       | (with_reducible refine Rets.xcall (c2 _) ?_)
       | (with_reducible refine Rets.xcall (cs _) ?_)
       | (simp -dsimp -implicitDefEqProofs [*]))
  · rw [Bool.not_eq_true] at hf
    rw [hf] at cf
    clear hf
    refine H.podiumlaw57_RecountRunSpec.pure hmix rfl rfl ?_
    repeat' (first 
     | (with_reducible refine Fresh.intro fun b hb => ?_) <;> (try simp -dsimp -implicitDefEqProofs [*] at hb)
     | (with_reducible refine Rets.xcall (sane_spec _) ?_)
     | (with_reducible refine Rets.xcall (cf _) ?_)
     | (simp -dsimp -implicitDefEqProofs [*]))
end Go.Proofs.YtokkkmfbejgccaaGreat
