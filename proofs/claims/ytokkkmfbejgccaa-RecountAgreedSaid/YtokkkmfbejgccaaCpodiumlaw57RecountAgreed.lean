/- The code of one function. -/
import Derived.Test.YtokkkmfbejgccaaCode
import Derived.Test.YtokkkmfbejgccaaS57ZG
set_option maxRecDepth 100000
namespace Go.Proofs.Ytokkkmfbejgccaa
open Go.Pv
/-- podium/podiumlaw57.RecountAgreed -/
noncomputable def C.podiumlaw57_RecountAgreed : MFunc := ⟨172, 6, [.tmp 12],
  (.seq (.region [
    ⟨(some 8), none, .box T.apiRatio (.tmp 2)⟩,
    ⟨(some 12), none, .val (.mv (.const (.bool false)))⟩] [])
  (.seq (.seq (.region [
    ⟨(some 26), none, .call (.const (.func (.func F.podiumlaw57_sane) [] [])) []⟩,
    ⟨(some 27), none, .val (.un .not (.tmp 26))⟩] [26])
  (.cond (.tmp 27)
  (.seq (.region [
    ⟨(some 12), none, .val (.mv (.const (.bool false)))⟩] [])
  .ret)
  .skip))
  (.seq (.seq (.region [
    ⟨(some 28), none, .val (.mv (.tmp 0))⟩,
    ⟨(some 29), none, .val (.bin .gtr T.int (.tmp 28) (.const (.int 12)))⟩,
    ⟨(some 30), none, .val (.mv (.tmp 29))⟩,
    ⟨(some 31), (some (30, false)), .val (.mv (.tmp 0))⟩,
    ⟨(some 32), (some (30, false)), .val (.load 4 true (.tmp 8))⟩,
    ⟨(some 33), (some (30, false)), .call (.const (.func (.func F.podiumref57_Few) [] [])) [(.tmp 31), (.tmp 32)]⟩,
    ⟨(some 34), (some (30, false)), .val (.un .not (.tmp 33))⟩,
    ⟨(some 35), none, .val (.pick (.tmp 30) (.const (.bool true)) (.tmp 34))⟩,
    ⟨(some 36), none, .val (.mv (.tmp 35))⟩,
    ⟨(some 37), (some (36, false)), .val (.mv (.tmp 3))⟩,
    ⟨(some 38), (some (36, false)), .val (.len (.tmp 37))⟩,
    ⟨(some 39), (some (36, false)), .val (.bin .gtr T.int (.tmp 38) (.const (.int 12)))⟩,
    ⟨(some 40), none, .val (.pick (.tmp 36) (.const (.bool true)) (.tmp 39))⟩,
    ⟨(some 41), none, .val (.mv (.tmp 40))⟩,
    ⟨(some 42), (some (41, false)), .val (.mv (.tmp 4))⟩,
    ⟨(some 43), (some (41, false)), .val (.len (.tmp 42))⟩,
    ⟨(some 44), (some (41, false)), .val (.bin .gtr T.int (.tmp 43) (.const (.int 12)))⟩,
    ⟨(some 45), none, .val (.pick (.tmp 41) (.const (.bool true)) (.tmp 44))⟩] [28, 29, 30, 31, 32, 33, 34, 35, 36, 37, 38, 39, 40, 41, 42, 43, 44])
  (.cond (.tmp 45)
  (.seq (.region [
    ⟨(some 12), none, .val (.mv (.const (.bool true)))⟩] [])
  .ret)
  .skip))
  (.seq (.region [
    ⟨(some 47), none, .val (.mv (.tmp 0))⟩,
    ⟨(some 48), none, .val (.mv (.tmp 1))⟩,
    ⟨(some 49), none, .val (.load 4 true (.tmp 8))⟩,
    ⟨(some 50), none, .call (.const (.func (.func F.recount_Start) [] [])) [(.tmp 47), (.tmp 48), (.tmp 49)]⟩,
    ⟨(some 46), none, .val (.mv (.tmp 50))⟩,
    ⟨(some 51), none, .val (.extract 0 (.tmp 46))⟩,
    ⟨(some 52), none, .val (.extract 1 (.tmp 46))⟩,
    ⟨(some 13), none, .alloc T.apiRecount [(.int 0), (.int 0), (.bool false), .nil, (.bool false), .nil, (.int 0), (.int 0)]⟩,
    ⟨none, none, .store 8 (.tmp 13) (.tmp 51)⟩,
    ⟨(some 14), none, .val (.mv (.tmp 52))⟩] [47, 48, 49, 50, 46, 51, 52])
  (.seq (.region [
    ⟨(some 54), none, .val (.load 8 true (.tmp 13))⟩,
    ⟨(some 55), none, .val (.mv (.tmp 3))⟩,
    ⟨(some 56), none, .val (.mv (.tmp 4))⟩,
    ⟨(some 57), none, .call (.const (.func (.func F.recount_Run) [] [])) [(.tmp 54), (.tmp 55), (.tmp 56)]⟩,
    ⟨(some 53), none, .val (.mv (.tmp 57))⟩,
    ⟨(some 58), none, .val (.extract 0 (.tmp 53))⟩,
    ⟨(some 59), none, .val (.extract 1 (.tmp 53))⟩,
    ⟨(some 60), none, .val (.extract 2 (.tmp 53))⟩,
    ⟨(some 15), none, .alloc T.apiRecount [(.int 0), (.int 0), (.bool false), .nil, (.bool false), .nil, (.int 0), (.int 0)]⟩,
    ⟨none, none, .store 8 (.tmp 15) (.tmp 58)⟩,
    ⟨(some 16), none, .val (.mv (.tmp 59))⟩,
    ⟨(some 17), none, .val (.mv (.tmp 60))⟩] [54, 55, 56, 57, 53, 58, 59, 60])
  (.seq (.seq (.region [
    ⟨(some 61), none, .val (.mv (.tmp 14))⟩,
    ⟨(some 62), none, .val (.bin .neq T.apiErrno (.tmp 61) (.const (.int 0)))⟩,
    ⟨(some 63), none, .val (.mv (.tmp 62))⟩,
    ⟨(some 64), (some (63, false)), .val (.mv (.tmp 17))⟩,
    ⟨(some 65), (some (63, false)), .val (.bin .neq T.apiErrno (.tmp 64) (.const (.int 0)))⟩,
    ⟨(some 66), none, .val (.pick (.tmp 63) (.const (.bool true)) (.tmp 65))⟩] [61, 62, 63, 64, 65])
  (.cond (.tmp 66)
  (.seq (.region [
    ⟨(some 12), none, .val (.mv (.const (.bool true)))⟩] [])
  .ret)
  .skip))
  (.seq (.seq (.region [
    ⟨(some 67), none, .val (.mv (.tmp 16))⟩,
    ⟨(some 68), none, .val (.bin .lss T.int (.tmp 67) (.const (.int 0)))⟩,
    ⟨(some 69), none, .val (.mv (.tmp 68))⟩,
    ⟨(some 70), (some (69, false)), .val (.mv (.tmp 16))⟩,
    ⟨(some 71), (some (69, false)), .val (.mv (.tmp 3))⟩,
    ⟨(some 72), (some (69, false)), .val (.len (.tmp 71))⟩,
    ⟨(some 73), (some (69, false)), .val (.bin .gtr T.int (.tmp 70) (.tmp 72))⟩,
    ⟨(some 74), none, .val (.pick (.tmp 69) (.const (.bool true)) (.tmp 73))⟩] [67, 68, 69, 70, 71, 72, 73])
  (.cond (.tmp 74)
  (.seq (.region [
    ⟨(some 12), none, .val (.mv (.const (.bool false)))⟩] [])
  .ret)
  .skip))
  (.seq (.seq (.region [
    ⟨(some 75), none, .val (.mv (.tmp 3))⟩,
    ⟨(some 76), none, .val (.mv (.tmp 16))⟩,
    ⟨(some 77), none, .val (.slice 1 (.tmp 75) none (some (.tmp 76)) none)⟩,
    ⟨(some 78), none, .val (.len (.tmp 77))⟩,
    ⟨(some 79), none, .val (.mv (.const (.int 0)))⟩] [75, 76])
  (.block 0 (.loop (.seq (.region [
    ⟨(some 80), none, .val (.bin .lss T.int (.tmp 79) (.tmp 78))⟩] [])
  (.seq (.cond (.tmp 80)
  .skip
  (.exit 0))
  (.seq (.block 1 (.seq (.region [
    ⟨(some 81), none, .val (.mv (.tmp 79))⟩,
    ⟨(some 82), none, .val (.indexAddr 1 (.tmp 77) (.tmp 79))⟩,
    ⟨(some 83), none, .val (.load 1 false (.tmp 82))⟩,
    ⟨(some 18), none, .val (.mv (.tmp 81))⟩,
    ⟨(some 19), none, .val (.mv (.tmp 83))⟩] [81, 82, 83])
  (.seq (.draw false [
    (.early, ⟨(some 84), none, .val (.mv (.tmp 19))⟩),
    (.early, ⟨(some 85), none, .val (.bin .lss T.int (.tmp 84) (.const (.int 0)))⟩),
    (.early, ⟨(some 86), none, .val (.mv (.tmp 85))⟩),
    (.early, ⟨(some 87), (some (86, false)), .val (.mv (.tmp 19))⟩),
    (.early, ⟨(some 88), (some (86, false)), .val (.mv (.tmp 4))⟩),
    (.early, ⟨(some 89), (some (86, false)), .val (.len (.tmp 88))⟩),
    (.early, ⟨(some 90), (some (86, false)), .val (.bin .geq T.int (.tmp 87) (.tmp 89))⟩),
    (.early, ⟨(some 91), none, .val (.pick (.tmp 86) (.const (.bool true)) (.tmp 90))⟩),
    (.early, ⟨(some 92), none, .val (.mv (.tmp 91))⟩),
    (.early, ⟨(some 93), (some (92, false)), .val (.mv (.tmp 4))⟩),
    (.early, ⟨(some 94), (some (92, false)), .val (.mv (.tmp 19))⟩),
    (.early, ⟨(some 95), (some (92, false)), .val (.indexAddr 1 (.tmp 93) (.tmp 94))⟩),
    (.early, ⟨(some 96), (some (92, false)), .val (.load 1 false (.tmp 95))⟩),
    (.early, ⟨(some 97), (some (92, false)), .val (.fieldAddr 7 (.tmp 15))⟩),
    (.early, ⟨(some 98), (some (92, false)), .val (.load 1 false (.tmp 97))⟩),
    (.early, ⟨(some 99), (some (92, false)), .val (.bin .neq T.int (.tmp 98) (.const (.int 2)))⟩),
    (.early, ⟨(some 100), (some (92, false)), .val (.mv (.tmp 99))⟩),
    (.early, ⟨(some 101), (some (100, false)), .val (.mv (.tmp 18))⟩),
    (.early, ⟨(some 102), (some (100, false)), .val (.mv (.tmp 16))⟩),
    (.early, ⟨(some 103), (some (100, false)), .val (.bin .sub T.int (.tmp 102) (.const (.int 1)))⟩),
    (.early, ⟨(some 104), (some (100, false)), .val (.bin .lss T.int (.tmp 101) (.tmp 103))⟩),
    (.early, ⟨(some 105), (some (92, false)), .val (.pick (.tmp 100) (.const (.bool true)) (.tmp 104))⟩),
    (.early, ⟨(some 106), (some (92, false)), .val (.eqBool true (.tmp 96) (.tmp 105))⟩),
    (.early, ⟨(some 107), none, .val (.pick (.tmp 92) (.const (.bool true)) (.tmp 106))⟩)] [84, 85, 86, 87, 88, 89, 90, 91, 92, 93, 94, 95, 96, 97, 98, 99, 100, 101, 102, 103, 104, 105, 106])
  (.cond (.tmp 107)
  (.seq (.region [
    ⟨(some 12), none, .val (.mv (.const (.bool false)))⟩] [])
  .ret)
  .skip))))
  (.region [
    ⟨(some 108), none, .val (.bin .add T.int (.tmp 79) (.const (.int 1)))⟩,
    ⟨(some 79), none, .val (.mv (.tmp 108))⟩] [108])))))))
  (.seq (.region [
    ⟨(some 109), none, .val (.buildSlice T.bool 0 [] [])⟩,
    ⟨(some 110), none, .val (.mv (.tmp 4))⟩,
    ⟨(some 111), none, .append T.bool 1 1 (.tmp 109) (.tmp 110)⟩,
    ⟨(some 20), none, .val (.mv (.tmp 111))⟩] [109, 110, 111])
  (.seq (.seq (.region [
    ⟨(some 112), none, .val (.mv (.tmp 3))⟩,
    ⟨(some 113), none, .val (.len (.tmp 112))⟩,
    ⟨(some 114), none, .val (.mv (.const (.int 0)))⟩] [])
  (.block 2 (.loop (.seq (.region [
    ⟨(some 115), none, .val (.bin .lss T.int (.tmp 114) (.tmp 113))⟩] [])
  (.seq (.cond (.tmp 115)
  .skip
  (.exit 2))
  (.seq (.block 3 (.seq (.region [
    ⟨(some 116), none, .val (.mv (.tmp 114))⟩,
    ⟨(some 117), none, .val (.indexAddr 1 (.tmp 112) (.tmp 114))⟩,
    ⟨(some 118), none, .val (.load 1 false (.tmp 117))⟩,
    ⟨(some 21), none, .val (.mv (.tmp 116))⟩,
    ⟨(some 22), none, .val (.mv (.tmp 118))⟩] [116, 117, 118])
  (.seq (.region [
    ⟨(some 119), none, .val (.mv (.tmp 21))⟩,
    ⟨(some 120), none, .val (.mv (.tmp 16))⟩,
    ⟨(some 121), none, .val (.bin .geq T.int (.tmp 119) (.tmp 120))⟩,
    ⟨(some 122), none, .val (.mv (.tmp 121))⟩,
    ⟨(some 123), (some (122, true)), .val (.mv (.tmp 22))⟩,
    ⟨(some 124), (some (122, true)), .val (.bin .geq T.int (.tmp 123) (.const (.int 0)))⟩,
    ⟨(some 125), none, .val (.pick (.tmp 122) (.tmp 124) (.const (.bool false)))⟩,
    ⟨(some 126), none, .val (.mv (.tmp 125))⟩,
    ⟨(some 127), (some (126, true)), .val (.mv (.tmp 22))⟩,
    ⟨(some 128), (some (126, true)), .val (.mv (.tmp 20))⟩,
    ⟨(some 129), (some (126, true)), .val (.len (.tmp 128))⟩,
    ⟨(some 130), (some (126, true)), .val (.bin .lss T.int (.tmp 127) (.tmp 129))⟩,
    ⟨(some 131), none, .val (.pick (.tmp 126) (.tmp 130) (.const (.bool false)))⟩] [119, 120, 121, 122, 123, 124, 125, 126, 127, 128, 129, 130])
  (.cond (.tmp 131)
  (.region [
    ⟨(some 132), none, .val (.mv (.tmp 20))⟩,
    ⟨(some 133), none, .val (.mv (.tmp 22))⟩,
    ⟨(some 134), none, .val (.mv (.tmp 5))⟩,
    ⟨(some 135), none, .val (.mv (.tmp 21))⟩,
    ⟨(some 136), none, .val (.bin .shr T.uint16 (.tmp 134) (.tmp 135))⟩,
    ⟨(some 137), none, .val (.bin .and T.uint16 (.tmp 136) (.const (.val (.int .u16 1))))⟩,
    ⟨(some 138), none, .val (.bin .eql T.uint16 (.tmp 137) (.const (.val (.int .u16 1))))⟩,
    ⟨(some 139), none, .val (.indexAddr 1 (.tmp 132) (.tmp 133))⟩,
    ⟨none, none, .store 1 (.tmp 139) (.tmp 138)⟩] [132, 133, 134, 135, 136, 137, 138, 139])
  .skip))))
  (.region [
    ⟨(some 140), none, .val (.bin .add T.int (.tmp 114) (.const (.int 1)))⟩,
    ⟨(some 114), none, .val (.mv (.tmp 140))⟩] [140])))))))
  (.seq (.region [
    ⟨(some 142), none, .val (.load 8 true (.tmp 13))⟩,
    ⟨(some 143), none, .val (.mv (.tmp 3))⟩,
    ⟨(some 144), none, .val (.mv (.tmp 20))⟩,
    ⟨(some 145), none, .call (.const (.func (.func F.recount_Run) [] [])) [(.tmp 142), (.tmp 143), (.tmp 144)]⟩,
    ⟨(some 141), none, .val (.mv (.tmp 145))⟩,
    ⟨(some 146), none, .val (.extract 0 (.tmp 141))⟩,
    ⟨(some 147), none, .val (.extract 1 (.tmp 141))⟩,
    ⟨(some 148), none, .val (.extract 2 (.tmp 141))⟩,
    ⟨(some 23), none, .alloc T.apiRecount [(.int 0), (.int 0), (.bool false), .nil, (.bool false), .nil, (.int 0), (.int 0)]⟩,
    ⟨none, none, .store 8 (.tmp 23) (.tmp 146)⟩,
    ⟨(some 24), none, .val (.mv (.tmp 147))⟩,
    ⟨(some 25), none, .val (.mv (.tmp 148))⟩] [142, 143, 144, 145, 141, 146, 147, 148])
  (.seq (.region [
    ⟨(some 149), none, .val (.mv (.tmp 25))⟩,
    ⟨(some 150), none, .val (.bin .eql T.apiErrno (.tmp 149) (.const (.int 0)))⟩,
    ⟨(some 151), none, .val (.mv (.tmp 150))⟩,
    ⟨(some 152), (some (151, true)), .val (.load 8 true (.tmp 15))⟩,
    ⟨(some 153), (some (151, true)), .val (.load 8 true (.tmp 23))⟩,
    ⟨(some 154), (some (151, true)), .call (.const (.func (.func F.podiumref57_Same) [] [])) [(.tmp 152), (.tmp 153)]⟩,
    ⟨(some 155), none, .val (.pick (.tmp 151) (.tmp 154) (.const (.bool false)))⟩,
    ⟨(some 156), none, .val (.mv (.tmp 155))⟩,
    ⟨(some 157), (some (156, true)), .val (.mv (.tmp 24))⟩,
    ⟨(some 158), (some (156, true)), .val (.mv (.tmp 16))⟩,
    ⟨(some 159), (some (156, true)), .val (.bin .eql T.int (.tmp 157) (.tmp 158))⟩,
    ⟨(some 160), none, .val (.pick (.tmp 156) (.tmp 159) (.const (.bool false)))⟩,
    ⟨(some 161), none, .val (.mv (.tmp 160))⟩,
    ⟨(some 162), (some (161, true)), .val (.fieldAddr 7 (.tmp 15))⟩,
    ⟨(some 163), (some (161, true)), .val (.load 1 false (.tmp 162))⟩,
    ⟨(some 164), (some (161, true)), .val (.bin .neq T.int (.tmp 163) (.const (.int 0)))⟩,
    ⟨(some 165), (some (161, true)), .val (.mv (.tmp 164))⟩,
    ⟨(some 166), (some (165, false)), .val (.mv (.tmp 16))⟩,
    ⟨(some 167), (some (165, false)), .val (.mv (.tmp 3))⟩,
    ⟨(some 168), (some (165, false)), .val (.len (.tmp 167))⟩,
    ⟨(some 169), (some (165, false)), .val (.bin .eql T.int (.tmp 166) (.tmp 168))⟩,
    ⟨(some 170), (some (161, true)), .val (.pick (.tmp 165) (.const (.bool true)) (.tmp 169))⟩,
    ⟨(some 171), none, .val (.pick (.tmp 161) (.tmp 170) (.const (.bool false)))⟩,
    ⟨(some 12), none, .val (.mv (.tmp 171))⟩] [149, 150, 151, 152, 153, 154, 155, 156, 157, 158, 159, 160, 161, 162, 163, 164, 165, 166, 167, 168, 169, 170, 171])
  .ret))))))))))))⟩
theorem H.podiumlaw57_RecountAgreed : Has P F.podiumlaw57_RecountAgreed C.podiumlaw57_RecountAgreed := ⟨Try.f5, Try.func5, by kernel_rfl, by kernel_rfl⟩
end Go.Proofs.Ytokkkmfbejgccaa
/- RecountAgreed. -/
namespace Go.Proofs.Ytokkkmfbejgccaa
open Go.Pv
set_option maxRecDepth 100000
set_option maxHeartbeats 16000000
theorem needE_pos {n w : Int} {s1 s2 : Bool} {L1 L2 : List Int} (h : needE n w s1 L1 s2 L2 = 0) : 0 < n := by
  unfold needE at h
  split at h
  · cases h
  · rename_i hw
    simp only [wi, Bool.and_eq_false_iff, decide_eq_false_iff_not, not_or, Decidable.not_not] at hw
    obtain ⟨⟨h1, h2⟩, h3, h4⟩ := hw
    omega
/-- Other sheets, the same up to the last look. -/
def OtherOk (O : List Int) (A : List Bool) (N : Nat) (B : List Bool) : Prop := B.length = A.length ∧ ∀ k (hk : k < O.length), k < N → B.getD O[k].toNat false = A.getD O[k].toNat false
theorem OtherOk.step {O : List Int} {A B : List Bool} {N i j : Nat} {n : Int} {v : Bool} (h : OtherOk O A N B) (ho : orderOk n O = true) (hN : N ≤ i) (hi : i < O.length) (hj : O[i] = j) : OtherOk O A N (B.set j v) := by
  refine ⟨by rw [List.length_set]; exact h.1, fun k hk hkN => ?_⟩
  rw [← h.2 k hk hkN]
  have hne : O[k] ≠ O[i] := fun e => by
    have hm : O[k] ∈ O.take i := List.mem_take_iff_getElem.2 ⟨k, by omega, rfl⟩
    rw [e] at hm
    exact ((orderOk_step hi).1 (orderOk_take (i + 1) ho)).2.2.2 hm
  have h0 := (orderOk_get ho k hk).1
  have hne2 : j ≠ O[k].toNat := fun e => hne (by rw [hj]; omega)
  simp only [List.getD_eq_getElem?_getD, List.getElem?_set_ne hne2]
theorem other_run {r : Rc} {O : List Int} {A B : List Bool} (h : r.ok = true) (hA : (A.length : Int) = r.n) (ho : orderOk r.n O = true) (hB : OtherOk O A (runL r.K (seqA O A) r).2 B) : runR r O B = runR r O A := by
  rw [runR_ok h hA ho, runR_ok h (by rw [hB.1]; exact hA) ho]
  have : runL r.K (seqA O B) r = runL r.K (seqA O A) r := runL_same _ _ r (by simp [seqA]) (fun i hi => by
    have hi2 : i < O.length := by have := (runL_count (K := r.K) (seqA O A) r).1; rw [show (seqA O A).length = O.length by simp [seqA]] at this; omega
    have := hB.2 i hi2 hi
    simp only [seqA, List.getElem?_map, List.getElem?_eq_getElem hi2, Option.map_some, Option.some.injEq]
    exact this.symm)
  rw [this]
theorem agreed_law (n w : Int) (s1 t1 s2 t2 : Bool) (L1 L2 : List Int) (t u : Bool) (O : List Int) (A : List Bool) (m : Int) (hm : 0 ≤ m ∧ m < 65536) (st : Store) :
    Rets P F.podiumlaw57_RecountAgreed [.int n, .int w, .agg [.bool s1, intLst t1 L1, .bool s2, intLst t2 L2], intLst t O, boolLst u A, .val (.int .u16 m)] st (.bool true) := by
  have cf := few57_spec n s1 t1 s2 t2 L1 L2
  by_cases hn : 12 < n
  · refine H.podiumlaw57_RecountAgreed.pure hmix rfl rfl ?_
    repeat' (first 
     | (with_reducible refine Fresh.intro fun b hb => ?_) <;> (try simp -dsimp -implicitDefEqProofs [*] at hb)
     | (with_reducible refine Rets.xcall (sane_spec _) ?_)
     | (simp -dsimp -implicitDefEqProofs [*]))
  by_cases hf : few57 n L1 L2 = true
  · rw [hf] at cf
    by_cases hO : (12 : Int) < (O.length : Int)
    · refine H.podiumlaw57_RecountAgreed.pure hmix rfl rfl ?_
      repeat' (first 
       | (with_reducible refine Fresh.intro fun b hb => ?_) <;> (try simp -dsimp -implicitDefEqProofs [*] at hb)
       | (with_reducible refine Rets.xcall (sane_spec _) ?_)
       | (with_reducible refine Rets.xcall (cf _) ?_)
       | (simp -dsimp -implicitDefEqProofs [*]))
    by_cases hA : (12 : Int) < (A.length : Int)
    · refine H.podiumlaw57_RecountAgreed.pure hmix rfl rfl ?_
      repeat' (first 
       | (with_reducible refine Fresh.intro fun b hb => ?_) <;> (try simp -dsimp -implicitDefEqProofs [*] at hb)
       | (with_reducible refine Rets.xcall (sane_spec _) ?_)
       | (with_reducible refine Rets.xcall (cf _) ?_)
       | (simp -dsimp -implicitDefEqProofs [*]))
    have fw := few57_few (r := ⟨n, w, s1, L1, s2, L2, 0, 0⟩) hf
    have cs := start_spec n w s1 t1 s2 t2 L1 L2 fw.n fw.l1 fw.l2
    have lX : ∀ R : Rc, (R.enc false false).length = 8 := fun R => rfl
    have fX := fun R : Rc => cells_sub (lX R)
    have fa := fun R : Rc => cells_all (c := [.int 0, .int 0, .bool false, .nil, .bool false, .nil, .int 0, .int 0]) (V := R.enc false false) rfl
    by_cases hE : needE n w s1 L1 s2 L2 = 0
    · obtain ⟨eR, rok, rs⟩ := startR_ok hE
      obtain ⟨r, hr⟩ : ∃ r, r = startR n w s1 L1 s2 L2 := ⟨_, rfl⟩
      rw [← hr] at cs rok rs eR
      rw [hE] at cs
      have rf : r.Few := by rw [eR]; exact ⟨fw.n, fw.l1, fw.l2⟩
      have cr := run_spec r rf false false t u O A (by omega)
      rcases runR_cases r O A with ⟨h, hAn, ho⟩ | e
      · rw [runR_ok h hAn ho] at cr
        obtain ⟨X, hX⟩ : ∃ X : Rc × Nat, X = runL r.K (seqA O A) r := ⟨_, rfl⟩
        rw [← hX] at cr
        have sL : (seqA O A).length = O.length := by simp [seqA]
        have xn : X.2 ≤ O.length := by rw [hX, ← sL]; exact (runL_count _ _).1
        have xs : X.1.s = 0 → X.2 = O.length := fun e => by rw [hX] at e ⊢; rw [← sL]; exact (runL_count _ _).2 e
        have seen : Hid (∀ i, i < X.2 → ∃ (hi : i < O.length) (j : Nat) (hj : j < A.length), O[i] = j ∧ A[j] = (decide (X.1.s ≠ 2) || decide (i + 1 < X.2))) := ⟨fun i hi => by
          have hiO : i < O.length := by omega
          obtain ⟨o1, o2⟩ := orderOk_get ho i hiO
          have k := runL_seen (K := r.K) (seqA O A) r rs i (by rw [← hX]; exact hi)
          rw [← hX] at k
          refine ⟨hiO, (O[i]).toNat, by omega, by omega, ?_⟩
          have hj : (O[i]).toNat < A.length := by omega
          simp only [seqA, List.getElem?_map, List.getElem?_eq_getElem hiO, Option.map_some, Option.some.injEq] at k
          rw [← k]
          simp [List.getD, hj]⟩
        have kr : Hid (r.Few ∧ r.ok = true ∧ (A.length : Int) = r.n ∧ orderOk r.n O = true ∧ X = runL r.K (seqA O A) r) := ⟨rf, h, hAn, ho, hX⟩
        have cr : ∀ st, Rets P F.recount_Run [.agg (r.enc false false), intLst t O, boolLst u A] st (.tuple [.agg (X.1.enc false false), .int X.2, .int 0]) := cr
        have xs : Hid _ := ⟨xs⟩
        have hne : 0 < A.length := by
          have := needE_pos hE
          have e2 : r.n = n := by rw [eR]
          omega
        have xl : ∀ h : 7 < (X.1.enc false false).length, (X.1.enc false false)[7]'h = .int X.1.s := fun _ => rfl
        clear eR hr hE hf rf rs rok fw hX h hAn ho sL
        refine H.podiumlaw57_RecountAgreed.pure hmix rfl rfl ?_
        repeat' (first 
         | (with_reducible refine Fresh.intro fun b hb => ?_) <;> (try simp -dsimp -implicitDefEqProofs [*] at hb)
         | (with_reducible refine Rets.xcall (sane_spec _) ?_)
         | (with_reducible refine Rets.xcall (cf _) ?_)
         | (with_reducible refine Rets.xcall (cs _) ?_)
         | (with_reducible refine Rets.xcall (cr _) ?_)
         | (simp -dsimp -implicitDefEqProofs [*]))
        revert b
        revert b
        revert b
        intro p8 hp8 p13 hp13 p15 hp15
        have cr' : Hid _ := ⟨cr⟩
        have cs' : Hid _ := ⟨cs⟩
        clear cr cs
        obtain ⟨Y, eY⟩ : ∃ Y, Y = X.1.enc false false := ⟨_, rfl⟩
        have lY := lX X.1
        have fY := fX X.1
        rw [← eY] at xl lY fY ⊢
        obtain ⟨k, ek⟩ : ∃ k, k = X.1.s := ⟨_, rfl⟩
        have seen' := seen.out
        rw [← ek] at xl seen'
        obtain ⟨N, eN⟩ : ∃ N, N = X.2 := ⟨_, rfl⟩
        rw [← eN] at seen' xn ⊢
        have seen2 : Hid _ := ⟨seen'⟩
        clear seen'
        have hY : Hid _ := ⟨eY⟩
        have hk : Hid _ := ⟨ek⟩
        have hN : Hid _ := ⟨eN⟩
        clear seen eY ek eN
        refine xloop_for (fun y : Nat => [(79, .int y), (78, .int N), (77, .list false ((intRow O).take N) N), (16, .int N), (15, .ptr p15 0), (13, .ptr p13 0), (12, .bool false), (3, intLst t O), (4, boolLst u A), (5, .val (.int .u16 m))])
          (fun _ => (p15, .arr T.apiRecount Y) :: (p13, .arr T.apiRecount (r.enc false false)) :: (p8, .arr T.apiRatio [.bool s1, intLst t1 L1, .bool s2, intLst t2 L2]) :: st) (fun y => y ≤ N) (fun y => N - y) 0 (Nat.zero_le _) (by simp) (.refl _) ?_
        intro i hi
        by_cases hiN : i < N
        · obtain ⟨hiO, j, hj, e1, e2⟩ := seen2.out i hiN
          have x5 := wrap_succ (n := i) (by omega)
          have x6 : IntKind.i64.wrap ((N : Int) - 1) = (N : Int) - 1 := wrap_in (by omega) (by omega)
          clear seen2
          by_cases hk2 : k = 2
          · by_cases hl : i + 1 < N
            · have hl2 : (i : Int) < (N : Int) - 1 := by omega
              have e3 : A[j] = true := by rw [e2]; simp [hl]
              clear e2
              repeat' (simp -dsimp -implicitDefEqProofs [*])
              exact Next.intro (i + 1) (by omega) (by omega) (by simp) (.refl _)
            · have hl2 : ¬ (i : Int) < (N : Int) - 1 := by omega
              have e3 : A[j] = false := by rw [e2]; simp [hl, hk2]
              clear e2
              repeat' (simp -dsimp -implicitDefEqProofs [*])
              exact Next.intro (i + 1) (by omega) (by omega) (by simp) (.refl _)
          · have e3 : A[j] = true := by rw [e2]; simp [hk2]
            clear e2
            repeat' (simp -dsimp -implicitDefEqProofs [*])
            exact Next.intro (i + 1) (by omega) (by omega) (by simp) (.refl _)
        · have e : i = N := by omega
          subst e
          repeat' (first 
           | (with_reducible refine Lit.imm ?_)
           | ((with_reducible refine Grow.intro ?_ fun b cap hb hc1 hc2 => ?_); omega) <;> (try simp -dsimp -implicitDefEqProofs [*] at hb)
           | (with_reducible refine And.intro (fun h => ?_) (fun h => ?_)) <;> (try (exfalso; omega))
           | (simp -dsimp -implicitDefEqProofs [*]))
          · exfalso
            simp [*] at hne
          · obtain ⟨rf, h, hAn, ho, hX⟩ := kr.out
            obtain ⟨C, hC⟩ : ∃ C, C = List.replicate (cap - A.length) PV.any := ⟨_, rfl⟩
            rw [← hC]
            clear hC seen2
            have kv : Hid (∀ y : Nat × List Bool, (y.1 ≤ O.length ∧ OtherOk O A i y.2) → y.1 = O.length →
                View ⟨[(114, .int y.1), (113, .int O.length), (112, intLst t O), (20, .own b 0 A.length cap), (16, .int i), (15, .ptr p15 0), (13, .ptr p13 0), (12, .bool false), (3, intLst t O), (4, boolLst u A), (5, .val (.int .u16 m))], (b, .arr T.bool (boolRow y.2 ++ C)) :: (p15, .arr T.apiRecount Y) :: (p13, .arr T.apiRecount (r.enc false false)) :: (p8, .arr T.apiRatio [.bool s1, intLst t1 L1, .bool s2, intLst t2 L2]) :: st⟩
                  ⟨[(114, .int y.1), (113, .int O.length), (112, intLst t O), (20, boolLst false y.2), (16, .int i), (15, .ptr p15 0), (13, .ptr p13 0), (12, .bool false), (3, intLst t O), (4, boolLst u A), (5, .val (.int .u16 m))], (p15, .arr T.apiRecount Y) :: (p13, .arr T.apiRecount (r.enc false false)) :: (p8, .arr T.apiRatio [.bool s1, intLst t1 L1, .bool s2, intLst t2 L2]) :: st⟩) := ⟨fun y h1 h2 => by
              obtain ⟨k0, B⟩ := y
              have hB := h1.2.1
              simp only at hB h2 ⊢
              refine View.frz (b := b) (o := .arr T.bool (boolRow B ++ C)) (by simp [*]) (.refl _) ?_
              have h := Frz.own (b := b) (o := .arr T.bool (boolRow B ++ C)) T.bool (boolRow B ++ C) 0 A.length cap 1 rfl hc1 hc2
              rw [List.drop_zero, List.take_left' (by rw [boolRow_length, hB]; simp)] at h
              simp [Frz.refl]
              show Frz b _ _ (.list false (boolRow B) B.length)
              rw [hB]
              exact h⟩
            refine xloop_fz (fun y : Nat × List Bool => [(114, .int y.1), (113, .int O.length), (112, intLst t O), (20, .own b 0 A.length cap), (16, .int i), (15, .ptr p15 0), (13, .ptr p13 0), (12, .bool false), (3, intLst t O), (4, boolLst u A), (5, .val (.int .u16 m))])
              (fun y => (b, .arr T.bool (boolRow y.2 ++ C)) :: (p15, .arr T.apiRecount Y) :: (p13, .arr T.apiRecount (r.enc false false)) :: (p8, .arr T.apiRatio [.bool s1, intLst t1 L1, .bool s2, intLst t2 L2]) :: st)
              (fun y => y.1 ≤ O.length ∧ OtherOk O A i y.2) (fun y => O.length - y.1) (fun y => y.1 = O.length)
              (fun y => [(114, .int y.1), (113, .int O.length), (112, intLst t O), (20, boolLst false y.2), (16, .int i), (15, .ptr p15 0), (13, .ptr p13 0), (12, .bool false), (3, intLst t O), (4, boolLst u A), (5, .val (.int .u16 m))])
              (fun y => (p15, .arr T.apiRecount Y) :: (p13, .arr T.apiRecount (r.enc false false)) :: (p8, .arr T.apiRatio [.bool s1, intLst t1 L1, .bool s2, intLst t2 L2]) :: st)
              kv.out (0, A) ⟨Nat.zero_le _, rfl, fun _ _ _ => rfl⟩ (by simp) (by simp) ?_ ?_
            · intro y hy hfin
              obtain ⟨k0, B⟩ := y
              simp only at hy hfin ⊢
              subst hfin
              have c2 := run_spec r rf false false t false O B (by omega)
              have eB : runR r O B = runR r O A := other_run h hAn ho (by rw [← hX, ← hN.out]; exact hy.2)
              rw [eB, runR_ok h hAn ho, ← hX] at c2
              have c2 : ∀ st, Rets P F.recount_Run [.agg (r.enc false false), intLst t O, boolLst false B] st (.tuple [.agg Y, .int i, .int 0]) := by rw [hY.out, hN.out]; exact c2
              have hl : X.1.Len := by
                have hk := runL_keep (r := r) (seqA O A) r h rfl rfl rf
                rw [← hX] at hk
                exact hk.2.2.2.len
              have cS : ∀ st, Rets P F.podiumref57_Same [.agg Y, .agg Y] st (.bool true) := by
                have c := same57_spec X.1 X.1 hl false false false false
                rw [decide_eq_true rfl] at c
                rw [hY.out]; exact c
              have fa' : setCells [.int 0, .int 0, .bool false, .nil, .bool false, .nil, .int 0, .int 0] 0 Y = Y := by rw [hY.out]; exact fa X.1
              have hlast : k = 0 → i = O.length := fun e => by
                have := xs.out
                rw [hk.out] at e
                rw [hN.out]
                exact this e
              clear eB hX h hAn ho rf hY hN hk kr hy kv cr' xs hl
              by_cases hk0 : k = 0
              · have hi := hlast hk0
                repeat' (first 
                 | (with_reducible refine Fresh.intro fun b hb => ?_) <;> (try simp -dsimp -implicitDefEqProofs [*] at hb)
                 | (with_reducible refine Rets.xcall (c2 _) ?_)
                 | (with_reducible refine Rets.xcall (cS _) ?_)
                 | (simp -dsimp -implicitDefEqProofs [*]))
              · clear hlast
                repeat' (first 
                 | (with_reducible refine Fresh.intro fun b hb => ?_) <;> (try simp -dsimp -implicitDefEqProofs [*] at hb)
                 | (with_reducible refine Rets.xcall (c2 _) ?_)
                 | (with_reducible refine Rets.xcall (cS _) ?_)
                 | (simp -dsimp -implicitDefEqProofs [*]))
            · intro y hy hfin
              obtain ⟨k0, B⟩ := y
              simp only at hy hfin ⊢
              have hk1 : k0 < O.length := by omega
              obtain ⟨o1, o2⟩ := orderOk_get ho k0 hk1
              obtain ⟨j, hj⟩ : ∃ j : Nat, O[k0] = j := ⟨(O[k0]).toNat, by omega⟩
              have hjA : j < A.length := by omega
              have hBl := hy.2.1
              have hBL : (boolRow B).length = A.length := by rw [boolRow_length]; exact hBl
              have x5 := wrap_succ (n := k0) (by omega)
              have e1 : ∀ v, (boolRow B ++ C).set j (.bool v) = boolRow (B.set j v) ++ C := fun v => by
                rw [List.set_append_left _ _ (by rw [hBL]; exact hjA), boolRow_set]
              have k2 : Hid (∀ v, i ≤ k0 → OtherOk O A i (B.set j v)) := ⟨fun v hik => hy.2.step ho hik hk1 hj⟩
              have k3 : Hid _ := ⟨hy.2⟩
              clear hX h hAn ho rf hY hN hk kr hy xs hfin
              by_cases hik : i ≤ k0
              · have hik2 : (i : Int) ≤ k0 := by omega
                repeat' (first 
                 | ((with_reducible refine and_keep ?_ fun hk => ?_); omega)
                 | (simp -dsimp -implicitDefEqProofs [*]))
                exact NextF.intro kv.out (k0 + 1, B.set j _) ⟨by simp only; omega, k2.out _ hik⟩ (by simp only; omega) (by simp) (.refl _)
              · have hik2 : ¬ (i : Int) ≤ k0 := by omega
                repeat' (simp -dsimp -implicitDefEqProofs [*])
                exact NextF.intro kv.out (k0 + 1, B) ⟨by simp only; omega, k3.out⟩ (by simp only; omega) (by simp) (.refl _)
      · have cr : ∃ e : Int, e ≠ 0 ∧ ∀ st, Rets P F.recount_Run [.agg (r.enc false false), intLst t O, boolLst u A] st (.tuple [.agg (Rc.zero.enc false false), .int 0, .int e]) := by
          rcases e with e | e
          · rw [e] at cr; exact ⟨570, by decide, cr⟩
          · rw [e] at cr; exact ⟨1, by decide, cr⟩
        obtain ⟨e, he, cr⟩ := cr
        clear eR hr hE hf rf rs rok fw
        refine H.podiumlaw57_RecountAgreed.pure hmix rfl rfl ?_
        repeat' (first 
         | (with_reducible refine Fresh.intro fun b hb => ?_) <;> (try simp -dsimp -implicitDefEqProofs [*] at hb)
         | (with_reducible refine Rets.xcall (sane_spec _) ?_)
         | (with_reducible refine Rets.xcall (cf _) ?_)
         | (with_reducible refine Rets.xcall (cs _) ?_)
         | (with_reducible refine Rets.xcall (cr _) ?_)
         | (simp -dsimp -implicitDefEqProofs [*]))
    · have cr := run_spec (startR n w s1 L1 s2 L2) (by unfold startR; rw [if_neg hE]; exact few_0) false false t u O A (by omega)
      obtain ⟨r, hr⟩ : ∃ r, r = startR n w s1 L1 s2 L2 := ⟨_, rfl⟩
      rw [← hr] at cs cr
      obtain ⟨X, hX⟩ : ∃ X, X = runR r O A := ⟨_, rfl⟩
      rw [← hX] at cr
      obtain ⟨e, he⟩ : ∃ e, e = needE n w s1 L1 s2 L2 := ⟨_, rfl⟩
      rw [← he] at cs hE
      clear hr hX he hf fw
      refine H.podiumlaw57_RecountAgreed.pure hmix rfl rfl ?_
      repeat' (first 
       | (with_reducible refine Fresh.intro fun b hb => ?_) <;> (try simp -dsimp -implicitDefEqProofs [*] at hb)
       | (with_reducible refine Rets.xcall (sane_spec _) ?_)
       | (with_reducible refine Rets.xcall (cf _) ?_)
       | (with_reducible refine Rets.xcall (cs _) ?_)
       | (with_reducible refine Rets.xcall (cr _) ?_)
       | (simp -dsimp -implicitDefEqProofs [*]))
  · rw [Bool.not_eq_true] at hf
    rw [hf] at cf
    refine H.podiumlaw57_RecountAgreed.pure hmix rfl rfl ?_
    repeat' (first 
     | (with_reducible refine Fresh.intro fun b hb => ?_) <;> (try simp -dsimp -implicitDefEqProofs [*] at hb)
     | (with_reducible refine Rets.xcall (sane_spec _) ?_)
     | (with_reducible refine Rets.xcall (cf _) ?_)
     | (simp -dsimp -implicitDefEqProofs [*]))
end Go.Proofs.Ytokkkmfbejgccaa
