/- The code of one function. -/
import Derived.Test.YthkjdppifnmakaaCode
import Derived.Test.YthkjdppifnmakaaS51ZA
set_option maxRecDepth 100000
namespace Go.Proofs.Ythkjdppifnmakaa
open Go.Pv
/-- podium/podiumlaw51.AppealsOrder -/
noncomputable def C.podiumlaw51_AppealsOrder : MFunc := ⟨195, 4, [.tmp 8],
  (.seq (.region [
    ⟨(some 8), none, .val (.mv (.const (.bool false)))⟩] [])
  (.seq (.seq (.region [
    ⟨(some 24), none, .call (.const (.func (.func F.podiumlaw51_sane) [] [])) []⟩,
    ⟨(some 25), none, .val (.un .not (.tmp 24))⟩] [24])
  (.cond (.tmp 25)
  (.seq (.region [
    ⟨(some 8), none, .val (.mv (.const (.bool false)))⟩] [])
  .ret)
  .skip))
  (.seq (.seq (.region [
    ⟨(some 26), none, .val (.mv (.tmp 0))⟩,
    ⟨(some 27), none, .val (.mv (.tmp 1))⟩,
    ⟨(some 28), none, .call (.const (.func (.func F.podiumref51_Few) [] [])) [(.tmp 26), (.tmp 27)]⟩,
    ⟨(some 29), none, .val (.un .not (.tmp 28))⟩,
    ⟨(some 30), none, .val (.mv (.tmp 29))⟩,
    ⟨(some 31), (some (30, false)), .val (.mv (.tmp 1))⟩,
    ⟨(some 32), (some (30, false)), .val (.len (.tmp 31))⟩,
    ⟨(some 33), (some (30, false)), .val (.bin .lss T.int (.tmp 32) (.const (.int 2)))⟩,
    ⟨(some 34), none, .val (.pick (.tmp 30) (.const (.bool true)) (.tmp 33))⟩] [26, 27, 28, 29, 30, 31, 32, 33])
  (.cond (.tmp 34)
  (.seq (.region [
    ⟨(some 8), none, .val (.mv (.const (.bool true)))⟩] [])
  .ret)
  .skip))
  (.seq (.region [
    ⟨(some 36), none, .val (.mv (.tmp 0))⟩,
    ⟨(some 37), none, .val (.mv (.tmp 1))⟩,
    ⟨(some 38), none, .val (.mv (.tmp 3))⟩,
    ⟨(some 39), none, .call (.const (.func (.func F.appeals_Apply) [] [])) [(.tmp 36), (.tmp 37), (.tmp 38)]⟩,
    ⟨(some 35), none, .val (.mv (.tmp 39))⟩,
    ⟨(some 40), none, .val (.extract 0 (.tmp 35))⟩,
    ⟨(some 41), none, .val (.extract 1 (.tmp 35))⟩,
    ⟨(some 9), none, .val (.mv (.tmp 40))⟩,
    ⟨(some 10), none, .val (.mv (.tmp 41))⟩] [36, 37, 38, 39, 35, 40, 41])
  (.seq (.seq (.region [
    ⟨(some 42), none, .val (.mv (.tmp 10))⟩,
    ⟨(some 43), none, .val (.bin .neq T.apiErrno (.tmp 42) (.const (.int 0)))⟩] [42])
  (.cond (.tmp 43)
  (.seq (.region [
    ⟨(some 8), none, .val (.mv (.const (.bool true)))⟩] [])
  .ret)
  .skip))
  (.seq (.region [
    ⟨(some 45), none, .val (.mv (.tmp 1))⟩,
    ⟨(some 46), none, .val (.mv (.tmp 3))⟩,
    ⟨(some 47), none, .call (.const (.func (.func F.appeals_Standing) [] [])) [(.tmp 45), (.tmp 46)]⟩,
    ⟨(some 44), none, .val (.mv (.tmp 47))⟩,
    ⟨(some 48), none, .val (.extract 0 (.tmp 44))⟩,
    ⟨(some 49), none, .val (.extract 1 (.tmp 44))⟩,
    ⟨(some 11), none, .val (.mv (.tmp 48))⟩,
    ⟨(some 12), none, .val (.mv (.tmp 49))⟩] [45, 46, 47, 44, 48, 49])
  (.seq (.seq (.region [
    ⟨(some 50), none, .val (.mv (.tmp 12))⟩,
    ⟨(some 51), none, .val (.bin .neq T.apiErrno (.tmp 50) (.const (.int 0)))⟩] [50])
  (.cond (.tmp 51)
  (.seq (.region [
    ⟨(some 8), none, .val (.mv (.const (.bool false)))⟩] [])
  .ret)
  .skip))
  (.seq (.seq (.region [
    ⟨(some 52), none, .val (.mv (.tmp 11))⟩,
    ⟨(some 53), none, .val (.len (.tmp 52))⟩,
    ⟨(some 54), none, .val (.bin .lss T.int (.tmp 53) (.const (.int 2)))⟩] [52, 53])
  (.cond (.tmp 54)
  (.seq (.region [
    ⟨(some 8), none, .val (.mv (.const (.bool true)))⟩] [])
  .ret)
  .skip))
  (.seq (.region [
    ⟨(some 55), none, .val (.mv (.tmp 2))⟩,
    ⟨(some 56), none, .val (.toInt .i64 (.tmp 55))⟩,
    ⟨(some 57), none, .val (.mv (.tmp 11))⟩,
    ⟨(some 58), none, .val (.len (.tmp 57))⟩,
    ⟨(some 59), none, .val (.bin .sub T.int (.tmp 58) (.const (.int 1)))⟩,
    ⟨(some 60), none, .val (.bin .rem T.int (.tmp 56) (.tmp 59))⟩,
    ⟨(some 13), none, .val (.mv (.tmp 60))⟩] [55, 56, 57, 58, 59, 60])
  (.seq (.seq (.draw true [
    (.early, ⟨(some 61), none, .val (.mv (.tmp 11))⟩),
    (.early, ⟨(some 62), none, .val (.mv (.tmp 13))⟩),
    (.early, ⟨(some 63), none, .val (.indexAddr 14 (.tmp 61) (.tmp 62))⟩),
    (.early, ⟨(some 64), none, .val (.load 14 true (.tmp 63))⟩),
    (.late, ⟨(some 66), none, .val (.mv (.tmp 11))⟩),
    (.late, ⟨(some 67), none, .val (.mv (.tmp 13))⟩),
    (.late, ⟨(some 68), none, .val (.bin .add T.int (.tmp 67) (.const (.int 1)))⟩),
    (.late, ⟨(some 69), none, .val (.indexAddr 14 (.tmp 66) (.tmp 68))⟩),
    (.late, ⟨(some 70), none, .val (.load 14 true (.tmp 69))⟩),
    (.hard, ⟨(some 65), none, .call (.const (.func (.func F.podiumref51_Subject) [] [])) [(.tmp 64)]⟩),
    (.hard, ⟨(some 71), none, .call (.const (.func (.func F.podiumref51_Subject) [] [])) [(.tmp 70)]⟩),
    (.late, ⟨(some 72), none, .val (.bin .eql T.int (.tmp 65) (.tmp 71))⟩)] [61, 62, 63, 64, 65, 66, 67, 68, 69, 70, 71])
  (.cond (.tmp 72)
  (.seq (.region [
    ⟨(some 8), none, .val (.mv (.const (.bool true)))⟩] [])
  .ret)
  .skip))
  (.seq (.region [
    ⟨(some 73), none, .val (.buildSlice T.apiDecision 0 [] [])⟩,
    ⟨(some 74), none, .val (.mv (.tmp 1))⟩,
    ⟨(some 75), none, .append T.apiDecision 112 14 (.tmp 73) (.tmp 74)⟩,
    ⟨(some 14), none, .val (.mv (.tmp 75))⟩] [73, 74, 75])
  (.seq (.seq (.region [
    ⟨(some 15), none, .val (.mv (.const (.int 0)))⟩] [])
  (.block 0 (.loop (.seq (.seq (.region [
    ⟨(some 76), none, .val (.mv (.tmp 15))⟩,
    ⟨(some 77), none, .val (.mv (.tmp 14))⟩,
    ⟨(some 78), none, .val (.len (.tmp 77))⟩,
    ⟨(some 79), none, .val (.bin .lss T.int (.tmp 76) (.tmp 78))⟩] [76, 77, 78])
  (.cond (.tmp 79)
  .skip
  (.exit 0)))
  (.seq (.block 1 (.seq (.draw false [
    (.early, ⟨(some 82), none, .val (.mv (.tmp 14))⟩),
    (.early, ⟨(some 83), none, .val (.mv (.tmp 15))⟩),
    (.early, ⟨(some 84), none, .val (.indexAddr 14 (.tmp 82) (.tmp 83))⟩),
    (.early, ⟨(some 85), none, .val (.fieldAddr 0 (.tmp 84))⟩),
    (.early, ⟨(some 86), none, .val (.load 1 false (.tmp 85))⟩),
    (.early, ⟨(some 87), none, .val (.mv (.tmp 11))⟩),
    (.early, ⟨(some 88), none, .val (.mv (.tmp 13))⟩),
    (.early, ⟨(some 89), none, .val (.indexAddr 14 (.tmp 87) (.tmp 88))⟩),
    (.early, ⟨(some 90), none, .val (.fieldAddr 0 (.tmp 89))⟩),
    (.early, ⟨(some 91), none, .val (.load 1 false (.tmp 90))⟩),
    (.early, ⟨(some 92), none, .val (.bin .eql T.int (.tmp 86) (.tmp 91))⟩)] [82, 83, 84, 85, 86, 87, 88, 89, 90, 91])
  (.cond (.tmp 92)
  (.region [
    ⟨(some 93), none, .val (.mv (.tmp 14))⟩,
    ⟨(some 94), none, .val (.mv (.tmp 15))⟩,
    ⟨(some 95), none, .val (.mv (.tmp 11))⟩,
    ⟨(some 96), none, .val (.mv (.tmp 13))⟩,
    ⟨(some 97), none, .val (.bin .add T.int (.tmp 96) (.const (.int 1)))⟩,
    ⟨(some 98), none, .val (.indexAddr 14 (.tmp 95) (.tmp 97))⟩,
    ⟨(some 99), none, .val (.fieldAddr 1 (.tmp 98))⟩,
    ⟨(some 100), none, .val (.load 1 false (.tmp 99))⟩,
    ⟨(some 101), none, .val (.indexAddr 14 (.tmp 93) (.tmp 94))⟩,
    ⟨(some 102), none, .val (.fieldAddr 1 (.tmp 101))⟩,
    ⟨none, none, .store 1 (.tmp 102) (.tmp 100)⟩] [93, 94, 95, 96, 97, 98, 99, 100, 101, 102])
  (.seq (.draw false [
    (.early, ⟨(some 103), none, .val (.mv (.tmp 14))⟩),
    (.early, ⟨(some 104), none, .val (.mv (.tmp 15))⟩),
    (.early, ⟨(some 105), none, .val (.indexAddr 14 (.tmp 103) (.tmp 104))⟩),
    (.early, ⟨(some 106), none, .val (.fieldAddr 0 (.tmp 105))⟩),
    (.early, ⟨(some 107), none, .val (.load 1 false (.tmp 106))⟩),
    (.early, ⟨(some 108), none, .val (.mv (.tmp 11))⟩),
    (.early, ⟨(some 109), none, .val (.mv (.tmp 13))⟩),
    (.early, ⟨(some 110), none, .val (.bin .add T.int (.tmp 109) (.const (.int 1)))⟩),
    (.early, ⟨(some 111), none, .val (.indexAddr 14 (.tmp 108) (.tmp 110))⟩),
    (.early, ⟨(some 112), none, .val (.fieldAddr 0 (.tmp 111))⟩),
    (.early, ⟨(some 113), none, .val (.load 1 false (.tmp 112))⟩),
    (.early, ⟨(some 114), none, .val (.bin .eql T.int (.tmp 107) (.tmp 113))⟩)] [103, 104, 105, 106, 107, 108, 109, 110, 111, 112, 113])
  (.cond (.tmp 114)
  (.region [
    ⟨(some 115), none, .val (.mv (.tmp 14))⟩,
    ⟨(some 116), none, .val (.mv (.tmp 15))⟩,
    ⟨(some 117), none, .val (.mv (.tmp 11))⟩,
    ⟨(some 118), none, .val (.mv (.tmp 13))⟩,
    ⟨(some 119), none, .val (.indexAddr 14 (.tmp 117) (.tmp 118))⟩,
    ⟨(some 120), none, .val (.fieldAddr 1 (.tmp 119))⟩,
    ⟨(some 121), none, .val (.load 1 false (.tmp 120))⟩,
    ⟨(some 122), none, .val (.indexAddr 14 (.tmp 115) (.tmp 116))⟩,
    ⟨(some 123), none, .val (.fieldAddr 1 (.tmp 122))⟩,
    ⟨none, none, .store 1 (.tmp 123) (.tmp 121)⟩] [115, 116, 117, 118, 119, 120, 121, 122, 123])
  .skip)))))
  (.region [
    ⟨(some 80), none, .val (.mv (.tmp 15))⟩,
    ⟨(some 81), none, .val (.bin .add T.int (.tmp 80) (.const (.int 1)))⟩,
    ⟨(some 15), none, .val (.mv (.tmp 81))⟩] [80, 81]))))))
  (.seq (.region [
    ⟨(some 125), none, .val (.mv (.tmp 14))⟩,
    ⟨(some 126), none, .val (.mv (.tmp 3))⟩,
    ⟨(some 127), none, .call (.const (.func (.func F.appeals_Standing) [] [])) [(.tmp 125), (.tmp 126)]⟩,
    ⟨(some 124), none, .val (.mv (.tmp 127))⟩,
    ⟨(some 128), none, .val (.extract 0 (.tmp 124))⟩,
    ⟨(some 129), none, .val (.extract 1 (.tmp 124))⟩,
    ⟨(some 16), none, .val (.mv (.tmp 128))⟩,
    ⟨(some 17), none, .val (.mv (.tmp 129))⟩] [125, 126, 127, 124, 128, 129])
  (.seq (.seq (.region [
    ⟨(some 130), none, .val (.mv (.tmp 17))⟩,
    ⟨(some 131), none, .val (.bin .neq T.apiErrno (.tmp 130) (.const (.int 0)))⟩,
    ⟨(some 132), none, .val (.mv (.tmp 131))⟩,
    ⟨(some 133), (some (132, false)), .val (.mv (.tmp 16))⟩,
    ⟨(some 134), (some (132, false)), .val (.len (.tmp 133))⟩,
    ⟨(some 135), (some (132, false)), .val (.mv (.tmp 11))⟩,
    ⟨(some 136), (some (132, false)), .val (.len (.tmp 135))⟩,
    ⟨(some 137), (some (132, false)), .val (.bin .neq T.int (.tmp 134) (.tmp 136))⟩,
    ⟨(some 138), none, .val (.pick (.tmp 132) (.const (.bool true)) (.tmp 137))⟩] [130, 131, 132, 133, 134, 135, 136, 137])
  (.cond (.tmp 138)
  (.seq (.region [
    ⟨(some 8), none, .val (.mv (.const (.bool false)))⟩] [])
  .ret)
  .skip))
  (.seq (.seq (.region [
    ⟨(some 18), none, .val (.mv (.const (.int 0)))⟩] [])
  (.block 2 (.loop (.seq (.seq (.region [
    ⟨(some 139), none, .val (.mv (.tmp 18))⟩,
    ⟨(some 140), none, .val (.mv (.tmp 11))⟩,
    ⟨(some 141), none, .val (.len (.tmp 140))⟩,
    ⟨(some 142), none, .val (.bin .lss T.int (.tmp 139) (.tmp 141))⟩] [139, 140, 141])
  (.cond (.tmp 142)
  .skip
  (.exit 2)))
  (.seq (.block 3 (.seq (.draw true [
    (.late, ⟨(some 145), none, .val (.mv (.tmp 11))⟩),
    (.early, ⟨(some 146), none, .val (.mv (.tmp 11))⟩),
    (.early, ⟨(some 147), none, .val (.mv (.tmp 18))⟩),
    (.early, ⟨(some 148), none, .val (.indexAddr 14 (.tmp 146) (.tmp 147))⟩),
    (.early, ⟨(some 149), none, .val (.load 14 true (.tmp 148))⟩),
    (.late, ⟨(some 152), none, .val (.mv (.tmp 16))⟩),
    (.late, ⟨(some 153), none, .val (.mv (.tmp 11))⟩),
    (.late, ⟨(some 154), none, .val (.mv (.tmp 18))⟩),
    (.late, ⟨(some 155), none, .val (.indexAddr 14 (.tmp 153) (.tmp 154))⟩),
    (.late, ⟨(some 156), none, .val (.load 14 true (.tmp 155))⟩),
    (.hard, ⟨(some 150), none, .call (.const (.func (.func F.podiumref51_Subject) [] [])) [(.tmp 149)]⟩),
    (.hard, ⟨(some 151), none, .call (.const (.func (.func F.podiumlaw51_about) [] [])) [(.tmp 145), (.tmp 150)]⟩),
    (.hard, ⟨(some 157), none, .call (.const (.func (.func F.podiumref51_Subject) [] [])) [(.tmp 156)]⟩),
    (.hard, ⟨(some 158), none, .call (.const (.func (.func F.podiumlaw51_about) [] [])) [(.tmp 152), (.tmp 157)]⟩),
    (.late, ⟨(some 19), none, .val (.mv (.tmp 151))⟩),
    (.late, ⟨(some 20), none, .val (.mv (.tmp 158))⟩)] [145, 146, 147, 148, 149, 150, 151, 152, 153, 154, 155, 156, 157, 158])
  (.seq (.seq (.region [
    ⟨(some 159), none, .val (.mv (.tmp 19))⟩,
    ⟨(some 160), none, .val (.len (.tmp 159))⟩,
    ⟨(some 161), none, .val (.mv (.tmp 20))⟩,
    ⟨(some 162), none, .val (.len (.tmp 161))⟩,
    ⟨(some 163), none, .val (.bin .neq T.int (.tmp 160) (.tmp 162))⟩] [159, 160, 161, 162])
  (.cond (.tmp 163)
  (.seq (.region [
    ⟨(some 8), none, .val (.mv (.const (.bool false)))⟩] [])
  .ret)
  .skip))
  (.seq (.region [
    ⟨(some 21), none, .val (.mv (.const (.int 0)))⟩] [])
  (.block 4 (.loop (.seq (.seq (.region [
    ⟨(some 164), none, .val (.mv (.tmp 21))⟩,
    ⟨(some 165), none, .val (.mv (.tmp 19))⟩,
    ⟨(some 166), none, .val (.len (.tmp 165))⟩,
    ⟨(some 167), none, .val (.bin .lss T.int (.tmp 164) (.tmp 166))⟩] [164, 165, 166])
  (.cond (.tmp 167)
  .skip
  (.exit 4)))
  (.seq (.block 5 (.seq (.draw false [
    (.early, ⟨(some 170), none, .val (.mv (.tmp 19))⟩),
    (.early, ⟨(some 171), none, .val (.mv (.tmp 21))⟩),
    (.early, ⟨(some 172), none, .val (.indexAddr 14 (.tmp 170) (.tmp 171))⟩),
    (.early, ⟨(some 173), none, .val (.fieldAddr 0 (.tmp 172))⟩),
    (.early, ⟨(some 174), none, .val (.load 1 false (.tmp 173))⟩),
    (.early, ⟨(some 175), none, .val (.mv (.tmp 20))⟩),
    (.early, ⟨(some 176), none, .val (.mv (.tmp 21))⟩),
    (.early, ⟨(some 177), none, .val (.indexAddr 14 (.tmp 175) (.tmp 176))⟩),
    (.early, ⟨(some 178), none, .val (.fieldAddr 0 (.tmp 177))⟩),
    (.early, ⟨(some 179), none, .val (.load 1 false (.tmp 178))⟩),
    (.early, ⟨(some 180), none, .val (.bin .neq T.int (.tmp 174) (.tmp 179))⟩)] [170, 171, 172, 173, 174, 175, 176, 177, 178, 179])
  (.cond (.tmp 180)
  (.seq (.region [
    ⟨(some 8), none, .val (.mv (.const (.bool true)))⟩] [])
  .ret)
  .skip)))
  (.region [
    ⟨(some 168), none, .val (.mv (.tmp 21))⟩,
    ⟨(some 169), none, .val (.bin .add T.int (.tmp 168) (.const (.int 1)))⟩,
    ⟨(some 21), none, .val (.mv (.tmp 169))⟩] [168, 169])))))))))
  (.region [
    ⟨(some 143), none, .val (.mv (.tmp 18))⟩,
    ⟨(some 144), none, .val (.bin .add T.int (.tmp 143) (.const (.int 1)))⟩,
    ⟨(some 18), none, .val (.mv (.tmp 144))⟩] [143, 144]))))))
  (.seq (.region [
    ⟨(some 182), none, .val (.mv (.tmp 0))⟩,
    ⟨(some 183), none, .val (.mv (.tmp 14))⟩,
    ⟨(some 184), none, .val (.mv (.tmp 3))⟩,
    ⟨(some 185), none, .call (.const (.func (.func F.appeals_Apply) [] [])) [(.tmp 182), (.tmp 183), (.tmp 184)]⟩,
    ⟨(some 181), none, .val (.mv (.tmp 185))⟩,
    ⟨(some 186), none, .val (.extract 0 (.tmp 181))⟩,
    ⟨(some 187), none, .val (.extract 1 (.tmp 181))⟩,
    ⟨(some 22), none, .val (.mv (.tmp 186))⟩,
    ⟨(some 23), none, .val (.mv (.tmp 187))⟩] [182, 183, 184, 185, 181, 186, 187])
  (.seq (.region [
    ⟨(some 188), none, .val (.mv (.tmp 23))⟩,
    ⟨(some 189), none, .val (.bin .eql T.apiErrno (.tmp 188) (.const (.int 0)))⟩,
    ⟨(some 190), none, .val (.mv (.tmp 189))⟩,
    ⟨(some 191), (some (190, true)), .val (.mv (.tmp 9))⟩,
    ⟨(some 192), (some (190, true)), .val (.mv (.tmp 22))⟩,
    ⟨(some 193), (some (190, true)), .call (.const (.func (.func F.podiumref51_Same) [] [])) [(.tmp 191), (.tmp 192)]⟩,
    ⟨(some 194), none, .val (.pick (.tmp 190) (.tmp 193) (.const (.bool false)))⟩,
    ⟨(some 8), none, .val (.mv (.tmp 194))⟩] [188, 189, 190, 191, 192, 193, 194])
  .ret)))))))))))))))))⟩
theorem H.podiumlaw51_AppealsOrder : Has P F.podiumlaw51_AppealsOrder C.podiumlaw51_AppealsOrder := ⟨Try.f7, Try.func7, by kernel_rfl, by kernel_rfl⟩
end Go.Proofs.Ythkjdppifnmakaa
/- AppealsOrder: plain facts. -/
namespace Go.Proofs.Ythkjdppifnmakaa
open Go.Pv
set_option maxRecDepth 100000
def setKn (d : Decision) (v : Int) : Decision := ⟨d.no, v, d.kind, d.target, d.value, d.eno, d.ekind, d.eround, d.eentry, d.ejudge, d.eitem, d.evalue, d.eat, d.eknown⟩
/-- Two decisions' times are exchanged. -/
def swK (p q x : Decision) : Decision := if x.no = p.no then setKn x q.known else if x.no = q.no then setKn x p.known else x
theorem swK_cases (p q x : Decision) : ∃ v, swK p q x = setKn x v := by
  unfold swK
  split
  · exact ⟨_, rfl⟩
  · split
    · exact ⟨_, rfl⟩
    · exact ⟨x.known, rfl⟩
theorem swK_no (p q x : Decision) : (swK p q x).no = x.no := by obtain ⟨v, h⟩ := swK_cases p q x; rw [h]; rfl
theorem swK_subj (p q x : Decision) : subj (swK p q x) = subj x := by obtain ⟨v, h⟩ := swK_cases p q x; rw [h]; rfl
theorem swK_step (p q x : Decision) (o : Option Event) : stepO o (swK p q x) = stepO o x := by obtain ⟨v, h⟩ := swK_cases p q x; rw [h]; rfl
theorem swK_right (p q x : Decision) : rightD (swK p q x) = rightD x := by obtain ⟨v, h⟩ := swK_cases p q x; rw [h]; rfl
theorem nos_inj {d : List Decision} (h : d.Pairwise fun a b => a.no < b.no) {a b : Decision} (ha : a ∈ d) (hb : b ∈ d) (e : a.no = b.no) : a = b := by
  obtain ⟨i, hi, rfl⟩ := List.mem_iff_getElem.1 ha
  obtain ⟨j, hj, rfl⟩ := List.mem_iff_getElem.1 hb
  have hp := List.pairwise_iff_getElem.1 h
  rcases Nat.lt_trichotomy i j with hij | hij | hij
  · have := hp i j hi hj hij; omega
  · subst hij; rfl
  · have := hp j i hj hi hij; omega
theorem swK_known {d : List Decision} (h : okD d) {p q : Decision} (hp : p ∈ d) (hq : q ∈ d) {x : Decision} (hx : x ∈ d) : (swK p q x).known = if x = p then q.known else if x = q then p.known else x.known := by
  unfold swK
  by_cases h1 : x.no = p.no
  · rw [if_pos h1, if_pos (nos_inj h.2 hx hp h1)]; rfl
  · rw [if_neg h1, if_neg (show ¬ x = p from fun e => h1 (by rw [e]))]
    by_cases h2 : x.no = q.no
    · rw [if_pos h2, if_pos (nos_inj h.2 hx hq h2)]; rfl
    · rw [if_neg h2, if_neg (show ¬ x = q from fun e => h2 (by rw [e]))]
theorem swK_valid {d : List Decision} (h : okD d) {p q : Decision} (hp : p ∈ d) (hq : q ∈ d) {x : Decision} (hx : x ∈ d) : validD (swK p q x) = true := by
  have h1 := h.1 p hp
  have h2 := h.1 q hq
  have h3 := h.1 x hx
  unfold validD at *
  rw [swK_no, swK_right, swK_known h hp hq hx]
  simp only [Bool.and_eq_true] at *
  refine ⟨⟨h3.1.1, ?_⟩, h3.2⟩
  split
  · exact h2.1.2
  · split
    · exact h1.1.2
    · exact h3.1.2
theorem swK_ok {d : List Decision} (h : okD d) {p q : Decision} (hp : p ∈ d) (hq : q ∈ d) : okD (d.map (swK p q)) :=
  ⟨fun e he => by obtain ⟨x, hx, rfl⟩ := List.mem_map.1 he; exact swK_valid h hp hq hx, by
    rw [List.pairwise_map]
    exact h.2.imp fun hab => by rw [swK_no, swK_no]; exact hab⟩
theorem swK_early {d : List Decision} {t : Int} (h : okD d) {p q : Decision} (hp : p ∈ d) (hq : q ∈ d) (hpt : p.known ≤ t) (hqt : q.known ≤ t) {x : Decision} (hx : x ∈ d) : early t (swK p q x) = early t x := by
  unfold early
  rw [swK_known h hp hq hx]
  split
  · rename_i e; subst e; simp [hpt, hqt]
  · split
    · rename_i e; subst e; simp [hpt, hqt]
    · rfl
/-- What stands after the exchange. -/
structure Exch (d : List Decision) (t : Int) (p q : Decision) : Prop where
  n : standN (d.map (swK p q)) t = 0
  perm : (standL (d.map (swK p q)) t).Perm ((standL d t).map (swK p q))
theorem exch {d : List Decision} {t : Int} (h : standN d t = 0) {p q : Decision} (hp : p ∈ standL d t) (hq : q ∈ standL d t) : Exch d t p q := by
  obtain ⟨h1, h2⟩ := standN_zero.1 h
  obtain ⟨h3, h4⟩ := checkD_zero.1 h1
  have hpd := standL_sub hp
  have hqd := standL_sub hq
  rw [standL_zero h] at hp hq
  have hpt : p.known ≤ t := by simpa using (List.mem_filter.1 hp).2
  have hqt : q.known ≤ t := by simpa using (List.mem_filter.1 hq).2
  have hn : standN (d.map (swK p q)) t = 0 := standN_zero.2 ⟨checkD_zero.2 ⟨by simpa using h3, swK_ok h4 hpd hqd⟩, h2⟩
  refine ⟨hn, ?_⟩
  rw [standL_zero hn, standL_zero h]
  refine ((srt_perm _).filter _).trans ?_
  rw [List.filter_map]
  refine List.Perm.map _ ?_
  have e : d.filter ((early t) ∘ swK p q) = d.filter (early t) := List.filter_congr fun x hx => swK_early h4 hpd hqd hpt hqt hx
  rw [e]
  exact ((srt_perm _).filter _).symm
theorem about_map (p q : Decision) (D : List Decision) (s : Int) : aboutL (D.map (swK p q)) s = (aboutL D s).map (swK p q) := by
  unfold aboutL
  rw [List.filter_map]
  congr 1
  exact List.filter_congr fun x _ => by simp [swK_subj]
theorem Exch.about {d : List Decision} {t : Int} {p q : Decision} (h : Exch d t p q) (s : Int) : (aboutL (standL (d.map (swK p q)) t) s).length = (aboutL (standL d t) s).length := by
  have := (h.perm.filter (fun x => decide (subj x = s))).length_eq
  have e := about_map p q (standL d t) s
  unfold aboutL at e ⊢
  rw [this, e, List.length_map]
theorem Exch.len {d : List Decision} {t : Int} {p q : Decision} (h : Exch d t p q) : (standL (d.map (swK p q)) t).length = (standL d t).length := by
  rw [h.perm.length_eq, List.length_map]
/-- Two lists have the same numbers. -/
def SameNos (a b : List Decision) : Prop := a.map (·.no) = b.map (·.no)
theorem exch_eq {d : List Decision} {p q : Decision} (h : okD d) {A O : List Decision} (hA : ∀ x ∈ A, x ∈ d) (hO : ∀ y ∈ O, ∃ x ∈ d, y = swK p q x) (hs : SameNos A O) : O = A.map (swK p q) := by
  unfold SameNos at hs
  have hl : A.length = O.length := by have := congrArg List.length hs; simpa using this
  apply List.ext_getElem (by simpa using hl.symm)
  intro i h1 h2
  have hi : i < A.length := by omega
  have hn : A[i].no = O[i].no := by
    have h3 : (A.map (·.no))[i]? = (O.map (·.no))[i]? := by rw [hs]
    rw [List.getElem?_map, List.getElem?_map, List.getElem?_eq_getElem hi, List.getElem?_eq_getElem h1] at h3
    simpa using h3
  obtain ⟨x, hx, e⟩ := hO O[i] (List.getElem_mem _)
  rw [List.getElem_map, e]
  rw [e, swK_no] at hn
  rw [nos_inj h.2 (hA _ (List.getElem_mem hi)) hx hn]
theorem foldl_swK (p q : Decision) (D : List Decision) : ∀ o : Option Event, (D.map (swK p q)).foldl stepO o = D.foldl stepO o := by
  induction D with
  | nil => intro o; rfl
  | cons x D ih => intro o; rw [List.map_cons, List.foldl_cons, List.foldl_cons, swK_step, ih]
theorem Made.exch {l : List Event} {d : List Decision} {t : Int} {x : List Event} (h : Made l d t x) {p q : Decision} (he : Exch d t p q)
    (hs : ∀ a ∈ standL d t, SameNos (aboutL (standL d t) (subj a)) (aboutL (standL (d.map (swK p q)) t) (subj a))) : Made l (d.map (swK p q)) t x :=
  ⟨h.ev, he.n, h.len, h.srt, fun n e => by
    rw [← h.mem]
    have hO : ∀ y ∈ aboutL (standL (d.map (swK p q)) t) n, ∃ x ∈ d, y = swK p q x := fun y hy => by
      have := standL_sub (List.mem_filter.1 hy).1
      obtain ⟨x, hx, e⟩ := List.mem_map.1 this
      exact ⟨x, hx, e.symm⟩
    by_cases hx : ∃ a ∈ standL d t, subj a = n
    · obtain ⟨a, ha, rfl⟩ := hx
      rw [exch_eq h.decs.2 (fun x hx => standL_sub (List.mem_filter.1 hx).1) hO (hs a ha), foldl_swK]
      rfl
    · have e1 : aboutL (standL d t) n = [] := by
        unfold aboutL
        rw [List.filter_eq_nil_iff]
        intro a ha hn
        exact hx ⟨a, ha, by simpa using hn⟩
      have e2 := he.about n
      rw [e1] at e2
      rw [e1, List.length_eq_zero_iff.1 e2]⟩
theorem own_get0 {l : List Decision} {i : Nat} {C : List PV} (h : i < l.length) : (Decision.row l ++ C)[i * 14]? = some (.int l[i].no) := by
  rw [List.getElem?_append_left (by rw [Decision.row_len]; omega)]
  exact Decision.row_get0 l i h
theorem own_set1 {l : List Decision} {i : Nat} {C : List PV} {v : Int} (h : i < l.length) : setCells (Decision.row l ++ C) (i * 14 + 1) [.int v] = Decision.row (l.set i (setKn l[i] v)) ++ C := by
  rw [setCells_append_left _ _ _ _ (by rw [Decision.row_len]; simp; omega)]
  congr 1
  exact flat_setAt Decision.enc 14 Decision.len l i 1 [.int v] (setKn l[i] v) h rfl (by simp)
end Go.Proofs.Ythkjdppifnmakaa
/- AppealsOrder. -/
namespace Go.Proofs.Ythkjdppifnmakaa
open Go.Pv
set_option maxRecDepth 100000
set_option maxHeartbeats 4000000
/-- The decisions while the times are being exchanged. -/
def OL (d : List Decision) (p q : Decision) (k : Nat) : List Decision := (d.take k).map (swK p q) ++ d.drop k
theorem OL_len (d : List Decision) (p q : Decision) (k : Nat) : (OL d p q k).length = d.length := by
  simp [OL]; omega
theorem OL_get (d : List Decision) (p q : Decision) (k : Nat) (h : k < d.length) (h2 : k < (OL d p q k).length) : (OL d p q k)[k] = d[k] := by
  have h3 : (OL d p q k)[k]? = d[k]? := by
    unfold OL
    rw [List.getElem?_append_right (by simp; omega)]
    simp [Nat.min_eq_left (Nat.le_of_lt h)]
  rw [List.getElem?_eq_getElem h, List.getElem?_eq_getElem h2] at h3
  exact Option.some.inj h3
theorem OL_succ (d : List Decision) (p q : Decision) (k : Nat) (h : k < d.length) : (OL d p q k).set k (swK p q d[k]) = OL d p q (k + 1) := by
  unfold OL
  rw [List.set_append_right _ _ (by simp; omega), List.take_succ_eq_append_getElem h, List.map_append]
  simp [Nat.min_eq_left (Nat.le_of_lt h)]
  rw [List.drop_eq_getElem_cons h]
  rfl
theorem OL_end (d : List Decision) (p q : Decision) : OL d p q d.length = d.map (swK p q) := by simp [OL]
def OE (ta tb : Bool) (l : List Event) (d : List Decision) (t : Int) (X : List Event) (A : List Decision) (j b cap : Nat) (k : Nat) : Env := [(0, Event.lst ta l), (1, Decision.lst tb d), (3, .int t), (9, Event.lst false X), (11, Decision.lst false A), (13, .int (j : Nat)), (14, .own b 0 d.length cap), (15, .int (k : Nat))]
def OF (ta tb : Bool) (l : List Event) (d : List Decision) (t : Int) (X : List Event) (A : List Decision) (j : Nat) (p q : Decision) (k : Nat) : Env := [(0, Event.lst ta l), (1, Decision.lst tb d), (3, .int t), (9, Event.lst false X), (11, Decision.lst false A), (13, .int (j : Nat)), (14, Decision.lst false (d.map (swK p q))), (15, .int (k : Nat))]
theorem OV (ta tb : Bool) (l : List Event) (d : List Decision) (t : Int) (X : List Event) (A : List Decision) (j b cap : Nat) (C : List PV) (st : Store) (hb : snew st b) (hc1 : d.length ≤ cap) (hc2 : cap ≤ 9223372036854775807) {p q : Decision} (y : Nat) (_ : y ≤ d.length) (h : y = d.length) :
    View ⟨OE ta tb l d t X A j b cap y, (b, SortDecision.rowO (OL d p q y) C) :: st⟩ ⟨OF ta tb l d t X A j p q y, st⟩ := by
  subst h
  rw [OL_end]
  refine View.frz hb (.refl _) ?_
  have h := Frz.own (b := b) (o := .arr T.apiDecision (Decision.row (d.map (swK p q)) ++ C)) T.apiDecision (Decision.row (d.map (swK p q)) ++ C) 0 d.length cap 14 rfl hc1 hc2
  rw [List.drop_zero, List.take_left' (by rw [Decision.row_len]; simp)] at h
  simp [OE, OF, Frz.refl]
  show Frz b _ _ (.list false _ (d.map (swK p q)).length)
  rw [List.length_map]
  exact h
theorem order_aux (ta tb : Bool) (l : List Event) (d : List Decision) (a : Int) (ha0 : 0 ≤ a) (ha1 : a ≤ 255) (t : Int) (st : Store) (X : List Event) (A O : List Decision) (j : Nat)
    (hd2 : ¬ (d.length : Int) < 2) (hdd : d.length ≤ 20) (hX : X.length ≤ 4096) (hA : A.length ≤ 4200)
    (hfew : ∀ st, Rets P F.podiumref51_Few [Event.lst ta l, Decision.lst tb d] st (.bool true))
    (hap : ∀ st, Rets P F.appeals_Apply [Event.lst ta l, Decision.lst tb d, .int t] st (.tuple [Event.lst false X, .int 0]))
    (hst : ∀ st, Rets P F.appeals_Standing [Decision.lst tb d, .int t] st (.tuple [Decision.lst false A, .int 0]))
    (hj1 : a.tmod (A.length - 1 : Int) = j) (hj2 : j + 1 < A.length) (hok : okD d) (hP : A[j] ∈ d) (hQ : A[j + 1] ∈ d)
    (Z1 : ∀ st, Rets P F.appeals_Standing [Decision.lst false (d.map (swK A[j] A[j + 1])), .int t] st (.tuple [Decision.lst false O, .int 0]))
    (hfl : O.length = A.length) (hfa : ∀ s, (aboutL O s).length = (aboutL A s).length)
    (ME : (∀ a ∈ A, SameNos (aboutL A (subj a)) (aboutL O (subj a))) → ∀ st, Rets P F.appeals_Apply [Event.lst ta l, Decision.lst false (d.map (swK A[j] A[j + 1])), .int t] st (.tuple [Event.lst false X, .int 0])) :
    Rets P F.podiumlaw51_AppealsOrder [Event.lst ta l, Decision.lst tb d, .val (.int .u8 a), .int t] st (.bool true) := by
  refine (H.podiumlaw51_AppealsOrder).pure hmix rfl rfl ?_
  have hwl : IntKind.i64.wrap (A.length - 1 : Int) = (A.length : Int) - 1 := wrap_in (by omega) (by omega)
  have hwa : IntKind.i64.wrap a = a := wrap_in (by omega) (by omega)
  have hwj : IntKind.i64.wrap ((j : Int) + 1) = (j : Int) + 1 := wrap_succ (by omega)
  have hz : ¬ (A.length : Int) - 1 = 0 := by omega
  have hA2 : ¬ (A.length : Int) < 2 := by omega
  have hS1 : ∀ st, Rets P F.podiumref51_Same [Event.lst false X, Event.lst false X] st (.bool true) := fun st => same_l _ _ _ _ (by omega) rfl st
  have hjA : j < A.length := by omega
  have hd0 : ¬ d = [] := fun e => by subst e; simp at hd2
  by_cases hs : subj A[j] = subj A[j + 1]
  · clear Z1 ME hfl hfa
    repeat' (first
      | (with_reducible refine Fresh.intro fun b hb => ?_) <;> (try simp -dsimp -implicitDefEqProofs [*] at hb)
      | (with_reducible refine Rets.xcall (sane_spec _) ?_)
      | (with_reducible refine Rets.xsoft (sane_spec _) ?_)
      | (with_reducible refine xlateCall_of (fun _ => sane_spec _) ?_)
      | (with_reducible refine Rets.xcall (hfew _) ?_)
      | (with_reducible refine Rets.xsoft (hfew _) ?_)
      | (with_reducible refine xlateCall_of (fun _ => hfew _) ?_)
      | (with_reducible refine Rets.xcall (hap _) ?_)
      | (with_reducible refine Rets.xsoft (hap _) ?_)
      | (with_reducible refine xlateCall_of (fun _ => hap _) ?_)
      | (with_reducible refine Rets.xcall (hst _) ?_)
      | (with_reducible refine Rets.xsoft (hst _) ?_)
      | (with_reducible refine xlateCall_of (fun _ => hst _) ?_)
      | (with_reducible refine Rets.xcall (subject_spec _ _) ?_)
      | (with_reducible refine Rets.xsoft (subject_spec _ _) ?_)
      | (with_reducible refine xlateCall_of (fun _ => subject_spec _ _) ?_)
      | (with_reducible refine Lit.imm ?_)
      | ((with_reducible refine Grow.intro ?_ fun b cap hb hc1 hc2 => ?_); omega) <;> (try simp -dsimp -implicitDefEqProofs [*] at hb)
      | (with_reducible refine DrawLate.intro [] ?_)
      | (with_reducible refine Cls_and ?_ ?_)
      | (with_reducible exact Cls.self _ _)
      | (with_reducible refine Cls_same ?_)
      | (with_reducible refine Cls_in ?_ ?_)
      | (with_reducible refine Cls_fresh ?_ ?_)
      | (with_reducible refine And.intro (fun h => ?_) (fun h => ?_)) <;> (try (exfalso; omega))
      | (with_reducible refine And.intro (fun h => ?_) ?_) <;> (try (exfalso; omega))
      | ((with_reducible refine and_keep ?_ fun hk => ?_); omega)
      | (simp -dsimp -implicitDefEqProofs [*]))
  repeat' (first
    | (with_reducible refine Fresh.intro fun b hb => ?_) <;> (try simp -dsimp -implicitDefEqProofs [*] at hb)
    | (with_reducible refine Rets.xcall (sane_spec _) ?_)
    | (with_reducible refine Rets.xsoft (sane_spec _) ?_)
    | (with_reducible refine xlateCall_of (fun _ => sane_spec _) ?_)
    | (with_reducible refine Rets.xcall (hfew _) ?_)
    | (with_reducible refine Rets.xsoft (hfew _) ?_)
    | (with_reducible refine xlateCall_of (fun _ => hfew _) ?_)
    | (with_reducible refine Rets.xcall (hap _) ?_)
    | (with_reducible refine Rets.xsoft (hap _) ?_)
    | (with_reducible refine xlateCall_of (fun _ => hap _) ?_)
    | (with_reducible refine Rets.xcall (hst _) ?_)
    | (with_reducible refine Rets.xsoft (hst _) ?_)
    | (with_reducible refine xlateCall_of (fun _ => hst _) ?_)
    | (with_reducible refine Rets.xcall (subject_spec _ _) ?_)
    | (with_reducible refine Rets.xsoft (subject_spec _ _) ?_)
    | (with_reducible refine xlateCall_of (fun _ => subject_spec _ _) ?_)
    | (with_reducible refine Lit.imm ?_)
    | ((with_reducible refine Grow.intro ?_ fun b cap hb hc1 hc2 => ?_); omega) <;> (try simp -dsimp -implicitDefEqProofs [*] at hb)
    | (with_reducible refine DrawLate.intro [] ?_)
    | (with_reducible refine Cls_and ?_ ?_)
    | (with_reducible exact Cls.self _ _)
    | (with_reducible refine Cls_same ?_)
    | (with_reducible refine Cls_in ?_ ?_)
    | (with_reducible refine Cls_fresh ?_ ?_)
    | (with_reducible refine And.intro (fun h => ?_) (fun h => ?_)) <;> (try (exfalso; omega))
    | (with_reducible refine And.intro (fun h => ?_) ?_) <;> (try (exfalso; omega))
    | ((with_reducible refine and_keep ?_ fun hk => ?_); omega)
    | (simp -dsimp -implicitDefEqProofs [*]))
  clear hfew hap hst hwl hwa hz hA2 hj1 ha0 ha1 hs
  have hdl : d.length ≤ 20 := hdd
  generalize hC : List.replicate ((cap - d.length) * 14) PV.any = C
  clear hC
  have kv : Hid (∀ y, y ≤ d.length → y = d.length → View ⟨OE ta tb l d t X A j b cap y, (b, SortDecision.rowO (OL d A[j] A[j + 1] y) C) :: st⟩ ⟨OF ta tb l d t X A j A[j] A[j + 1] y, st⟩) := ⟨fun y h1 h2 => OV ta tb l d t X A j b cap C st hb hc1 hc2 y h1 h2⟩
  refine xloop_fz (OE ta tb l d t X A j b cap) (fun y => (b, SortDecision.rowO (OL d A[j] A[j + 1] y) C) :: st) (fun y => y ≤ d.length) (fun y => d.length - y) (fun y => y = d.length) (OF ta tb l d t X A j A[j] A[j + 1]) (fun _ => st)
    kv.out 0 (Nat.zero_le _) (by simp [OE]) (by simp [OL]) ?_ ?_
  · intro y hy he
    subst he
    simp only [OF]
    clear kv hb hc1 hc2 hP hQ hok hd0 hdl hdd hd2 hwj
    have hD : (d.map (swK A[j] A[j + 1])).length = d.length := List.length_map ..
    generalize d.map (swK A[j] A[j + 1]) = D' at *
    repeat' (first
      | (with_reducible refine Fresh.intro fun b hb => ?_) <;> (try simp -dsimp -implicitDefEqProofs [*] at hb)
      | (with_reducible refine Rets.xcall (Z1 _) ?_)
      | (with_reducible refine Rets.xsoft (Z1 _) ?_)
      | (with_reducible refine xlateCall_of (fun _ => Z1 _) ?_)
      | (with_reducible refine Lit.imm ?_)
      | ((with_reducible refine Grow.intro ?_ fun b cap hb hc1 hc2 => ?_); omega) <;> (try simp -dsimp -implicitDefEqProofs [*] at hb)
      | (with_reducible refine DrawLate.intro [] ?_)
      | (with_reducible refine Cls_and ?_ ?_)
      | (with_reducible exact Cls.self _ _)
      | (with_reducible refine Cls_same ?_)
      | (with_reducible refine Cls_in ?_ ?_)
      | (with_reducible refine Cls_fresh ?_ ?_)
      | (with_reducible refine And.intro (fun h => ?_) (fun h => ?_)) <;> (try (exfalso; omega))
      | (with_reducible refine And.intro (fun h => ?_) ?_) <;> (try (exfalso; omega))
      | ((with_reducible refine and_keep ?_ fun hk => ?_); omega)
      | (simp -dsimp -implicitDefEqProofs [*]))
    clear Z1
    refine xloop_for (fun k : Nat => [(0, Event.lst ta l), (3, .int t), (9, Event.lst false X), (11, Decision.lst false A), (14, Decision.lst false D'), (16, Decision.lst false O), (18, .int (k : Nat))]) (fun _ => st)
      (fun k => k ≤ A.length ∧ ∀ i (h : i < A.length), i < k → SameNos (aboutL A (subj A[i])) (aboutL O (subj A[i]))) (fun k => A.length - k) 0 ⟨Nat.zero_le _, fun i h h2 => by omega⟩ (by simp) (by simp) ?_
    rintro k ⟨hk, hI⟩
    have hw := wrap_succ (n := k) (by omega)
    by_cases hil : k < A.length
    · have B1 := fun st => about_spec false A (by omega) (subj A[k]) st
      have B2 := fun st => about_spec false O (by omega) (subj A[k]) st
      have hl2 := hfa (subj A[k])
      have hI' : Hid (SameNos (aboutL A (subj A[k])) (aboutL O (subj A[k])) → ∀ i (h : i < A.length), i < k + 1 → SameNos (aboutL A (subj A[i])) (aboutL O (subj A[i]))) := ⟨fun h i hi h2 => by
        by_cases e : i = k
        · subst e; exact h
        · exact hI i hi (by omega)⟩
      have hll : (aboutL A (subj A[k])).length ≤ A.length := List.length_filter_le ..
      clear hI ME hfa
      generalize aboutL A (subj A[k]) = U at *
      generalize aboutL O (subj A[k]) = V at *
      repeat' (first
        | (with_reducible refine Fresh.intro fun b hb => ?_) <;> (try simp -dsimp -implicitDefEqProofs [*] at hb)
        | (with_reducible refine Rets.xcall (subject_spec _ _) ?_)
        | (with_reducible refine Rets.xsoft (subject_spec _ _) ?_)
        | (with_reducible refine xlateCall_of (fun _ => subject_spec _ _) ?_)
        | (with_reducible refine Rets.xcall (B1 _) ?_)
        | (with_reducible refine Rets.xsoft (B1 _) ?_)
        | (with_reducible refine xlateCall_of (fun _ => B1 _) ?_)
        | (with_reducible refine Rets.xcall (B2 _) ?_)
        | (with_reducible refine Rets.xsoft (B2 _) ?_)
        | (with_reducible refine xlateCall_of (fun _ => B2 _) ?_)
        | (with_reducible refine Lit.imm ?_)
        | ((with_reducible refine Grow.intro ?_ fun b cap hb hc1 hc2 => ?_); omega) <;> (try simp -dsimp -implicitDefEqProofs [*] at hb)
        | (with_reducible refine DrawLate.intro [] ?_)
        | (with_reducible refine Cls_and ?_ ?_)
        | (with_reducible exact Cls.self _ _)
        | (with_reducible refine Cls_same ?_)
        | (with_reducible refine Cls_in ?_ ?_)
        | (with_reducible refine Cls_fresh ?_ ?_)
        | (with_reducible refine And.intro (fun h => ?_) (fun h => ?_)) <;> (try (exfalso; omega))
        | (with_reducible refine And.intro (fun h => ?_) ?_) <;> (try (exfalso; omega))
        | ((with_reducible refine and_keep ?_ fun hk => ?_); omega)
        | (simp -dsimp -implicitDefEqProofs [*]))
      clear B1 B2
      refine xloop_for (fun n : Nat => [(0, Event.lst ta l), (3, .int t), (9, Event.lst false X), (11, Decision.lst false A), (14, Decision.lst false D'), (16, Decision.lst false O), (18, .int (k : Nat)), (19, Decision.lst false U), (20, Decision.lst false V), (21, .int (n : Nat))]) (fun _ => st)
        (fun n => n ≤ U.length ∧ (U.take n).map (·.no) = (V.take n).map (·.no)) (fun n => U.length - n) 0 ⟨Nat.zero_le _, by simp⟩ (by simp) (by simp) ?_
      rintro n ⟨hn, hU⟩
      have hw2 := wrap_succ (n := n) (by omega)
      by_cases hnl : n < U.length
      · have hnl2 : n < V.length := by omega
        by_cases hno : U[n].no = V[n].no
        · have hU2 : Hid ((U.take (n + 1)).map (·.no) = (V.take (n + 1)).map (·.no)) := ⟨by rw [List.take_succ_eq_append_getElem hnl, List.take_succ_eq_append_getElem hnl2, List.map_append, List.map_append, hU]; simp [hno]⟩
          clear hU
          repeat' (first
            | (with_reducible refine Fresh.intro fun b hb => ?_) <;> (try simp -dsimp -implicitDefEqProofs [*] at hb)
            | (with_reducible refine Lit.imm ?_)
            | ((with_reducible refine Grow.intro ?_ fun b cap hb hc1 hc2 => ?_); omega) <;> (try simp -dsimp -implicitDefEqProofs [*] at hb)
            | (with_reducible refine DrawLate.intro [] ?_)
            | (with_reducible refine Cls_and ?_ ?_)
            | (with_reducible exact Cls.self _ _)
            | (with_reducible refine Cls_same ?_)
            | (with_reducible refine Cls_in ?_ ?_)
            | (with_reducible refine Cls_fresh ?_ ?_)
            | (with_reducible refine And.intro (fun h => ?_) (fun h => ?_)) <;> (try (exfalso; omega))
            | (with_reducible refine And.intro (fun h => ?_) ?_) <;> (try (exfalso; omega))
            | ((with_reducible refine and_keep ?_ fun hk => ?_); omega)
            | (simp -dsimp -implicitDefEqProofs [*]))
          exact Next.intro (n + 1) ⟨by omega, hU2.out⟩ (by omega) (by simp) (by repeat' (first | exact StLe.refl _ | (refine StLe_cons (by simp [*]; done) ?_) | (refine StLe_fresh (by simp [*]; done) ?_)))
        · clear hU
          repeat' (first
            | (with_reducible refine Fresh.intro fun b hb => ?_) <;> (try simp -dsimp -implicitDefEqProofs [*] at hb)
            | (with_reducible refine Lit.imm ?_)
            | ((with_reducible refine Grow.intro ?_ fun b cap hb hc1 hc2 => ?_); omega) <;> (try simp -dsimp -implicitDefEqProofs [*] at hb)
            | (with_reducible refine DrawLate.intro [] ?_)
            | (with_reducible refine Cls_and ?_ ?_)
            | (with_reducible exact Cls.self _ _)
            | (with_reducible refine Cls_same ?_)
            | (with_reducible refine Cls_in ?_ ?_)
            | (with_reducible refine Cls_fresh ?_ ?_)
            | (with_reducible refine And.intro (fun h => ?_) (fun h => ?_)) <;> (try (exfalso; omega))
            | (with_reducible refine And.intro (fun h => ?_) ?_) <;> (try (exfalso; omega))
            | ((with_reducible refine and_keep ?_ fun hk => ?_); omega)
            | (simp -dsimp -implicitDefEqProofs [*]))
      · rw [List.take_of_length_le (by omega), List.take_of_length_le (by omega)] at hU
        have hI2 : Hid (∀ i (h : i < A.length), i < k + 1 → SameNos (aboutL A (subj A[i])) (aboutL O (subj A[i]))) := ⟨hI'.out hU⟩
        clear hU hI'
        repeat' (first
          | (with_reducible refine Fresh.intro fun b hb => ?_) <;> (try simp -dsimp -implicitDefEqProofs [*] at hb)
          | (with_reducible refine Lit.imm ?_)
          | ((with_reducible refine Grow.intro ?_ fun b cap hb hc1 hc2 => ?_); omega) <;> (try simp -dsimp -implicitDefEqProofs [*] at hb)
          | (with_reducible refine DrawLate.intro [] ?_)
          | (with_reducible refine Cls_and ?_ ?_)
          | (with_reducible exact Cls.self _ _)
          | (with_reducible refine Cls_same ?_)
          | (with_reducible refine Cls_in ?_ ?_)
          | (with_reducible refine Cls_fresh ?_ ?_)
          | (with_reducible refine And.intro (fun h => ?_) (fun h => ?_)) <;> (try (exfalso; omega))
          | (with_reducible refine And.intro (fun h => ?_) ?_) <;> (try (exfalso; omega))
          | ((with_reducible refine and_keep ?_ fun hk => ?_); omega)
          | (simp -dsimp -implicitDefEqProofs [*]))
        exact Next.intro (k + 1) ⟨by omega, hI2.out⟩ (by omega) (by simp) (by repeat' (first | exact StLe.refl _ | (refine StLe_cons (by simp [*]; done) ?_) | (refine StLe_fresh (by simp [*]; done) ?_)))
    · have hap := ME fun a ha => by
        obtain ⟨i, hi, rfl⟩ := List.mem_iff_getElem.1 ha
        exact hI i hi (by omega)
      clear hI ME hfa
      repeat' (first
        | (with_reducible refine Fresh.intro fun b hb => ?_) <;> (try simp -dsimp -implicitDefEqProofs [*] at hb)
        | (with_reducible refine Rets.xcall (hap _) ?_)
        | (with_reducible refine Rets.xsoft (hap _) ?_)
        | (with_reducible refine xlateCall_of (fun _ => hap _) ?_)
        | (with_reducible refine Rets.xcall (hS1 _) ?_)
        | (with_reducible refine Rets.xsoft (hS1 _) ?_)
        | (with_reducible refine xlateCall_of (fun _ => hS1 _) ?_)
        | (with_reducible refine Lit.imm ?_)
        | ((with_reducible refine Grow.intro ?_ fun b cap hb hc1 hc2 => ?_); omega) <;> (try simp -dsimp -implicitDefEqProofs [*] at hb)
        | (with_reducible refine DrawLate.intro [] ?_)
        | (with_reducible refine Cls_and ?_ ?_)
        | (with_reducible exact Cls.self _ _)
        | (with_reducible refine Cls_same ?_)
        | (with_reducible refine Cls_in ?_ ?_)
        | (with_reducible refine Cls_fresh ?_ ?_)
        | (with_reducible refine And.intro (fun h => ?_) (fun h => ?_)) <;> (try (exfalso; omega))
        | (with_reducible refine And.intro (fun h => ?_) ?_) <;> (try (exfalso; omega))
        | ((with_reducible refine and_keep ?_ fun hk => ?_); omega)
        | (simp -dsimp -implicitDefEqProofs [*]))
  · intro k hk he
    have hil : k < d.length := by omega
    have hw := wrap_succ (n := k) (by omega)
    simp only [OE]
    have hLl := OL_len d A[j] A[j + 1] k
    have hLs := OL_succ d A[j] A[j + 1] k hil
    have hLk := OL_get d A[j] A[j + 1] k hil (by omega)
    have g0 : (Decision.row (OL d A[j] A[j + 1] k) ++ C)[k * 14]? = some (.int d[k].no) := by rw [own_get0 (by omega), hLk]
    have s1 : ∀ v, swK A[j] A[j + 1] d[k] = setKn d[k] v → (Decision.row (OL d A[j] A[j + 1] k) ++ C).set (k * 14 + 1) (.int v) = Decision.row (OL d A[j] A[j + 1] (k + 1)) ++ C := fun v hv => by
      have h := own_set1 (l := OL d A[j] A[j + 1] k) (i := k) (C := C) (v := v) (by omega)
      rw [hLk, ← hv, hLs] at h
      exact h
    have s2 : swK A[j] A[j + 1] d[k] = d[k] → OL d A[j] A[j + 1] k = OL d A[j] A[j + 1] (k + 1) := fun hv => by
      rw [← hLs, hv, ← hLk, List.set_getElem_self]
    clear hLs hLk Z1 ME hfl hfa hS1 hP hQ hok
    by_cases c1 : d[k].no = A[j].no
    · have s3 := s1 A[j + 1].known (by simp [swK, c1])
      clear s1 s2
      repeat' (first
        | (with_reducible refine Fresh.intro fun b hb => ?_) <;> (try simp -dsimp -implicitDefEqProofs [*] at hb)
        | (with_reducible refine Lit.imm ?_)
        | ((with_reducible refine Grow.intro ?_ fun b cap hb hc1 hc2 => ?_); omega) <;> (try simp -dsimp -implicitDefEqProofs [*] at hb)
        | (with_reducible refine DrawLate.intro [] ?_)
        | (with_reducible refine Cls_and ?_ ?_)
        | (with_reducible exact Cls.self _ _)
        | (with_reducible refine Cls_same ?_)
        | (with_reducible refine Cls_in ?_ ?_)
        | (with_reducible refine Cls_fresh ?_ ?_)
        | (with_reducible refine And.intro (fun h => ?_) (fun h => ?_)) <;> (try (exfalso; omega))
        | (with_reducible refine And.intro (fun h => ?_) ?_) <;> (try (exfalso; omega))
        | ((with_reducible refine and_keep ?_ fun hk => ?_); omega)
        | (simp -dsimp -implicitDefEqProofs [SortDecision.rowO, *]))
      exact NextF.intro kv.out (k + 1) (by omega) (by omega) (by simp [OE]) (by repeat' (first | exact StLe.refl _ | (refine StLe_cons (by simp [*]; done) ?_) | (refine StLe_fresh (by simp [*]; done) ?_)))
    · by_cases c2 : d[k].no = A[j + 1].no
      · have c3 : ¬ A[j + 1].no = A[j].no := by rw [← c2]; exact c1
        have s3 := s1 A[j].known (by simp [swK, c2, c3])
        clear s1 s2
        repeat' (first
          | (with_reducible refine Fresh.intro fun b hb => ?_) <;> (try simp -dsimp -implicitDefEqProofs [*] at hb)
          | (with_reducible refine Lit.imm ?_)
          | ((with_reducible refine Grow.intro ?_ fun b cap hb hc1 hc2 => ?_); omega) <;> (try simp -dsimp -implicitDefEqProofs [*] at hb)
          | (with_reducible refine DrawLate.intro [] ?_)
          | (with_reducible refine Cls_and ?_ ?_)
          | (with_reducible exact Cls.self _ _)
          | (with_reducible refine Cls_same ?_)
          | (with_reducible refine Cls_in ?_ ?_)
          | (with_reducible refine Cls_fresh ?_ ?_)
          | (with_reducible refine And.intro (fun h => ?_) (fun h => ?_)) <;> (try (exfalso; omega))
          | (with_reducible refine And.intro (fun h => ?_) ?_) <;> (try (exfalso; omega))
          | ((with_reducible refine and_keep ?_ fun hk => ?_); omega)
          | (simp -dsimp -implicitDefEqProofs [SortDecision.rowO, *]))
        exact NextF.intro kv.out (k + 1) (by omega) (by omega) (by simp [OE]) (by repeat' (first | exact StLe.refl _ | (refine StLe_cons (by simp [*]; done) ?_) | (refine StLe_fresh (by simp [*]; done) ?_)))
      · have s3 := s2 (by simp [swK, c1, c2])
        clear s1 s2
        rw [s3] at g0 hLl ⊢
        clear s3
        repeat' (first
          | (with_reducible refine Fresh.intro fun b hb => ?_) <;> (try simp -dsimp -implicitDefEqProofs [*] at hb)
          | (with_reducible refine Lit.imm ?_)
          | ((with_reducible refine Grow.intro ?_ fun b cap hb hc1 hc2 => ?_); omega) <;> (try simp -dsimp -implicitDefEqProofs [*] at hb)
          | (with_reducible refine DrawLate.intro [] ?_)
          | (with_reducible refine Cls_and ?_ ?_)
          | (with_reducible exact Cls.self _ _)
          | (with_reducible refine Cls_same ?_)
          | (with_reducible refine Cls_in ?_ ?_)
          | (with_reducible refine Cls_fresh ?_ ?_)
          | (with_reducible refine And.intro (fun h => ?_) (fun h => ?_)) <;> (try (exfalso; omega))
          | (with_reducible refine And.intro (fun h => ?_) ?_) <;> (try (exfalso; omega))
          | ((with_reducible refine and_keep ?_ fun hk => ?_); omega)
          | (simp -dsimp -implicitDefEqProofs [SortDecision.rowO, *]))
        exact NextF.intro kv.out (k + 1) (by omega) (by omega) (by simp [OE]) (by repeat' (first | exact StLe.refl _ | (refine StLe_cons (by simp [*]; done) ?_) | (refine StLe_fresh (by simp [*]; done) ?_)))
theorem order_law (ta tb : Bool) (l : List Event) (d : List Decision) (a : Int) (ha0 : 0 ≤ a) (ha1 : a ≤ 255) (t : Int) (st : Store) : Rets P F.podiumlaw51_AppealsOrder [Event.lst ta l, Decision.lst tb d, .val (.int .u8 a), .int t] st (.bool true) := by
  have hfew := few_spec ta tb l d
  cases hf : fewN l.length d.length with
  | false =>
    rw [hf] at hfew
    refine (H.podiumlaw51_AppealsOrder).pure hmix rfl rfl ?_
    repeat' (first
      | (with_reducible refine Fresh.intro fun b hb => ?_) <;> (try simp -dsimp -implicitDefEqProofs [*] at hb)
      | (with_reducible refine Rets.xcall (sane_spec _) ?_)
      | (with_reducible refine Rets.xsoft (sane_spec _) ?_)
      | (with_reducible refine xlateCall_of (fun _ => sane_spec _) ?_)
      | (with_reducible refine Rets.xcall (hfew _) ?_)
      | (with_reducible refine Rets.xsoft (hfew _) ?_)
      | (with_reducible refine xlateCall_of (fun _ => hfew _) ?_)
      | (with_reducible refine Lit.imm ?_)
      | ((with_reducible refine Grow.intro ?_ fun b cap hb hc1 hc2 => ?_); omega) <;> (try simp -dsimp -implicitDefEqProofs [*] at hb)
      | (with_reducible refine DrawLate.intro [] ?_)
      | (with_reducible refine Cls_and ?_ ?_)
      | (with_reducible exact Cls.self _ _)
      | (with_reducible refine Cls_same ?_)
      | (with_reducible refine Cls_in ?_ ?_)
      | (with_reducible refine Cls_fresh ?_ ?_)
      | (with_reducible refine And.intro (fun h => ?_) (fun h => ?_)) <;> (try (exfalso; omega))
      | (with_reducible refine And.intro (fun h => ?_) ?_) <;> (try (exfalso; omega))
      | ((with_reducible refine and_keep ?_ fun hk => ?_); omega)
      | (simp -dsimp -implicitDefEqProofs [*]))
  | true =>
    rw [hf] at hfew
    have hd := few_d hf
    have hlen := few_e hf
    have hap := fun st => apply_spec ta tb l d t hd st
    have hst := fun st => standing_spec tb d t hd st
    by_cases hd2 : (d.length : Int) < 2
    · refine (H.podiumlaw51_AppealsOrder).pure hmix rfl rfl ?_
      repeat' (first
        | (with_reducible refine Fresh.intro fun b hb => ?_) <;> (try simp -dsimp -implicitDefEqProofs [*] at hb)
        | (with_reducible refine Rets.xcall (sane_spec _) ?_)
        | (with_reducible refine Rets.xsoft (sane_spec _) ?_)
        | (with_reducible refine xlateCall_of (fun _ => sane_spec _) ?_)
        | (with_reducible refine Rets.xcall (hfew _) ?_)
        | (with_reducible refine Rets.xsoft (hfew _) ?_)
        | (with_reducible refine xlateCall_of (fun _ => hfew _) ?_)
        | (with_reducible refine Lit.imm ?_)
        | ((with_reducible refine Grow.intro ?_ fun b cap hb hc1 hc2 => ?_); omega) <;> (try simp -dsimp -implicitDefEqProofs [*] at hb)
        | (with_reducible refine DrawLate.intro [] ?_)
        | (with_reducible refine Cls_and ?_ ?_)
        | (with_reducible exact Cls.self _ _)
        | (with_reducible refine Cls_same ?_)
        | (with_reducible refine Cls_in ?_ ?_)
        | (with_reducible refine Cls_fresh ?_ ?_)
        | (with_reducible refine And.intro (fun h => ?_) (fun h => ?_)) <;> (try (exfalso; omega))
        | (with_reducible refine And.intro (fun h => ?_) ?_) <;> (try (exfalso; omega))
        | ((with_reducible refine and_keep ?_ fun hk => ?_); omega)
        | (simp -dsimp -implicitDefEqProofs [*]))
    by_cases hN : applyN l d t = 0
    · have M := made hN
      have hX : (applyL l d t).length ≤ 4096 := M.len
      rw [hN] at hap
      rw [M.dec] at hst
      generalize applyL l d t = X at *
      have hA : (standL d t).length ≤ 4200 := Nat.le_trans standL_len hlen.2
      have hdd : d.length ≤ 20 := by rcases hd with h | h; exact h; have := M.decs.1; omega
      by_cases hA2 : ((standL d t).length : Int) < 2
      · clear M
        generalize standL d t = A at *
        refine (H.podiumlaw51_AppealsOrder).pure hmix rfl rfl ?_
        repeat' (first
          | (with_reducible refine Fresh.intro fun b hb => ?_) <;> (try simp -dsimp -implicitDefEqProofs [*] at hb)
          | (with_reducible refine Rets.xcall (sane_spec _) ?_)
          | (with_reducible refine Rets.xsoft (sane_spec _) ?_)
          | (with_reducible refine xlateCall_of (fun _ => sane_spec _) ?_)
          | (with_reducible refine Rets.xcall (hfew _) ?_)
          | (with_reducible refine Rets.xsoft (hfew _) ?_)
          | (with_reducible refine xlateCall_of (fun _ => hfew _) ?_)
          | (with_reducible refine Rets.xcall (hap _) ?_)
          | (with_reducible refine Rets.xsoft (hap _) ?_)
          | (with_reducible refine xlateCall_of (fun _ => hap _) ?_)
          | (with_reducible refine Rets.xcall (hst _) ?_)
          | (with_reducible refine Rets.xsoft (hst _) ?_)
          | (with_reducible refine xlateCall_of (fun _ => hst _) ?_)
          | (with_reducible refine Lit.imm ?_)
          | ((with_reducible refine Grow.intro ?_ fun b cap hb hc1 hc2 => ?_); omega) <;> (try simp -dsimp -implicitDefEqProofs [*] at hb)
          | (with_reducible refine DrawLate.intro [] ?_)
          | (with_reducible refine Cls_and ?_ ?_)
          | (with_reducible exact Cls.self _ _)
          | (with_reducible refine Cls_same ?_)
          | (with_reducible refine Cls_in ?_ ?_)
          | (with_reducible refine Cls_fresh ?_ ?_)
          | (with_reducible refine And.intro (fun h => ?_) (fun h => ?_)) <;> (try (exfalso; omega))
          | (with_reducible refine And.intro (fun h => ?_) ?_) <;> (try (exfalso; omega))
          | ((with_reducible refine and_keep ?_ fun hk => ?_); omega)
          | (simp -dsimp -implicitDefEqProofs [*]))
      have hrem : ∃ j : Nat, a.tmod ((standL d t).length - 1 : Int) = j ∧ j + 1 < (standL d t).length := by
        refine ⟨(a.tmod ((standL d t).length - 1 : Int)).toNat, ?_, ?_⟩
        · rw [Int.toNat_of_nonneg]
          exact Int.tmod_nonneg _ ha0
        · have h1 := Int.tmod_lt_of_pos a (b := ((standL d t).length - 1 : Int)) (by omega)
          have h2 := Int.tmod_nonneg ((standL d t).length - 1 : Int) ha0
          omega
      obtain ⟨j, hj1, hj2⟩ := hrem
      have hfst := exch M.dec (List.getElem_mem (by omega : j < (standL d t).length)) (List.getElem_mem (by omega : j + 1 < (standL d t).length))
      have hP : (standL d t)[j] ∈ d := standL_sub (List.getElem_mem _)
      have hQ : (standL d t)[j + 1] ∈ d := standL_sub (List.getElem_mem _)
      have Z1 := fun st => standing_spec false (d.map (swK (standL d t)[j] (standL d t)[j + 1])) t (.inl (by simpa using hdd)) st
      have Z2 := fun st => apply_spec ta false l (d.map (swK (standL d t)[j] (standL d t)[j + 1])) t (.inl (by simpa using hdd)) st
      rw [hfst.n] at Z1
      exact order_aux ta tb l d a ha0 ha1 t st X (standL d t) _ j (by omega) hdd hX hA hfew hap hst hj1 hj2 M.decs.2 hP hQ Z1 hfst.len hfst.about fun h st => by
        have h1 := Z2 st
        rw [(M.exch hfst h).out.1, (M.exch hfst h).out.2] at h1
        exact h1
    · have h0 : applyL l d t = [] := by simp [applyL, hN]
      rw [h0] at hap
      generalize applyN l d t = N at *
      refine (H.podiumlaw51_AppealsOrder).pure hmix rfl rfl ?_
      repeat' (first
        | (with_reducible refine Fresh.intro fun b hb => ?_) <;> (try simp -dsimp -implicitDefEqProofs [*] at hb)
        | (with_reducible refine Rets.xcall (sane_spec _) ?_)
        | (with_reducible refine Rets.xsoft (sane_spec _) ?_)
        | (with_reducible refine xlateCall_of (fun _ => sane_spec _) ?_)
        | (with_reducible refine Rets.xcall (hfew _) ?_)
        | (with_reducible refine Rets.xsoft (hfew _) ?_)
        | (with_reducible refine xlateCall_of (fun _ => hfew _) ?_)
        | (with_reducible refine Rets.xcall (hap _) ?_)
        | (with_reducible refine Rets.xsoft (hap _) ?_)
        | (with_reducible refine xlateCall_of (fun _ => hap _) ?_)
        | (with_reducible refine Lit.imm ?_)
        | ((with_reducible refine Grow.intro ?_ fun b cap hb hc1 hc2 => ?_); omega) <;> (try simp -dsimp -implicitDefEqProofs [*] at hb)
        | (with_reducible refine DrawLate.intro [] ?_)
        | (with_reducible refine Cls_and ?_ ?_)
        | (with_reducible exact Cls.self _ _)
        | (with_reducible refine Cls_same ?_)
        | (with_reducible refine Cls_in ?_ ?_)
        | (with_reducible refine Cls_fresh ?_ ?_)
        | (with_reducible refine And.intro (fun h => ?_) (fun h => ?_)) <;> (try (exfalso; omega))
        | (with_reducible refine And.intro (fun h => ?_) ?_) <;> (try (exfalso; omega))
        | ((with_reducible refine and_keep ?_ fun hk => ?_); omega)
        | (simp -dsimp -implicitDefEqProofs [*]))
end Go.Proofs.Ythkjdppifnmakaa
