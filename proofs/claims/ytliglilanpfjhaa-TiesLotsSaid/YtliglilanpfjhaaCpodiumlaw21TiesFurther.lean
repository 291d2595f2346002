/- The code of one function. -/
import Derived.Test.YtliglilanpfjhaaCode
import Derived.Test.YtliglilanpfjhaaS21ZQ
import Derived.Test.YtliglilanpfjhaaLLx
set_option maxRecDepth 100000
namespace Go.Proofs.Ytliglilanpfjhaa
open Go.Pv
/-- podium/podiumlaw21.TiesFurther -/
noncomputable def C.podiumlaw21_TiesFurther : MFunc := ⟨108, 4, [.tmp 8],
  (.seq (.region [
    ⟨(some 6), none, .box T.apiKeyed (.tmp 2)⟩,
    ⟨(some 7), none, .box T.apiKeyed (.tmp 3)⟩,
    ⟨(some 8), none, .val (.mv (.const (.bool false)))⟩] [])
  (.seq (.seq (.region [
    ⟨(some 19), none, .call (.const (.func (.func F.podiumlaw21_sane) [] [])) []⟩,
    ⟨(some 20), none, .val (.un .not (.tmp 19))⟩] [19])
  (.cond (.tmp 20)
  (.seq (.region [
    ⟨(some 8), none, .val (.mv (.const (.bool false)))⟩] [])
  .ret)
  .skip))
  (.seq (.region [
    ⟨(some 21), none, .val (.buildSlice T.apiKey 0 [] [])⟩,
    ⟨(some 22), none, .val (.mv (.tmp 0))⟩,
    ⟨(some 23), none, .append T.apiKey 32 3 (.tmp 21) (.tmp 22)⟩,
    ⟨(some 24), none, .val (.mv (.tmp 1))⟩,
    ⟨(some 25), none, .append T.apiKey 32 3 (.tmp 23) (.tmp 24)⟩,
    ⟨(some 9), none, .val (.mv (.tmp 25))⟩] [21, 22, 23, 24, 25])
  (.seq (.seq (.region [
    ⟨(some 26), none, .val (.mv (.tmp 9))⟩,
    ⟨(some 27), none, .val (.load 10 true (.tmp 6))⟩,
    ⟨(some 28), none, .val (.load 10 true (.tmp 7))⟩,
    ⟨(some 29), none, .val (.buildSlice T.apiKeyed 2 [(.int 0), (.bool false), .nil, (.bool false), .nil, .nil, .nil, (.int 0), (.int 0), (.int 0), (.int 0), (.bool false), .nil, (.bool false), .nil, .nil, .nil, (.int 0), (.int 0), (.int 0)] [(0, 10, (.tmp 27)), (10, 10, (.tmp 28))])⟩,
    ⟨(some 30), none, .call (.const (.func (.func F.podiumlaw21_right) [] [])) [(.tmp 26), (.tmp 29)]⟩,
    ⟨(some 31), none, .val (.un .not (.tmp 30))⟩] [26, 27, 28, 29, 30])
  (.cond (.tmp 31)
  (.seq (.region [
    ⟨(some 8), none, .val (.mv (.const (.bool true)))⟩] [])
  .ret)
  .skip))
  (.seq (.region [
    ⟨(some 33), none, .val (.mv (.tmp 0))⟩,
    ⟨(some 34), none, .val (.load 10 true (.tmp 6))⟩,
    ⟨(some 35), none, .val (.load 10 true (.tmp 7))⟩,
    ⟨(some 36), none, .call (.const (.func (.func F.ties_Compare) [] [])) [(.tmp 33), (.tmp 34), (.tmp 35)]⟩,
    ⟨(some 32), none, .val (.mv (.tmp 36))⟩,
    ⟨(some 37), none, .val (.extract 0 (.tmp 32))⟩,
    ⟨(some 38), none, .val (.extract 1 (.tmp 32))⟩,
    ⟨(some 39), none, .val (.extract 2 (.tmp 32))⟩,
    ⟨(some 10), none, .val (.mv (.tmp 37))⟩,
    ⟨(some 11), none, .val (.mv (.tmp 38))⟩,
    ⟨(some 12), none, .val (.mv (.tmp 39))⟩] [33, 34, 35, 36, 32, 37, 38, 39])
  (.seq (.region [
    ⟨(some 41), none, .val (.mv (.tmp 9))⟩,
    ⟨(some 42), none, .val (.load 10 true (.tmp 6))⟩,
    ⟨(some 43), none, .val (.load 10 true (.tmp 7))⟩,
    ⟨(some 44), none, .call (.const (.func (.func F.ties_Compare) [] [])) [(.tmp 41), (.tmp 42), (.tmp 43)]⟩,
    ⟨(some 40), none, .val (.mv (.tmp 44))⟩,
    ⟨(some 45), none, .val (.extract 0 (.tmp 40))⟩,
    ⟨(some 46), none, .val (.extract 1 (.tmp 40))⟩,
    ⟨(some 47), none, .val (.extract 2 (.tmp 40))⟩,
    ⟨(some 13), none, .val (.mv (.tmp 45))⟩,
    ⟨(some 14), none, .val (.mv (.tmp 46))⟩,
    ⟨(some 15), none, .val (.mv (.tmp 47))⟩] [41, 42, 43, 44, 40, 45, 46, 47])
  (.seq (.seq (.region [
    ⟨(some 48), none, .val (.mv (.tmp 12))⟩,
    ⟨(some 49), none, .val (.bin .neq T.apiErrno (.tmp 48) (.const (.int 0)))⟩,
    ⟨(some 50), none, .val (.mv (.tmp 49))⟩,
    ⟨(some 51), (some (50, false)), .val (.mv (.tmp 15))⟩,
    ⟨(some 52), (some (50, false)), .val (.bin .neq T.apiErrno (.tmp 51) (.const (.int 0)))⟩,
    ⟨(some 53), none, .val (.pick (.tmp 50) (.const (.bool true)) (.tmp 52))⟩] [48, 49, 50, 51, 52])
  (.cond (.tmp 53)
  (.seq (.region [
    ⟨(some 8), none, .val (.mv (.const (.bool false)))⟩] [])
  .ret)
  .skip))
  (.seq (.seq (.region [
    ⟨(some 54), none, .val (.mv (.tmp 10))⟩,
    ⟨(some 55), none, .val (.bin .neq T.int (.tmp 54) (.const (.int 0)))⟩] [54])
  (.cond (.tmp 55)
  (.seq (.seq (.region [
    ⟨(some 56), none, .val (.mv (.tmp 10))⟩,
    ⟨(some 57), none, .val (.mv (.tmp 13))⟩,
    ⟨(some 58), none, .val (.bin .neq T.int (.tmp 56) (.tmp 57))⟩,
    ⟨(some 59), none, .val (.mv (.tmp 58))⟩,
    ⟨(some 60), (some (59, false)), .val (.mv (.tmp 11))⟩,
    ⟨(some 61), (some (59, false)), .val (.mv (.tmp 14))⟩,
    ⟨(some 62), (some (59, false)), .val (.bin .neq T.int (.tmp 60) (.tmp 61))⟩,
    ⟨(some 63), none, .val (.pick (.tmp 59) (.const (.bool true)) (.tmp 62))⟩,
    ⟨(some 64), none, .val (.mv (.tmp 63))⟩,
    ⟨(some 65), (some (64, false)), .val (.mv (.tmp 11))⟩,
    ⟨(some 66), (some (64, false)), .val (.bin .lss T.int (.tmp 65) (.const (.int 0)))⟩,
    ⟨(some 67), none, .val (.pick (.tmp 64) (.const (.bool true)) (.tmp 66))⟩,
    ⟨(some 68), none, .val (.mv (.tmp 67))⟩,
    ⟨(some 69), (some (68, false)), .val (.mv (.tmp 11))⟩,
    ⟨(some 70), (some (68, false)), .val (.mv (.tmp 0))⟩,
    ⟨(some 71), (some (68, false)), .val (.len (.tmp 70))⟩,
    ⟨(some 72), (some (68, false)), .val (.bin .gtr T.int (.tmp 69) (.tmp 71))⟩,
    ⟨(some 73), none, .val (.pick (.tmp 68) (.const (.bool true)) (.tmp 72))⟩] [56, 57, 58, 59, 60, 61, 62, 63, 64, 65, 66, 67, 68, 69, 70, 71, 72])
  (.cond (.tmp 73)
  (.seq (.region [
    ⟨(some 8), none, .val (.mv (.const (.bool false)))⟩] [])
  .ret)
  .skip))
  (.seq (.draw true [
    (.early, ⟨(some 75), none, .val (.mv (.tmp 0))⟩),
    (.early, ⟨(some 76), none, .val (.mv (.tmp 11))⟩),
    (.early, ⟨(some 77), none, .val (.slice 3 (.tmp 75) none (some (.tmp 76)) none)⟩),
    (.early, ⟨(some 78), none, .val (.load 10 true (.tmp 6))⟩),
    (.early, ⟨(some 79), none, .val (.load 10 true (.tmp 7))⟩),
    (.hard, ⟨(some 80), none, .call (.const (.func (.func F.ties_Compare) [] [])) [(.tmp 77), (.tmp 78), (.tmp 79)]⟩),
    (.late, ⟨(some 74), none, .val (.mv (.tmp 80))⟩),
    (.late, ⟨(some 81), none, .val (.extract 0 (.tmp 74))⟩),
    (.late, ⟨(some 82), none, .val (.extract 1 (.tmp 74))⟩),
    (.late, ⟨(some 83), none, .val (.extract 2 (.tmp 74))⟩),
    (.late, ⟨(some 16), none, .val (.mv (.tmp 81))⟩),
    (.late, ⟨(some 17), none, .val (.mv (.tmp 82))⟩),
    (.late, ⟨(some 18), none, .val (.mv (.tmp 83))⟩)] [75, 76, 77, 78, 79, 80, 74, 81, 82, 83])
  (.seq (.region [
    ⟨(some 84), none, .val (.mv (.tmp 18))⟩,
    ⟨(some 85), none, .val (.bin .eql T.apiErrno (.tmp 84) (.const (.int 0)))⟩,
    ⟨(some 86), none, .val (.mv (.tmp 85))⟩,
    ⟨(some 87), (some (86, true)), .val (.mv (.tmp 16))⟩,
    ⟨(some 88), (some (86, true)), .val (.mv (.tmp 10))⟩,
    ⟨(some 89), (some (86, true)), .val (.bin .eql T.int (.tmp 87) (.tmp 88))⟩,
    ⟨(some 90), none, .val (.pick (.tmp 86) (.tmp 89) (.const (.bool false)))⟩,
    ⟨(some 91), none, .val (.mv (.tmp 90))⟩,
    ⟨(some 92), (some (91, true)), .val (.mv (.tmp 17))⟩,
    ⟨(some 93), (some (91, true)), .val (.mv (.tmp 11))⟩,
    ⟨(some 94), (some (91, true)), .val (.bin .eql T.int (.tmp 92) (.tmp 93))⟩,
    ⟨(some 95), none, .val (.pick (.tmp 91) (.tmp 94) (.const (.bool false)))⟩,
    ⟨(some 8), none, .val (.mv (.tmp 95))⟩] [84, 85, 86, 87, 88, 89, 90, 91, 92, 93, 94, 95])
  .ret)))
  .skip))
  (.seq (.region [
    ⟨(some 96), none, .val (.mv (.tmp 13))⟩,
    ⟨(some 97), none, .val (.bin .eql T.int (.tmp 96) (.const (.int 0)))⟩,
    ⟨(some 98), none, .val (.mv (.tmp 97))⟩,
    ⟨(some 99), (some (98, true)), .val (.mv (.tmp 14))⟩,
    ⟨(some 100), (some (98, true)), .val (.bin .eql T.int (.tmp 99) (.const (.int (-1))))⟩,
    ⟨(some 101), none, .val (.pick (.tmp 98) (.tmp 100) (.const (.bool false)))⟩,
    ⟨(some 102), none, .val (.mv (.tmp 101))⟩,
    ⟨(some 103), (some (102, false)), .val (.mv (.tmp 14))⟩,
    ⟨(some 104), (some (102, false)), .val (.mv (.tmp 0))⟩,
    ⟨(some 105), (some (102, false)), .val (.len (.tmp 104))⟩,
    ⟨(some 106), (some (102, false)), .val (.bin .gtr T.int (.tmp 103) (.tmp 105))⟩,
    ⟨(some 107), none, .val (.pick (.tmp 102) (.const (.bool true)) (.tmp 106))⟩,
    ⟨(some 8), none, .val (.mv (.tmp 107))⟩] [96, 97, 98, 99, 100, 101, 102, 103, 104, 105, 106, 107])
  .ret)))))))))⟩
theorem H.podiumlaw21_TiesFurther : Has P F.podiumlaw21_TiesFurther C.podiumlaw21_TiesFurther := ⟨Try.f5, Try.func5, by kernel_rfl, by kernel_rfl⟩
end Go.Proofs.Ytliglilanpfjhaa
/- The code of one function. -/
set_option maxRecDepth 100000
namespace Go.Proofs.Ytliglilanpfjhaa
open Go.Pv
/-- podium/podiumlaw21.TiesLots -/
noncomputable def C.podiumlaw21_TiesLots : MFunc := ⟨89, 3, [.tmp 6],
  (.seq (.region [
    ⟨(some 4), none, .box T.apiKeyed (.tmp 1)⟩,
    ⟨(some 5), none, .box T.apiKeyed (.tmp 2)⟩,
    ⟨(some 6), none, .val (.mv (.const (.bool false)))⟩] [])
  (.seq (.seq (.region [
    ⟨(some 14), none, .call (.const (.func (.func F.podiumlaw21_sane) [] [])) []⟩,
    ⟨(some 15), none, .val (.un .not (.tmp 14))⟩] [14])
  (.cond (.tmp 15)
  (.seq (.region [
    ⟨(some 6), none, .val (.mv (.const (.bool false)))⟩] [])
  .ret)
  .skip))
  (.seq (.region [
    ⟨(some 16), none, .val (.buildSlice T.apiKey 0 [] [])⟩,
    ⟨(some 17), none, .val (.mv (.tmp 0))⟩,
    ⟨(some 18), none, .append T.apiKey 32 3 (.tmp 16) (.tmp 17)⟩,
    ⟨(some 19), none, .val (.build [(.int 0), (.val (.string ⟨#[]⟩)), (.int 0)] [(0, 1, (.const (.int 6)))])⟩,
    ⟨(some 20), none, .val (.buildSlice T.apiKey 1 [(.int 0), (.val (.string ⟨#[]⟩)), (.int 0)] [(0, 3, (.tmp 19))])⟩,
    ⟨(some 21), none, .append T.apiKey 32 3 (.tmp 18) (.tmp 20)⟩,
    ⟨(some 7), none, .val (.mv (.tmp 21))⟩] [16, 17, 18, 19, 20, 21])
  (.seq (.seq (.region [
    ⟨(some 22), none, .val (.mv (.tmp 7))⟩,
    ⟨(some 23), none, .val (.load 10 true (.tmp 4))⟩,
    ⟨(some 24), none, .val (.load 10 true (.tmp 5))⟩,
    ⟨(some 25), none, .val (.buildSlice T.apiKeyed 2 [(.int 0), (.bool false), .nil, (.bool false), .nil, .nil, .nil, (.int 0), (.int 0), (.int 0), (.int 0), (.bool false), .nil, (.bool false), .nil, .nil, .nil, (.int 0), (.int 0), (.int 0)] [(0, 10, (.tmp 23)), (10, 10, (.tmp 24))])⟩,
    ⟨(some 26), none, .call (.const (.func (.func F.podiumlaw21_right) [] [])) [(.tmp 22), (.tmp 25)]⟩,
    ⟨(some 27), none, .val (.un .not (.tmp 26))⟩,
    ⟨(some 28), none, .val (.mv (.tmp 27))⟩,
    ⟨(some 29), (some (28, false)), .val (.fieldAddr 9 (.tmp 4))⟩,
    ⟨(some 30), (some (28, false)), .val (.load 1 false (.tmp 29))⟩,
    ⟨(some 31), (some (28, false)), .val (.fieldAddr 9 (.tmp 5))⟩,
    ⟨(some 32), (some (28, false)), .val (.load 1 false (.tmp 31))⟩,
    ⟨(some 33), (some (28, false)), .val (.bin .eql T.int (.tmp 30) (.tmp 32))⟩,
    ⟨(some 34), none, .val (.pick (.tmp 28) (.const (.bool true)) (.tmp 33))⟩] [22, 23, 24, 25, 26, 27, 28, 29, 30, 31, 32, 33])
  (.cond (.tmp 34)
  (.seq (.region [
    ⟨(some 6), none, .val (.mv (.const (.bool true)))⟩] [])
  .ret)
  .skip))
  (.seq (.region [
    ⟨(some 36), none, .val (.mv (.tmp 7))⟩,
    ⟨(some 37), none, .val (.load 10 true (.tmp 4))⟩,
    ⟨(some 38), none, .val (.load 10 true (.tmp 5))⟩,
    ⟨(some 39), none, .call (.const (.func (.func F.ties_Compare) [] [])) [(.tmp 36), (.tmp 37), (.tmp 38)]⟩,
    ⟨(some 35), none, .val (.mv (.tmp 39))⟩,
    ⟨(some 40), none, .val (.extract 0 (.tmp 35))⟩,
    ⟨(some 41), none, .val (.extract 1 (.tmp 35))⟩,
    ⟨(some 42), none, .val (.extract 2 (.tmp 35))⟩,
    ⟨(some 8), none, .val (.mv (.tmp 40))⟩,
    ⟨(some 9), none, .val (.mv (.tmp 41))⟩,
    ⟨(some 10), none, .val (.mv (.tmp 42))⟩] [36, 37, 38, 39, 35, 40, 41, 42])
  (.seq (.region [
    ⟨(some 44), none, .val (.mv (.tmp 0))⟩,
    ⟨(some 45), none, .val (.load 10 true (.tmp 4))⟩,
    ⟨(some 46), none, .val (.load 10 true (.tmp 5))⟩,
    ⟨(some 47), none, .call (.const (.func (.func F.ties_Compare) [] [])) [(.tmp 44), (.tmp 45), (.tmp 46)]⟩,
    ⟨(some 43), none, .val (.mv (.tmp 47))⟩,
    ⟨(some 48), none, .val (.extract 0 (.tmp 43))⟩,
    ⟨(some 49), none, .val (.extract 1 (.tmp 43))⟩,
    ⟨(some 50), none, .val (.extract 2 (.tmp 43))⟩,
    ⟨(some 11), none, .val (.mv (.tmp 48))⟩,
    ⟨(some 12), none, .val (.mv (.tmp 49))⟩,
    ⟨(some 13), none, .val (.mv (.tmp 50))⟩] [44, 45, 46, 47, 43, 48, 49, 50])
  (.seq (.seq (.region [
    ⟨(some 51), none, .val (.mv (.tmp 10))⟩,
    ⟨(some 52), none, .val (.bin .neq T.apiErrno (.tmp 51) (.const (.int 0)))⟩,
    ⟨(some 53), none, .val (.mv (.tmp 52))⟩,
    ⟨(some 54), (some (53, false)), .val (.mv (.tmp 13))⟩,
    ⟨(some 55), (some (53, false)), .val (.bin .neq T.apiErrno (.tmp 54) (.const (.int 0)))⟩,
    ⟨(some 56), none, .val (.pick (.tmp 53) (.const (.bool true)) (.tmp 55))⟩,
    ⟨(some 57), none, .val (.mv (.tmp 56))⟩,
    ⟨(some 58), (some (57, false)), .val (.mv (.tmp 8))⟩,
    ⟨(some 59), (some (57, false)), .val (.bin .eql T.int (.tmp 58) (.const (.int 0)))⟩,
    ⟨(some 60), none, .val (.pick (.tmp 57) (.const (.bool true)) (.tmp 59))⟩,
    ⟨(some 61), none, .val (.mv (.tmp 60))⟩,
    ⟨(some 62), (some (61, false)), .val (.mv (.tmp 9))⟩,
    ⟨(some 63), (some (61, false)), .val (.bin .eql T.int (.tmp 62) (.const (.int (-1))))⟩,
    ⟨(some 64), none, .val (.pick (.tmp 61) (.const (.bool true)) (.tmp 63))⟩] [51, 52, 53, 54, 55, 56, 57, 58, 59, 60, 61, 62, 63])
  (.cond (.tmp 64)
  (.seq (.region [
    ⟨(some 6), none, .val (.mv (.const (.bool false)))⟩] [])
  .ret)
  .skip))
  (.seq (.seq (.region [
    ⟨(some 65), none, .val (.mv (.tmp 11))⟩,
    ⟨(some 66), none, .val (.bin .neq T.int (.tmp 65) (.const (.int 0)))⟩] [65])
  (.cond (.tmp 66)
  (.seq (.region [
    ⟨(some 67), none, .val (.mv (.tmp 8))⟩,
    ⟨(some 68), none, .val (.mv (.tmp 11))⟩,
    ⟨(some 69), none, .val (.bin .eql T.int (.tmp 67) (.tmp 68))⟩,
    ⟨(some 70), none, .val (.mv (.tmp 69))⟩,
    ⟨(some 71), (some (70, true)), .val (.mv (.tmp 9))⟩,
    ⟨(some 72), (some (70, true)), .val (.mv (.tmp 12))⟩,
    ⟨(some 73), (some (70, true)), .val (.bin .eql T.int (.tmp 71) (.tmp 72))⟩,
    ⟨(some 74), none, .val (.pick (.tmp 70) (.tmp 73) (.const (.bool false)))⟩,
    ⟨(some 6), none, .val (.mv (.tmp 74))⟩] [67, 68, 69, 70, 71, 72, 73, 74])
  .ret)
  .skip))
  (.seq (.region [
    ⟨(some 75), none, .val (.mv (.tmp 8))⟩,
    ⟨(some 76), none, .val (.bin .lss T.int (.tmp 75) (.const (.int 0)))⟩,
    ⟨(some 77), none, .val (.fieldAddr 9 (.tmp 4))⟩,
    ⟨(some 78), none, .val (.load 1 false (.tmp 77))⟩,
    ⟨(some 79), none, .val (.fieldAddr 9 (.tmp 5))⟩,
    ⟨(some 80), none, .val (.load 1 false (.tmp 79))⟩,
    ⟨(some 81), none, .val (.bin .lss T.int (.tmp 78) (.tmp 80))⟩,
    ⟨(some 82), none, .val (.eqBool false (.tmp 76) (.tmp 81))⟩,
    ⟨(some 83), none, .val (.mv (.tmp 82))⟩,
    ⟨(some 84), (some (83, true)), .val (.mv (.tmp 9))⟩,
    ⟨(some 85), (some (83, true)), .val (.mv (.tmp 7))⟩,
    ⟨(some 86), (some (83, true)), .val (.len (.tmp 85))⟩,
    ⟨(some 87), (some (83, true)), .val (.bin .eql T.int (.tmp 84) (.tmp 86))⟩,
    ⟨(some 88), none, .val (.pick (.tmp 83) (.tmp 87) (.const (.bool false)))⟩,
    ⟨(some 6), none, .val (.mv (.tmp 88))⟩] [75, 76, 77, 78, 79, 80, 81, 82, 83, 84, 85, 86, 87, 88])
  .ret)))))))))⟩
theorem H.podiumlaw21_TiesLots : Has P F.podiumlaw21_TiesLots C.podiumlaw21_TiesLots := ⟨Try.f6, Try.func6, by kernel_rfl, by kernel_rfl⟩
end Go.Proofs.Ytliglilanpfjhaa
/- Further keys; lots. -/
namespace Go.Proofs.Ytliglilanpfjhaa
open Go.Pv
set_option maxRecDepth 100000
set_option maxHeartbeats 8000000
theorem Rt.left {l m : List Ke} {L : List Ky} (h : Rt (l ++ m) L) : Rt l L := by
  have ho : okKeys l = l := okKeys_all.2 fun k hk => okKeys_all.1 h.ok k (by simp [hk])
  refine ⟨ho, by have := h.len; rw [List.length_append] at this; omega, fun x hx => ?_, h.lens, h.few⟩
  have := h.right x hx
  unfold wrongK at this ⊢
  rw [List.any_append] at this
  simp only [Bool.or_eq_false_iff] at this ⊢
  exact ⟨this.1.1, this.2⟩
theorem vec_append (l m : List Ke) (x : Ky) : vec (l ++ m) x = vec l x ++ m.map fun k => keyV k x := by simp [vec]
theorem vec_take (l : List Ke) (x : Ky) (n : Nat) : (vec l x).take (n + 1) = vec (l.take n) x := by
  unfold vec
  rw [List.take_succ_cons, List.map_take]
abbrev lotK : Ke := ⟨6, e0, 0⟩
theorem keyV_lot (x : Ky) : keyV lotK x = (x.lot : Rat) := rfl
theorem Ke.row_len' (l : List Ke) : (Ke.row l).length = l.length * 3 := Ke.row_len l
theorem lots_law (l : List Ke) (hl : (l.length + 1) * 32 ≤ 140737488355328) (x y : Ky) (hx : x.Wide) (hy : y.Wide) (st : Store) : Rets P F.podiumlaw21_TiesLots [Ke.lst l, x.pv, y.pv] st (.bool true) := by
  have cs := sane_spec
  have lA : (l ++ [lotK]).length = l.length + 1 := by simp
  have cr := right2_spec (l ++ [lotK]) (by omega) x y hx hy
  have gx : x.enc[9]? = some (.int x.lot) := rfl
  clear hx hy
  have kA : Hid (∀ K : PV → Store → Prop, K (.list false (Ke.row (l ++ [lotK])) (l ++ [lotK]).length) st → K (Ke.lst (l ++ [lotK])) st) := ⟨fun K h => h⟩
  cases hR : rightL (l ++ [lotK]) [x, y] with
  | false =>
    rw [hR] at cr
    obtain ⟨A, hA⟩ : ∃ A, A = l ++ [lotK] := ⟨_, rfl⟩
    rw [← hA] at cr
    have kA : Hid _ := ⟨hA⟩
    refine H.podiumlaw21_TiesLots.view hmix rfl rfl ?_
    clear hA lA hR
    repeat' (first 
     | (with_reducible refine Fresh.intro fun b hb => ?_) <;> (try simp -dsimp -implicitDefEqProofs [*] at hb)
     | (with_reducible refine Rets.xcall (cs _) ?_)
     | (with_reducible refine Lit.imm ?_)
     | (simp -dsimp -implicitDefEqProofs [-xappend_list, *]))
    refine xappend_copy (row := Ke.row) Ke.row_len' l rfl rfl (by omega) fun o ho hol => ?_
    have hol : Hid (accL o = l) := ⟨hol⟩
    repeat' (first 
     | (with_reducible refine Lit.imm ?_)
     | (simp -dsimp -implicitDefEqProofs [-xappend_list, *]))
    refine xappend_imm (row := Ke.row) Ke.row_len' Ke.row_append o ho [lotK] rfl rfl (by rw [hol.out]; omega) (fun h => by simp at h) ?_
    rw [hol.out, ← kA.out]
    clear ho hol kA
    repeat' (first 
     | (with_reducible refine Rets.xcall (cr _) ?_)
     | (with_reducible refine Lit.imm ?_)
     | (simp -dsimp -implicitDefEqProofs [*]))
    exact RetView.drop (st' := st) (by repeat' (first | exact StLe.refl _ | (refine StLe_cons (by simp [*]; done) ?_) | (refine StLe_fresh (by simp [*]; done) ?_))) ⟨rfl, rfl⟩
  | true =>
    rw [hR] at cr
    have h := rightL_iff hR
    have h2 := h.left
    have mx : x ∈ [x, y] := by simp
    have my : y ∈ [x, y] := by simp
    have c1 := h.comp mx my
    have c2 := h2.comp mx my
    have ev : lexc (vec (l ++ [lotK]) x) (vec (l ++ [lotK]) y) 0 = if (lexc (vec l x) (vec l y) 0).1 = 0 then lexc [(x.lot : Rat)] [(y.lot : Rat)] (0 + (vec l x).length) else lexc (vec l x) (vec l y) 0 := by
      rw [vec_append, vec_append, List.map_singleton, List.map_singleton, keyV_lot, keyV_lot, lexc_append (by rw [vec_len, vec_len])]
    have l1 := vec_len l x
    have v1 := (lexc_vals (vec l x) (vec l y) 0).2.1
    have el : x.lot ≠ y.lot → lexc [(x.lot : Rat)] [(y.lot : Rat)] (0 + (vec l x).length) = (cmpZ x.lot y.lot, ((l.length + 1 : Nat) : Int)) := fun hne => by
      have hc : cmpZ x.lot y.lot ≠ 0 := by unfold cmpZ; repeat' split <;> omega
      rw [lexc_cons, cmpR_int, if_neg hc, l1, Nat.zero_add]
    have hl32 := h.len
    obtain ⟨d, hd⟩ : ∃ r, r = lexc (vec l x) (vec l y) 0 := ⟨_, rfl⟩
    obtain ⟨c, hc⟩ : ∃ r, r = lexc (vec (l ++ [lotK]) x) (vec (l ++ [lotK]) y) 0 := ⟨_, rfl⟩
    rw [← hd] at c2 ev v1
    rw [← hc] at c1 ev
    obtain ⟨A, hA⟩ : ∃ A, A = l ++ [lotK] := ⟨_, rfl⟩
    rw [← hA] at cr c1 lA
    have kA : Hid _ := ⟨hA⟩
    have kE : Hid (x.lot ≠ y.lot → d.1 = 0 → c = (cmpZ x.lot y.lot, ((l.length + 1 : Nat) : Int))) := ⟨fun h1 h2 => by rw [ev, if_pos h2, el h1]⟩
    have kF : Hid (d.1 ≠ 0 → c = d ∧ d.2 ≠ -1) := ⟨fun h => ⟨by rw [ev, if_neg h], fun e => h (v1.2 e)⟩⟩
    clear hA hR h h2 mx my ev l1 v1 el hd hc
    refine H.podiumlaw21_TiesLots.view hmix rfl rfl ?_
    clear lA
    repeat' (first 
     | (with_reducible refine Fresh.intro fun b hb => ?_) <;> (try simp -dsimp -implicitDefEqProofs [*] at hb)
     | (with_reducible refine Rets.xcall (cs _) ?_)
     | (with_reducible refine Lit.imm ?_)
     | (simp -dsimp -implicitDefEqProofs [-xappend_list, *]))
    refine xappend_copy (row := Ke.row) Ke.row_len' l rfl rfl (by omega) fun o ho hol => ?_
    have hol : Hid (accL o = l) := ⟨hol⟩
    repeat' (first 
     | (with_reducible refine Lit.imm ?_)
     | (simp -dsimp -implicitDefEqProofs [-xappend_list, *]))
    refine xappend_imm (row := Ke.row) Ke.row_len' Ke.row_append o ho [lotK] rfl rfl (by rw [hol.out]; omega) (fun h => by simp at h) ?_
    rw [hol.out, ← kA.out]
    have lA : Hid (A.length = l.length + 1) := ⟨by rw [kA.out]; simp⟩
    clear ho hol kA
    by_cases hlt : x.lot = y.lot
    · clear kE kF
      repeat' (first 
       | (with_reducible refine Rets.xcall (cr _) ?_)
       | (with_reducible refine Lit.imm ?_)
       | (simp -dsimp -implicitDefEqProofs [*]))
      exact RetView.drop (st' := st) (by repeat' (first | exact StLe.refl _ | (refine StLe_cons (by simp [*]; done) ?_) | (refine StLe_fresh (by simp [*]; done) ?_))) ⟨rfl, rfl⟩
    · obtain ⟨d1, d2⟩ := d
      by_cases h0 : d1 = 0
      · have ec := kE.out hlt h0
        subst ec
        subst h0
        clear kE kF
        rcases Int.lt_or_gt_of_ne hlt with h | h
        · have e : cmpZ x.lot y.lot = -1 := by unfold cmpZ; rw [if_pos h]
          rw [e] at c1
          clear e
          repeat' (first 
           | (with_reducible refine Rets.xcall (cr _) ?_)
           | (with_reducible refine Rets.xcall (c1 _) ?_)
           | (with_reducible refine Rets.xcall (c2 _) ?_)
           | (with_reducible refine Lit.imm ?_)
           | (with_reducible refine And.intro (fun h => ?_) (fun h => ?_)) <;> (try (exfalso; omega))
           | (simp -dsimp -implicitDefEqProofs [*]))
          exact RetView.drop (st' := st) (by repeat' (first | exact StLe.refl _ | (refine StLe_cons (by simp [*]; done) ?_) | (refine StLe_fresh (by simp [*]; done) ?_))) ⟨by simp [lA.out], rfl⟩
        · have e : cmpZ x.lot y.lot = 1 := by unfold cmpZ; rw [if_neg (by omega), if_pos h]
          have h' : ¬ x.lot < y.lot := by omega
          rw [e] at c1
          clear e
          repeat' (first 
           | (with_reducible refine Rets.xcall (cr _) ?_)
           | (with_reducible refine Rets.xcall (c1 _) ?_)
           | (with_reducible refine Rets.xcall (c2 _) ?_)
           | (with_reducible refine Lit.imm ?_)
           | (with_reducible refine And.intro (fun h => ?_) (fun h => ?_)) <;> (try (exfalso; omega))
           | (simp -dsimp -implicitDefEqProofs [*]))
          exact RetView.drop (st' := st) (by repeat' (first | exact StLe.refl _ | (refine StLe_cons (by simp [*]; done) ?_) | (refine StLe_fresh (by simp [*]; done) ?_))) ⟨by simp [lA.out], rfl⟩
      · obtain ⟨ec, n2⟩ := kF.out h0
        subst ec
        simp only at n2 c1 c2
        clear kE kF
        repeat' (first 
         | (with_reducible refine Rets.xcall (cr _) ?_)
         | (with_reducible refine Rets.xcall (c1 _) ?_)
         | (with_reducible refine Rets.xcall (c2 _) ?_)
         | (with_reducible refine Lit.imm ?_)
         | (simp -dsimp -implicitDefEqProofs [*]))
        exact RetView.drop (st' := st) (by repeat' (first | exact StLe.refl _ | (refine StLe_cons (by simp [*]; done) ?_) | (refine StLe_fresh (by simp [*]; done) ?_))) ⟨rfl, rfl⟩
theorem Rt.compT {l : List Ke} {L : List Ky} (h : Rt l L) {a d : Ky} (ha : a ∈ L) (hd : d ∈ L) (t : Bool) (st : Store) : Rets P F.ties_Compare [.list t (Ke.row l) l.length, a.pv, d.pv] st (.tuple [.int (lexc (vec l a) (vec l d) 0).1, .int (lexc (vec l a) (vec l d) 0).2, .int 0]) :=
  Rets.args (qs := [Ke.lst l, a.pv, d.pv]) (show PsLe _ _ from ⟨.loose, .refl _, .refl _, trivial⟩) (h.comp ha hd st)
theorem further_law (l m : List Ke) (hl : (l.length + m.length) * 32 ≤ 140737488355328) (x y : Ky) (hx : x.Wide) (hy : y.Wide) (st : Store) : Rets P F.podiumlaw21_TiesFurther [Ke.lst l, Ke.lst m, x.pv, y.pv] st (.bool true) := by
  have cs := sane_spec
  have lA : (l ++ m).length = l.length + m.length := by simp
  have cr : ∀ t st, Rets P F.podiumlaw21_right [.list t (Ke.row (l ++ m)) (l ++ m).length, .list true (row2 x.enc y.enc) 2] st (.bool (rightL (l ++ m) [x, y])) := fun t st =>
    Rets.args (qs := [Ke.lst (l ++ m), .list true (row2 x.enc y.enc) 2]) (show PsLe _ _ from ⟨.loose, .refl _, trivial⟩) (right2_spec (l ++ m) (by omega) x y hx hy st)
  clear hx hy
  cases hR : rightL (l ++ m) [x, y] with
  | false =>
    rw [hR] at cr
    obtain ⟨A, hA⟩ : ∃ A, A = l ++ m := ⟨_, rfl⟩
    rw [← hA] at cr
    have kA : Hid _ := ⟨hA⟩
    refine H.podiumlaw21_TiesFurther.view hmix rfl rfl ?_
    clear hA lA hR
    repeat' (first 
     | (with_reducible refine Fresh.intro fun b hb => ?_) <;> (try simp -dsimp -implicitDefEqProofs [*] at hb)
     | (with_reducible refine Rets.xcall (cs _) ?_)
     | (with_reducible refine Lit.imm ?_)
     | (simp -dsimp -implicitDefEqProofs [-xappend_list, *]))
    refine xappend_copy (row := Ke.row) Ke.row_len' l rfl rfl (by omega) fun o ho hol => ?_
    have hol : Hid (accL o = l) := ⟨hol⟩
    repeat' (simp -dsimp -implicitDefEqProofs [-xappend_list, *])
    refine xappend_immT (row := Ke.row) Ke.row_len' Ke.row_append o ho m rfl rfl (by rw [hol.out]; omega) fun t => ?_
    rw [hol.out, ← kA.out]
    clear ho hol kA
    repeat' (first 
     | (with_reducible refine Rets.xcall (cr _ _) ?_)
     | (with_reducible refine Lit.imm ?_)
     | (simp -dsimp -implicitDefEqProofs [*]))
    exact RetView.drop (st' := st) (by repeat' (first | exact StLe.refl _ | (refine StLe_cons (by simp [*]; done) ?_) | (refine StLe_fresh (by simp [*]; done) ?_))) ⟨rfl, rfl⟩
  | true =>
    rw [hR] at cr
    have h := rightL_iff hR
    have h2 := h.left
    have mx : x ∈ [x, y] := by simp
    have my : y ∈ [x, y] := by simp
    have c1 := h.compT mx my
    have c2 := h2.comp mx my
    have ev : lexc (vec (l ++ m) x) (vec (l ++ m) y) 0 = if (lexc (vec l x) (vec l y) 0).1 = 0 then lexc (m.map fun k => keyV k x) (m.map fun k => keyV k y) (0 + (vec l x).length) else lexc (vec l x) (vec l y) 0 := by
      rw [vec_append, vec_append, lexc_append (by rw [vec_len, vec_len])]
    have l1 := vec_len l x
    have v1 := lexc_vals (vec l x) (vec l y) 0
    have v2 := lexc_vals (m.map fun k => keyV k x) (m.map fun k => keyV k y) (0 + (vec l x).length)
    rw [l1] at v1 v2 ev
    have kT : Hid (∀ j : Nat, (lexc (vec l x) (vec l y) 0).1 ≠ 0 → (lexc (vec l x) (vec l y) 0).2 = j → j ≤ l.length → ∀ st, Rets P F.ties_Compare [.list false ((Ke.row l).take (j * 3)) j, x.pv, y.pv] st (.tuple [.int (lexc (vec l x) (vec l y) 0).1, .int j, .int 0])) := ⟨fun j h1 h3 h4 st => by
      have hL : Rt (l.take j) [x, y] := by
        have : l.take j ++ l.drop j = l := List.take_append_drop j l
        exact Rt.left (m := l.drop j) (by rw [this]; exact h2)
      have := hL.comp mx my st
      have e1 : lexc (vec (l.take j) x) (vec (l.take j) y) 0 = ((lexc (vec l x) (vec l y) 0).1, (j : Int)) := by
        have e2 := lexc_take (l := vec l x) (m := vec l y) (i := 0) (c := (lexc (vec l x) (vec l y) 0).1) (k := (lexc (vec l x) (vec l y) 0).2) rfl h1
        rw [h3] at e2
        have e3 : ((j : Int) - ((0 : Nat) : Int)).toNat = j := by omega
        rw [e3, vec_take, vec_take] at e2
        exact e2
      rw [e1] at this
      have e4 : (Ke.row l).take (j * 3) = Ke.row (l.take j) := flat_take Ke.enc 3 Ke.len l j
      have e5 : (l.take j).length = j := by simp [h4]
      rw [e4]
      have e6 : Ke.lst (l.take j) = .list false (Ke.row (l.take j)) j := by rw [Ke.lst, e5]
      rw [← e6]
      exact this⟩
    obtain ⟨c, hc⟩ : ∃ r, r = lexc (vec l x) (vec l y) 0 := ⟨_, rfl⟩
    obtain ⟨d, hd⟩ : ∃ r, r = lexc (vec (l ++ m) x) (vec (l ++ m) y) 0 := ⟨_, rfl⟩
    obtain ⟨r, hr⟩ : ∃ r, r = lexc (m.map fun k => keyV k x) (m.map fun k => keyV k y) (0 + (l.length + 1)) := ⟨_, rfl⟩
    rw [← hc] at c2 v1 ev kT
    rw [← hd] at c1 ev
    rw [← hr] at ev v2
    obtain ⟨A, hA⟩ : ∃ A, A = l ++ m := ⟨_, rfl⟩
    rw [← hA] at cr c1 lA
    have kA : Hid _ := ⟨hA⟩
    have kV : Hid _ := ⟨ev⟩
    have kW : Hid _ := ⟨And.intro v1 v2⟩
    clear hA hR h h2 mx my ev l1 v1 v2 hd hc hr lA
    refine H.podiumlaw21_TiesFurther.view hmix rfl rfl ?_
    repeat' (first 
     | (with_reducible refine Fresh.intro fun b hb => ?_) <;> (try simp -dsimp -implicitDefEqProofs [*] at hb)
     | (with_reducible refine Rets.xcall (cs _) ?_)
     | (with_reducible refine Lit.imm ?_)
     | (simp -dsimp -implicitDefEqProofs [-xappend_list, *]))
    refine xappend_copy (row := Ke.row) Ke.row_len' l rfl rfl (by omega) fun o ho hol => ?_
    have hol : Hid (accL o = l) := ⟨hol⟩
    repeat' (simp -dsimp -implicitDefEqProofs [-xappend_list, *])
    refine xappend_immT (row := Ke.row) Ke.row_len' Ke.row_append o ho m rfl rfl (by rw [hol.out]; omega) fun t => ?_
    rw [hol.out, ← kA.out]
    clear ho hol kA
    obtain ⟨c1', c2'⟩ := c
    obtain ⟨d1, d2⟩ := d
    have v1 := kW.out.1
    have v2 := kW.out.2
    have ev := kV.out
    simp only at v1 v2 ev c1 c2
    clear kV kW
    by_cases h0 : c1' = 0
    · rw [if_pos h0] at ev
      have q1 : c1' = 0 → True := fun _ => trivial
      have q2 : d1 = r.1 := by rw [← ev]
      have q3 : d2 = r.2 := by rw [← ev]
      rw [← q2, ← q3] at v2
      clear ev q1 q2 q3 kT v1
      subst h0
      obtain ⟨-, u2, -, -, u5⟩ := v2
      by_cases hd0 : d1 = 0
      · have e := u2.1 hd0
        subst hd0; subst e
        clear u2 u5
        repeat' (first 
         | (with_reducible refine Rets.xcall (cr _ _) ?_)
         | (with_reducible refine Rets.xcall (c1 _ _) ?_)
         | (with_reducible refine Rets.xcall (c2 _) ?_)
         | (with_reducible refine Lit.imm ?_)
         | (simp -dsimp -implicitDefEqProofs [*]))
        exact RetView.drop (st' := st) (by repeat' (first | exact StLe.refl _ | (refine StLe_cons (by simp [*]; done) ?_) | (refine StLe_fresh (by simp [*]; done) ?_))) ⟨rfl, rfl⟩
      · have n1 : ¬ d2 = -1 := fun e => hd0 (u2.2 e)
        have n2 : (l.length : Int) < d2 := by omega
        clear u2 u5
        repeat' (first 
         | (with_reducible refine Rets.xcall (cr _ _) ?_)
         | (with_reducible refine Rets.xcall (c1 _ _) ?_)
         | (with_reducible refine Rets.xcall (c2 _) ?_)
         | (with_reducible refine Lit.imm ?_)
         | (simp -dsimp -implicitDefEqProofs [*]))
        exact RetView.drop (st' := st) (by repeat' (first | exact StLe.refl _ | (refine StLe_cons (by simp [*]; done) ?_) | (refine StLe_fresh (by simp [*]; done) ?_))) ⟨rfl, rfl⟩
    · rw [if_neg h0] at ev
      simp only [Prod.mk.injEq] at ev
      obtain ⟨rfl, rfl⟩ := ev
      obtain ⟨-, u2, u3, u4, -⟩ := v1
      have n1 : ¬ d2 = -1 := fun e => h0 (u2.2 e)
      obtain ⟨j, rfl⟩ : ∃ j : Nat, d2 = j := ⟨d2.toNat, by omega⟩
      have hj : j ≤ l.length := by omega
      have cT := kT.out j h0 rfl hj
      have n2 : ¬ (l.length : Int) < j := by omega
      have n3 : (j : Int) ≤ l.length := by omega
      clear u2 u3 u4 kT v2 n1
      simp only at cT
      repeat' (first 
       | (with_reducible refine Rets.xcall (cr _ _) ?_)
       | (with_reducible refine Rets.xcall (c1 _ _) ?_)
       | (with_reducible refine Rets.xcall (c2 _) ?_)
       | (with_reducible refine Rets.xcall (cT _) ?_)
       | (with_reducible refine Lit.imm ?_)
       | (with_reducible refine DrawLate.intro [] ?_)
       | (with_reducible refine And.intro (fun h => ?_) ?_) <;> (try (exfalso; omega))
       | (simp -dsimp -implicitDefEqProofs [*]))
      exact RetView.drop (st' := st) (by repeat' (first | exact StLe.refl _ | (refine StLe_cons (by simp [*]; done) ?_) | (refine StLe_fresh (by simp [*]; done) ?_))) ⟨rfl, rfl⟩
end Go.Proofs.Ytliglilanpfjhaa
