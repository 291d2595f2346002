/- The compact code of this seat's functions (printed by a program of ours out of the translation; each is checked against the loaded program). -/
import Derived.Test.YtbjfmedpaohpnaaProg
import Derived.Test.YtbjfmedpaohpnaaLEv
set_option maxRecDepth 100000
namespace Go.Proofs.Ytbjfmedpaohpnaa
open Go.Pv

noncomputable abbrev P : Program := Try.prog
theorem hmix : P.follows .mixedOrders = true := by kernel_rfl

namespace T
abbrev t : Nat := 0
abbrev func : Nat := 1
abbrev int64 : Nat := 2
abbrev int : Nat := 3
abbrev bool : Nat := 4
abbrev uint8 : Nat := 5
abbrev internalabiBoundsErrorCode : Nat := 6
abbrev structxint64yintsignedboolcodeabiBoundsErrorCode : Nat := 7
abbrev runtimeboundsError : Nat := 8
abbrev string : Nat := 9
abbrev runtimeerrorString : Nat := 10
abbrev runtimeplainError : Nat := 11
abbrev uintptr : Nat := 12
abbrev structmsgstringaddruintptr : Nat := 13
abbrev runtimeerrorAddressString : Nat := 14
abbrev runtimeTypeAssertionError : Nat := 15
abbrev runtimePanicNilError : Nat := 16
abbrev abiType : Nat := 17
abbrev structtypabiType : Nat := 18
abbrev internalruntimemapsunhashableTypeError : Nat := 19
abbrev interface : Nat := 20
abbrev int32 : Nat := 21
abbrev LapiReview : Nat := 22
abbrev funcbool : Nat := 23
abbrev funcLapiReviewbool : Nat := 24
abbrev apiErrno : Nat := 25
abbrev LapiReviewapiErrno : Nat := 26
abbrev funcLapiReviewintLapiReviewapiErrno : Nat := 27
abbrev funcLapiReviewapiErrno : Nat := 28
abbrev funcLapiReviewLapiReviewbool : Nat := 29
abbrev funcLapiReviewintbool : Nat := 30
abbrev funcLapiReviewintintintLapiReviewapiErrno : Nat := 31
abbrev funcLapiReviewintintintintbool : Nat := 32
abbrev Lpodiumlaw44Step : Nat := 33
abbrev Lint : Nat := 34
abbrev mapintapiReview : Nat := 35
abbrev structNointFindingintTimeintVerdictint : Nat := 36
abbrev podiumlaw44Step : Nat := 37
abbrev structNointFindingintOpenedintClosedintVerdictint : Nat := 38
abbrev apiReview : Nat := 39
abbrev apiReviewbool : Nat := 40
abbrev boolbool : Nat := 41
abbrev funcLapiReviewintintboolbool : Nat := 42
abbrev funcLpodiumlaw44StepLintbool : Nat := 43
abbrev funcLapiReviewintint : Nat := 44
abbrev funcLapiReviewpodiumlaw44Stepintbool : Nat := 45
abbrev funcLapiReviewpodiumlaw44Steppodiumlaw44Stepbool : Nat := 46
abbrev funcintintbool : Nat := 47
abbrev funciterSeqapiReviewLapiReview : Nat := 48
abbrev funcfuncapiReviewbool : Nat := 49
abbrev iterSeqapiReview : Nat := 50
abbrev funcLapiReviewintiterSeqapiReview : Nat := 51
abbrev funcintbool : Nat := 52
abbrev funcapiReviewintbool : Nat := 53
abbrev funcapiReviewbool : Nat := 54
abbrev intbool : Nat := 55
abbrev funcLapiReviewintfuncapiReviewintintbool : Nat := 56
abbrev funcapiReviewint : Nat := 57
abbrev funcLapiReviewintapiReviewLapiReview : Nat := 58
abbrev funcLapiReviewLapiReview : Nat := 59
abbrev funcLapiReviewiterSeqapiReviewLapiReview : Nat := 60
abbrev funcboolbool : Nat := 61
abbrev funcLapiReviewintfuncapiReviewintintintbool : Nat := 62
abbrev funcintintint : Nat := 63
abbrev funcapiReviewintint : Nat := 64
abbrev funcLapiReviewint : Nat := 65
abbrev Lbool : Nat := 66
abbrev funcLboolboolbool : Nat := 67
abbrev uint : Nat := 68
abbrev funcLboolboolint : Nat := 69
abbrev funcLapiReview : Nat := 70
abbrev funcstring : Nat := 71
abbrev structinterfaceabiTypeconcreteabiTypeassertedabiTypemissingMethodstring : Nat := 72
abbrev runtimeTypeAssertionError_2 : Nat := 73
abbrev t0runtimePanicNilError : Nat := 74
abbrev struct0runtimePanicNilError : Nat := 75
abbrev runtimePanicNilError_2 : Nat := 76
abbrev funcint : Nat := 77
abbrev uint32 : Nat := 78
abbrev internalabiTFlag : Nat := 79
abbrev internalabiKind : Nat := 80
abbrev funcunsafePointerunsafePointerbool : Nat := 81
abbrev uint8_2 : Nat := 82
abbrev internalabiNameOff : Nat := 83
abbrev internalabiTypeOff : Nat := 84
abbrev structSizeuintptrPtrBytesuintptrHashuint32TFlagabiTFlagAlignuint8FieldAlignuint8KindabiKindEqualfuncunsafePointerunsafePointerboolGCDatauint8StrabiNameOffPtrToThisabiTypeOff : Nat := 85
abbrev internalabiType : Nat := 86
abbrev unsafePointer : Nat := 87
end T
namespace F
abbrev podiumlaw44_ReviewsSpec : Nat := 3
abbrev podiumlaw44_ReviewsDoSpec : Nat := 4
abbrev podiumlaw44_ReviewsOnce : Nat := 5
abbrev podiumlaw44_ReviewsApart : Nat := 6
abbrev podiumlaw44_ReviewsOrder : Nat := 7
abbrev podiumlaw44_sane : Nat := 8
abbrev podiumref44_Few : Nat := 9
abbrev reviews_Standing : Nat := 10
abbrev podiumref44_Standing : Nat := 11
abbrev reviews_Check : Nat := 12
abbrev podiumref44_Check : Nat := 13
abbrev podiumref44_Same : Nat := 14
abbrev reviews_Open : Nat := 15
abbrev podiumref44_Open : Nat := 16
abbrev reviews_Close : Nat := 17
abbrev podiumref44_Close : Nat := 18
abbrev podiumlaw44_stands : Nat := 19
abbrev podiumref44_Index : Nat := 20
abbrev reviews_within : Nat := 21
abbrev slices_Collect__apiReview : Nat := 22
abbrev reviews_standing : Nat := 23
abbrev podiumref44_moment : Nat := 24
abbrev podiumref44_Stands : Nat := 25
abbrev reviews_valid : Nat := 26
abbrev podiumref44_Valid : Nat := 27
abbrev reviews_place__apiReview_int : Nat := 28
abbrev reviews_number : Nat := 29
abbrev slices_Insert__LapiReview_apiReview : Nat := 30
abbrev slices_Clone__LapiReview_apiReview : Nat := 31
abbrev podiumref44_id : Nat := 32
abbrev slices_AppendSeq__LapiReview_apiReview : Nat := 33
abbrev reviews_standing_1 : Nat := 34
abbrev reviews_all : Nat := 35
abbrev slices_BinarySearchFunc__LapiReview_apiReview_int : Nat := 36
abbrev reviews_place__apiReview_int_1 : Nat := 37
abbrev cmp_Compare__int : Nat := 38
abbrev slices_overlaps__apiReview : Nat := 39
abbrev slices_rotateRight__apiReview : Nat := 40
abbrev slices_Contains__Lbool_bool : Nat := 41
abbrev cmp_isNaN__int : Nat := 42
abbrev slices_rotateLeft__apiReview : Nat := 43
abbrev slices_Index__Lbool_bool : Nat := 44
abbrev slices_Reverse__LapiReview_apiReview : Nat := 45
end F

/-- podium/podiumlaw44.ReviewsSpec -/
noncomputable def C.podiumlaw44_ReviewsSpec : MFunc := ⟨41, 2, [.tmp 4],
  (.seq (.region [
    ⟨(some 4), none, .val (.mv (.const (.bool false)))⟩] [])
  (.seq (.seq (.region [
    ⟨(some 9), none, .call (.const (.func (.func F.podiumlaw44_sane) [] [])) []⟩,
    ⟨(some 10), none, .val (.un .not (.tmp 9))⟩] [9])
  (.cond (.tmp 10)
  (.seq (.region [
    ⟨(some 4), none, .val (.mv (.const (.bool false)))⟩] [])
  .ret)
  .skip))
  (.seq (.seq (.region [
    ⟨(some 11), none, .val (.mv (.tmp 0))⟩,
    ⟨(some 12), none, .call (.const (.func (.func F.podiumref44_Few) [] [])) [(.tmp 11)]⟩,
    ⟨(some 13), none, .val (.un .not (.tmp 12))⟩] [11, 12])
  (.cond (.tmp 13)
  (.seq (.region [
    ⟨(some 4), none, .val (.mv (.const (.bool true)))⟩] [])
  .ret)
  .skip))
  (.seq (.region [
    ⟨(some 15), none, .val (.mv (.tmp 0))⟩,
    ⟨(some 16), none, .val (.mv (.tmp 1))⟩,
    ⟨(some 17), none, .call (.const (.func (.func F.reviews_Standing) [] [])) [(.tmp 15), (.tmp 16)]⟩,
    ⟨(some 14), none, .val (.mv (.tmp 17))⟩,
    ⟨(some 18), none, .val (.extract 0 (.tmp 14))⟩,
    ⟨(some 19), none, .val (.extract 1 (.tmp 14))⟩,
    ⟨(some 5), none, .val (.mv (.tmp 18))⟩,
    ⟨(some 6), none, .val (.mv (.tmp 19))⟩] [15, 16, 17, 14, 18, 19])
  (.seq (.region [
    ⟨(some 21), none, .val (.mv (.tmp 0))⟩,
    ⟨(some 22), none, .val (.mv (.tmp 1))⟩,
    ⟨(some 23), none, .call (.const (.func (.func F.podiumref44_Standing) [] [])) [(.tmp 21), (.tmp 22)]⟩,
    ⟨(some 20), none, .val (.mv (.tmp 23))⟩,
    ⟨(some 24), none, .val (.extract 0 (.tmp 20))⟩,
    ⟨(some 25), none, .val (.extract 1 (.tmp 20))⟩,
    ⟨(some 7), none, .val (.mv (.tmp 24))⟩,
    ⟨(some 8), none, .val (.mv (.tmp 25))⟩] [21, 22, 23, 20, 24, 25])
  (.seq (.region [
    ⟨(some 26), none, .val (.mv (.tmp 0))⟩,
    ⟨(some 27), none, .call (.const (.func (.func F.reviews_Check) [] [])) [(.tmp 26)]⟩,
    ⟨(some 28), none, .val (.mv (.tmp 0))⟩,
    ⟨(some 29), none, .call (.const (.func (.func F.podiumref44_Check) [] [])) [(.tmp 28)]⟩,
    ⟨(some 30), none, .val (.bin .eql T.apiErrno (.tmp 27) (.tmp 29))⟩,
    ⟨(some 31), none, .val (.mv (.tmp 30))⟩,
    ⟨(some 32), (some (31, true)), .val (.mv (.tmp 5))⟩,
    ⟨(some 33), (some (31, true)), .val (.mv (.tmp 7))⟩,
    ⟨(some 34), (some (31, true)), .call (.const (.func (.func F.podiumref44_Same) [] [])) [(.tmp 32), (.tmp 33)]⟩,
    ⟨(some 35), none, .val (.pick (.tmp 31) (.tmp 34) (.const (.bool false)))⟩,
    ⟨(some 36), none, .val (.mv (.tmp 35))⟩,
    ⟨(some 37), (some (36, true)), .val (.mv (.tmp 6))⟩,
    ⟨(some 38), (some (36, true)), .val (.mv (.tmp 8))⟩,
    ⟨(some 39), (some (36, true)), .val (.bin .eql T.apiErrno (.tmp 37) (.tmp 38))⟩,
    ⟨(some 40), none, .val (.pick (.tmp 36) (.tmp 39) (.const (.bool false)))⟩,
    ⟨(some 4), none, .val (.mv (.tmp 40))⟩] [26, 27, 28, 29, 30, 31, 32, 33, 34, 35, 36, 37, 38, 39, 40])
  .ret))))))⟩
theorem H.podiumlaw44_ReviewsSpec : Has P F.podiumlaw44_ReviewsSpec C.podiumlaw44_ReviewsSpec := ⟨Try.f3, Try.func3, by kernel_rfl, by kernel_rfl⟩

/-- podium/podiumlaw44.ReviewsDoSpec -/
noncomputable def C.podiumlaw44_ReviewsDoSpec : MFunc := ⟨74, 5, [.tmp 10],
  (.seq (.region [
    ⟨(some 10), none, .val (.mv (.const (.bool false)))⟩] [])
  (.seq (.seq (.region [
    ⟨(some 19), none, .call (.const (.func (.func F.podiumlaw44_sane) [] [])) []⟩,
    ⟨(some 20), none, .val (.un .not (.tmp 19))⟩] [19])
  (.cond (.tmp 20)
  (.seq (.region [
    ⟨(some 10), none, .val (.mv (.const (.bool false)))⟩] [])
  .ret)
  .skip))
  (.seq (.seq (.region [
    ⟨(some 21), none, .val (.mv (.tmp 0))⟩,
    ⟨(some 22), none, .call (.const (.func (.func F.podiumref44_Few) [] [])) [(.tmp 21)]⟩,
    ⟨(some 23), none, .val (.un .not (.tmp 22))⟩] [21, 22])
  (.cond (.tmp 23)
  (.seq (.region [
    ⟨(some 10), none, .val (.mv (.const (.bool true)))⟩] [])
  .ret)
  .skip))
  (.seq (.region [
    ⟨(some 25), none, .val (.mv (.tmp 0))⟩,
    ⟨(some 26), none, .val (.mv (.tmp 1))⟩,
    ⟨(some 27), none, .val (.mv (.tmp 2))⟩,
    ⟨(some 28), none, .val (.mv (.tmp 3))⟩,
    ⟨(some 29), none, .call (.const (.func (.func F.reviews_Open) [] [])) [(.tmp 25), (.tmp 26), (.tmp 27), (.tmp 28)]⟩,
    ⟨(some 24), none, .val (.mv (.tmp 29))⟩,
    ⟨(some 30), none, .val (.extract 0 (.tmp 24))⟩,
    ⟨(some 31), none, .val (.extract 1 (.tmp 24))⟩,
    ⟨(some 11), none, .val (.mv (.tmp 30))⟩,
    ⟨(some 12), none, .val (.mv (.tmp 31))⟩] [25, 26, 27, 28, 29, 24, 30, 31])
  (.seq (.region [
    ⟨(some 33), none, .val (.mv (.tmp 0))⟩,
    ⟨(some 34), none, .val (.mv (.tmp 1))⟩,
    ⟨(some 35), none, .val (.mv (.tmp 2))⟩,
    ⟨(some 36), none, .val (.mv (.tmp 3))⟩,
    ⟨(some 37), none, .call (.const (.func (.func F.podiumref44_Open) [] [])) [(.tmp 33), (.tmp 34), (.tmp 35), (.tmp 36)]⟩,
    ⟨(some 32), none, .val (.mv (.tmp 37))⟩,
    ⟨(some 38), none, .val (.extract 0 (.tmp 32))⟩,
    ⟨(some 39), none, .val (.extract 1 (.tmp 32))⟩,
    ⟨(some 13), none, .val (.mv (.tmp 38))⟩,
    ⟨(some 14), none, .val (.mv (.tmp 39))⟩] [33, 34, 35, 36, 37, 32, 38, 39])
  (.seq (.region [
    ⟨(some 41), none, .val (.mv (.tmp 0))⟩,
    ⟨(some 42), none, .val (.mv (.tmp 1))⟩,
    ⟨(some 43), none, .val (.mv (.tmp 3))⟩,
    ⟨(some 44), none, .val (.mv (.tmp 4))⟩,
    ⟨(some 45), none, .call (.const (.func (.func F.reviews_Close) [] [])) [(.tmp 41), (.tmp 42), (.tmp 43), (.tmp 44)]⟩,
    ⟨(some 40), none, .val (.mv (.tmp 45))⟩,
    ⟨(some 46), none, .val (.extract 0 (.tmp 40))⟩,
    ⟨(some 47), none, .val (.extract 1 (.tmp 40))⟩,
    ⟨(some 15), none, .val (.mv (.tmp 46))⟩,
    ⟨(some 16), none, .val (.mv (.tmp 47))⟩] [41, 42, 43, 44, 45, 40, 46, 47])
  (.seq (.region [
    ⟨(some 49), none, .val (.mv (.tmp 0))⟩,
    ⟨(some 50), none, .val (.mv (.tmp 1))⟩,
    ⟨(some 51), none, .val (.mv (.tmp 3))⟩,
    ⟨(some 52), none, .val (.mv (.tmp 4))⟩,
    ⟨(some 53), none, .call (.const (.func (.func F.podiumref44_Close) [] [])) [(.tmp 49), (.tmp 50), (.tmp 51), (.tmp 52)]⟩,
    ⟨(some 48), none, .val (.mv (.tmp 53))⟩,
    ⟨(some 54), none, .val (.extract 0 (.tmp 48))⟩,
    ⟨(some 55), none, .val (.extract 1 (.tmp 48))⟩,
    ⟨(some 17), none, .val (.mv (.tmp 54))⟩,
    ⟨(some 18), none, .val (.mv (.tmp 55))⟩] [49, 50, 51, 52, 53, 48, 54, 55])
  (.seq (.region [
    ⟨(some 56), none, .val (.mv (.tmp 11))⟩,
    ⟨(some 57), none, .val (.mv (.tmp 13))⟩,
    ⟨(some 58), none, .call (.const (.func (.func F.podiumref44_Same) [] [])) [(.tmp 56), (.tmp 57)]⟩,
    ⟨(some 59), none, .val (.mv (.tmp 58))⟩,
    ⟨(some 60), (some (59, true)), .val (.mv (.tmp 12))⟩,
    ⟨(some 61), (some (59, true)), .val (.mv (.tmp 14))⟩,
    ⟨(some 62), (some (59, true)), .val (.bin .eql T.apiErrno (.tmp 60) (.tmp 61))⟩,
    ⟨(some 63), none, .val (.pick (.tmp 59) (.tmp 62) (.const (.bool false)))⟩,
    ⟨(some 64), none, .val (.mv (.tmp 63))⟩,
    ⟨(some 65), (some (64, true)), .val (.mv (.tmp 15))⟩,
    ⟨(some 66), (some (64, true)), .val (.mv (.tmp 17))⟩,
    ⟨(some 67), (some (64, true)), .call (.const (.func (.func F.podiumref44_Same) [] [])) [(.tmp 65), (.tmp 66)]⟩,
    ⟨(some 68), none, .val (.pick (.tmp 64) (.tmp 67) (.const (.bool false)))⟩,
    ⟨(some 69), none, .val (.mv (.tmp 68))⟩,
    ⟨(some 70), (some (69, true)), .val (.mv (.tmp 16))⟩,
    ⟨(some 71), (some (69, true)), .val (.mv (.tmp 18))⟩,
    ⟨(some 72), (some (69, true)), .val (.bin .eql T.apiErrno (.tmp 70) (.tmp 71))⟩,
    ⟨(some 73), none, .val (.pick (.tmp 69) (.tmp 72) (.const (.bool false)))⟩,
    ⟨(some 10), none, .val (.mv (.tmp 73))⟩] [56, 57, 58, 59, 60, 61, 62, 63, 64, 65, 66, 67, 68, 69, 70, 71, 72, 73])
  .ret))))))))⟩
theorem H.podiumlaw44_ReviewsDoSpec : Has P F.podiumlaw44_ReviewsDoSpec C.podiumlaw44_ReviewsDoSpec := ⟨Try.f4, Try.func4, by kernel_rfl, by kernel_rfl⟩

/-- podium/podiumlaw44.ReviewsOnce -/
noncomputable def C.podiumlaw44_ReviewsOnce : MFunc := ⟨206, 2, [.tmp 4],
  (.seq (.region [
    ⟨(some 4), none, .val (.mv (.const (.bool false)))⟩] [])
  (.seq (.seq (.region [
    ⟨(some 20), none, .call (.const (.func (.func F.podiumlaw44_sane) [] [])) []⟩,
    ⟨(some 21), none, .val (.un .not (.tmp 20))⟩] [20])
  (.cond (.tmp 21)
  (.seq (.region [
    ⟨(some 4), none, .val (.mv (.const (.bool false)))⟩] [])
  .ret)
  .skip))
  (.seq (.seq (.region [
    ⟨(some 22), none, .val (.mv (.tmp 0))⟩,
    ⟨(some 23), none, .val (.len (.tmp 22))⟩,
    ⟨(some 24), none, .val (.bin .gtr T.int (.tmp 23) (.const (.int 20)))⟩,
    ⟨(some 25), none, .val (.mv (.tmp 24))⟩,
    ⟨(some 26), (some (25, false)), .val (.mv (.tmp 1))⟩,
    ⟨(some 27), (some (25, false)), .val (.len (.tmp 26))⟩,
    ⟨(some 28), (some (25, false)), .val (.bin .gtr T.int (.tmp 27) (.const (.int 5)))⟩,
    ⟨(some 29), none, .val (.pick (.tmp 25) (.const (.bool true)) (.tmp 28))⟩] [22, 23, 24, 25, 26, 27, 28])
  (.cond (.tmp 29)
  (.seq (.region [
    ⟨(some 4), none, .val (.mv (.const (.bool true)))⟩] [])
  .ret)
  .skip))
  (.seq (.region [
    ⟨(some 5), none, .val (.mv (.const .nil))⟩] [])
  (.seq (.region [
    ⟨(some 30), none, .mkMap⟩,
    ⟨(some 6), none, .val (.mv (.tmp 30))⟩] [30])
  (.seq (.seq (.region [
    ⟨(some 31), none, .val (.mv (.tmp 0))⟩,
    ⟨(some 32), none, .val (.len (.tmp 31))⟩,
    ⟨(some 33), none, .val (.mv (.const (.int 0)))⟩] [])
  (.block 0 (.loop (.seq (.region [
    ⟨(some 34), none, .val (.bin .lss T.int (.tmp 33) (.tmp 32))⟩] [])
  (.seq (.cond (.tmp 34)
  .skip
  (.exit 0))
  (.seq (.block 1 (.seq (.region [
    ⟨(some 35), none, .val (.indexAddr 4 (.tmp 31) (.tmp 33))⟩,
    ⟨(some 36), none, .val (.load 4 true (.tmp 35))⟩,
    ⟨(some 8), none, .alloc T.podiumlaw44Step [(.int 0), (.int 0), (.int 0), (.int 0)]⟩,
    ⟨none, none, .store 4 (.tmp 8) (.tmp 36)⟩] [35, 36])
  (.seq (.region [
    ⟨(some 38), none, .val (.mv (.tmp 6))⟩,
    ⟨(some 39), none, .val (.fieldAddr 0 (.tmp 8))⟩,
    ⟨(some 40), none, .val (.load 1 false (.tmp 39))⟩,
    ⟨(some 41), none, .val (.lookup (false, [.int]) (.agg [(.int 0), (.int 0), (.int 0), (.int 0), (.int 0)]) true (.tmp 38) (.tmp 40))⟩,
    ⟨(some 37), none, .val (.mv (.tmp 41))⟩,
    ⟨(some 42), none, .val (.extract 0 (.tmp 37))⟩,
    ⟨(some 43), none, .val (.extract 1 (.tmp 37))⟩,
    ⟨(some 9), none, .alloc T.apiReview [(.int 0), (.int 0), (.int 0), (.int 0), (.int 0)]⟩,
    ⟨none, none, .store 5 (.tmp 9) (.tmp 42)⟩,
    ⟨(some 10), none, .val (.mv (.tmp 43))⟩] [38, 39, 40, 41, 37, 42, 43])
  (.seq (.region [
    ⟨(some 11), none, .val (.mv (.const .nil))⟩] [])
  (.seq (.region [
    ⟨(some 12), none, .val (.mv (.const (.int 0)))⟩] [])
  (.seq (.seq (.region [
    ⟨(some 44), none, .val (.fieldAddr 3 (.tmp 8))⟩,
    ⟨(some 45), none, .val (.load 1 false (.tmp 44))⟩,
    ⟨(some 46), none, .val (.bin .eql T.int (.tmp 45) (.const (.int 0)))⟩] [44, 45])
  (.cond (.tmp 46)
  (.seq (.region [
    ⟨(some 48), none, .val (.mv (.tmp 5))⟩,
    ⟨(some 49), none, .val (.fieldAddr 0 (.tmp 8))⟩,
    ⟨(some 50), none, .val (.load 1 false (.tmp 49))⟩,
    ⟨(some 51), none, .val (.fieldAddr 1 (.tmp 8))⟩,
    ⟨(some 52), none, .val (.load 1 false (.tmp 51))⟩,
    ⟨(some 53), none, .val (.fieldAddr 2 (.tmp 8))⟩,
    ⟨(some 54), none, .val (.load 1 false (.tmp 53))⟩,
    ⟨(some 55), none, .call (.const (.func (.func F.reviews_Open) [] [])) [(.tmp 48), (.tmp 50), (.tmp 52), (.tmp 54)]⟩,
    ⟨(some 47), none, .val (.mv (.tmp 55))⟩,
    ⟨(some 56), none, .val (.extract 0 (.tmp 47))⟩,
    ⟨(some 57), none, .val (.extract 1 (.tmp 47))⟩,
    ⟨(some 11), none, .val (.mv (.tmp 56))⟩,
    ⟨(some 12), none, .val (.mv (.tmp 57))⟩] [48, 49, 50, 51, 52, 53, 54, 55, 47, 56, 57])
  (.seq (.region [
    ⟨(some 58), none, .val (.mv (.tmp 12))⟩,
    ⟨(some 59), none, .val (.bin .eql T.apiErrno (.tmp 58) (.const (.int 0)))⟩] [58])
  (.cond (.tmp 59)
  (.seq (.seq (.region [
    ⟨(some 60), none, .val (.mv (.tmp 10))⟩] [])
  (.cond (.tmp 60)
  (.seq (.region [
    ⟨(some 4), none, .val (.mv (.const (.bool false)))⟩] [])
  .ret)
  .skip))
  (.region [
    ⟨(some 61), none, .val (.mv (.tmp 6))⟩,
    ⟨(some 62), none, .val (.fieldAddr 0 (.tmp 8))⟩,
    ⟨(some 63), none, .val (.load 1 false (.tmp 62))⟩,
    ⟨(some 64), none, .val (.fieldAddr 0 (.tmp 8))⟩,
    ⟨(some 65), none, .val (.load 1 false (.tmp 64))⟩,
    ⟨(some 66), none, .val (.fieldAddr 1 (.tmp 8))⟩,
    ⟨(some 67), none, .val (.load 1 false (.tmp 66))⟩,
    ⟨(some 68), none, .val (.fieldAddr 2 (.tmp 8))⟩,
    ⟨(some 69), none, .val (.load 1 false (.tmp 68))⟩,
    ⟨(some 70), none, .val (.build [(.int 0), (.int 0), (.int 0), (.int 0), (.int 0)] [(0, 1, (.tmp 65)), (1, 1, (.tmp 67)), (2, 1, (.tmp 69)), (3, 1, (.const (.int (-1))))])⟩,
    ⟨none, none, .mapSet (false, [.int]) (.tmp 61) (.tmp 63) (.tmp 70)⟩] [61, 62, 63, 64, 65, 66, 67, 68, 69, 70]))
  .skip)))
  (.seq (.region [
    ⟨(some 72), none, .val (.mv (.tmp 5))⟩,
    ⟨(some 73), none, .val (.fieldAddr 0 (.tmp 8))⟩,
    ⟨(some 74), none, .val (.load 1 false (.tmp 73))⟩,
    ⟨(some 75), none, .val (.fieldAddr 2 (.tmp 8))⟩,
    ⟨(some 76), none, .val (.load 1 false (.tmp 75))⟩,
    ⟨(some 77), none, .val (.fieldAddr 3 (.tmp 8))⟩,
    ⟨(some 78), none, .val (.load 1 false (.tmp 77))⟩,
    ⟨(some 79), none, .call (.const (.func (.func F.reviews_Close) [] [])) [(.tmp 72), (.tmp 74), (.tmp 76), (.tmp 78)]⟩,
    ⟨(some 71), none, .val (.mv (.tmp 79))⟩,
    ⟨(some 80), none, .val (.extract 0 (.tmp 71))⟩,
    ⟨(some 81), none, .val (.extract 1 (.tmp 71))⟩,
    ⟨(some 11), none, .val (.mv (.tmp 80))⟩,
    ⟨(some 12), none, .val (.mv (.tmp 81))⟩] [72, 73, 74, 75, 76, 77, 78, 79, 71, 80, 81])
  (.seq (.region [
    ⟨(some 82), none, .val (.mv (.tmp 12))⟩,
    ⟨(some 83), none, .val (.bin .eql T.apiErrno (.tmp 82) (.const (.int 0)))⟩] [82])
  (.cond (.tmp 83)
  (.seq (.seq (.region [
    ⟨(some 84), none, .val (.mv (.tmp 10))⟩,
    ⟨(some 85), none, .val (.un .not (.tmp 84))⟩,
    ⟨(some 86), none, .val (.mv (.tmp 85))⟩,
    ⟨(some 87), (some (86, false)), .val (.fieldAddr 3 (.tmp 9))⟩,
    ⟨(some 88), (some (86, false)), .val (.load 1 false (.tmp 87))⟩,
    ⟨(some 89), (some (86, false)), .val (.bin .neq T.int (.tmp 88) (.const (.int (-1))))⟩,
    ⟨(some 90), none, .val (.pick (.tmp 86) (.const (.bool true)) (.tmp 89))⟩,
    ⟨(some 91), none, .val (.mv (.tmp 90))⟩,
    ⟨(some 92), (some (91, false)), .val (.fieldAddr 2 (.tmp 8))⟩,
    ⟨(some 93), (some (91, false)), .val (.load 1 false (.tmp 92))⟩,
    ⟨(some 94), (some (91, false)), .val (.fieldAddr 2 (.tmp 9))⟩,
    ⟨(some 95), (some (91, false)), .val (.load 1 false (.tmp 94))⟩,
    ⟨(some 96), (some (91, false)), .val (.bin .lss T.int (.tmp 93) (.tmp 95))⟩,
    ⟨(some 97), none, .val (.pick (.tmp 91) (.const (.bool true)) (.tmp 96))⟩] [84, 85, 86, 87, 88, 89, 90, 91, 92, 93, 94, 95, 96])
  (.cond (.tmp 97)
  (.seq (.region [
    ⟨(some 4), none, .val (.mv (.const (.bool false)))⟩] [])
  .ret)
  .skip))
  (.seq (.draw true [
    (.early, ⟨(some 98), none, .val (.fieldAddr 2 (.tmp 8))⟩),
    (.early, ⟨(some 99), none, .val (.load 1 false (.tmp 98))⟩),
    (.late, ⟨(some 100), none, .val (.fieldAddr 3 (.tmp 8))⟩),
    (.late, ⟨(some 101), none, .val (.load 1 false (.tmp 100))⟩),
    (.early, ⟨(some 102), none, .val (.fieldAddr 3 (.tmp 9))⟩),
    (.hard, ⟨none, none, .store 1 (.tmp 102) (.tmp 99)⟩),
    (.late, ⟨(some 103), none, .val (.fieldAddr 4 (.tmp 9))⟩),
    (.hard, ⟨none, none, .store 1 (.tmp 103) (.tmp 101)⟩)] [98, 99, 100, 101, 102, 103])
  (.region [
    ⟨(some 104), none, .val (.mv (.tmp 6))⟩,
    ⟨(some 105), none, .val (.fieldAddr 0 (.tmp 8))⟩,
    ⟨(some 106), none, .val (.load 1 false (.tmp 105))⟩,
    ⟨(some 107), none, .val (.load 5 true (.tmp 9))⟩,
    ⟨none, none, .mapSet (false, [.int]) (.tmp 104) (.tmp 106) (.tmp 107)⟩] [104, 105, 106, 107])))
  .skip)))))
  (.seq (.seq (.region [
    ⟨(some 108), none, .val (.mv (.tmp 12))⟩,
    ⟨(some 109), none, .val (.bin .eql T.apiErrno (.tmp 108) (.const (.int 0)))⟩] [108])
  (.cond (.tmp 109)
  (.region [
    ⟨(some 110), none, .val (.mv (.tmp 11))⟩,
    ⟨(some 5), none, .val (.mv (.tmp 110))⟩] [110])
  .skip))
  (.seq (.region [
    ⟨(some 111), none, .val (.mv (.tmp 5))⟩,
    ⟨(some 112), none, .call (.const (.func (.func F.reviews_Check) [] [])) [(.tmp 111)]⟩,
    ⟨(some 113), none, .val (.bin .neq T.apiErrno (.tmp 112) (.const (.int 0)))⟩,
    ⟨(some 114), none, .val (.mv (.tmp 113))⟩,
    ⟨(some 115), (some (114, false)), .val (.mv (.tmp 5))⟩,
    ⟨(some 116), (some (114, false)), .val (.len (.tmp 115))⟩,
    ⟨(some 117), (some (114, false)), .val (.mv (.tmp 6))⟩,
    ⟨(some 118), (some (114, false)), .val (.maplen (.tmp 117))⟩,
    ⟨(some 119), (some (114, false)), .val (.bin .neq T.int (.tmp 116) (.tmp 118))⟩,
    ⟨(some 120), none, .val (.pick (.tmp 114) (.const (.bool true)) (.tmp 119))⟩] [111, 112, 113, 114, 115, 116, 117, 118, 119])
  (.cond (.tmp 120)
  (.seq (.region [
    ⟨(some 4), none, .val (.mv (.const (.bool false)))⟩] [])
  .ret)
  .skip)))))))))
  (.region [
    ⟨(some 121), none, .val (.bin .add T.int (.tmp 33) (.const (.int 1)))⟩,
    ⟨(some 33), none, .val (.mv (.tmp 121))⟩] [121])))))))
  (.seq (.seq (.region [
    ⟨(some 122), none, .val (.mv (.tmp 5))⟩,
    ⟨(some 123), none, .val (.len (.tmp 122))⟩,
    ⟨(some 124), none, .val (.mv (.const (.int 0)))⟩] [])
  (.block 2 (.loop (.seq (.region [
    ⟨(some 125), none, .val (.bin .lss T.int (.tmp 124) (.tmp 123))⟩] [])
  (.seq (.cond (.tmp 125)
  .skip
  (.exit 2))
  (.seq (.block 3 (.seq (.region [
    ⟨(some 126), none, .val (.mv (.tmp 124))⟩,
    ⟨(some 127), none, .val (.indexAddr 5 (.tmp 122) (.tmp 124))⟩,
    ⟨(some 128), none, .val (.load 5 true (.tmp 127))⟩,
    ⟨(some 14), none, .alloc T.apiReview [(.int 0), (.int 0), (.int 0), (.int 0), (.int 0)]⟩,
    ⟨(some 13), none, .val (.mv (.tmp 126))⟩,
    ⟨none, none, .store 5 (.tmp 14) (.tmp 128)⟩] [126, 127, 128])
  (.seq (.seq (.draw false [
    (.early, ⟨(some 129), none, .val (.load 5 true (.tmp 14))⟩),
    (.early, ⟨(some 130), none, .val (.mv (.tmp 6))⟩),
    (.early, ⟨(some 131), none, .val (.fieldAddr 0 (.tmp 14))⟩),
    (.early, ⟨(some 132), none, .val (.load 1 false (.tmp 131))⟩),
    (.early, ⟨(some 133), none, .val (.lookup (false, [.int]) (.agg [(.int 0), (.int 0), (.int 0), (.int 0), (.int 0)]) false (.tmp 130) (.tmp 132))⟩),
    (.early, ⟨(some 134), none, .val (.eqAgg true [.int, .int, .int, .int, .int] (.tmp 129) (.tmp 133))⟩),
    (.early, ⟨(some 135), none, .val (.mv (.tmp 134))⟩),
    (.early, ⟨(some 136), (some (135, false)), .val (.mv (.tmp 13))⟩),
    (.early, ⟨(some 137), (some (135, false)), .val (.bin .gtr T.int (.tmp 136) (.const (.int 0)))⟩),
    (.early, ⟨(some 138), (some (135, false)), .val (.mv (.tmp 137))⟩),
    (.early, ⟨(some 139), (some (138, true)), .val (.mv (.tmp 5))⟩),
    (.early, ⟨(some 140), (some (138, true)), .val (.mv (.tmp 13))⟩),
    (.early, ⟨(some 141), (some (138, true)), .val (.bin .sub T.int (.tmp 140) (.const (.int 1)))⟩),
    (.early, ⟨(some 142), (some (138, true)), .val (.indexAddr 5 (.tmp 139) (.tmp 141))⟩),
    (.early, ⟨(some 143), (some (138, true)), .val (.fieldAddr 0 (.tmp 142))⟩),
    (.early, ⟨(some 144), (some (138, true)), .val (.load 1 false (.tmp 143))⟩),
    (.early, ⟨(some 145), (some (138, true)), .val (.fieldAddr 0 (.tmp 14))⟩),
    (.early, ⟨(some 146), (some (138, true)), .val (.load 1 false (.tmp 145))⟩),
    (.early, ⟨(some 147), (some (138, true)), .val (.bin .geq T.int (.tmp 144) (.tmp 146))⟩),
    (.early, ⟨(some 148), (some (135, false)), .val (.pick (.tmp 138) (.tmp 147) (.const (.bool false)))⟩),
    (.early, ⟨(some 149), none, .val (.pick (.tmp 135) (.const (.bool true)) (.tmp 148))⟩)] [129, 130, 131, 132, 133, 134, 135, 136, 137, 138, 139, 140, 141, 142, 143, 144, 145, 146, 147, 148])
  (.cond (.tmp 149)
  (.seq (.region [
    ⟨(some 4), none, .val (.mv (.const (.bool false)))⟩] [])
  .ret)
  .skip))
  (.seq (.region [
    ⟨(some 150), none, .val (.fieldAddr 2 (.tmp 14))⟩,
    ⟨(some 151), none, .val (.load 1 false (.tmp 150))⟩,
    ⟨(some 152), none, .val (.fieldAddr 2 (.tmp 14))⟩,
    ⟨(some 153), none, .val (.load 1 false (.tmp 152))⟩,
    ⟨(some 154), none, .val (.bin .sub T.int (.tmp 153) (.const (.int 1)))⟩,
    ⟨(some 155), none, .val (.fieldAddr 3 (.tmp 14))⟩,
    ⟨(some 156), none, .val (.load 1 false (.tmp 155))⟩,
    ⟨(some 157), none, .val (.fieldAddr 3 (.tmp 14))⟩,
    ⟨(some 158), none, .val (.load 1 false (.tmp 157))⟩,
    ⟨(some 159), none, .val (.bin .sub T.int (.tmp 158) (.const (.int 1)))⟩,
    ⟨(some 160), none, .val (.buildSlice T.int 4 [(.int 0), (.int 0), (.int 0), (.int 0)] [(0, 1, (.tmp 151)), (1, 1, (.tmp 154)), (2, 1, (.tmp 156)), (3, 1, (.tmp 159))])⟩,
    ⟨(some 161), none, .val (.mv (.tmp 1))⟩,
    ⟨(some 162), none, .append T.int 8 1 (.tmp 160) (.tmp 161)⟩,
    ⟨(some 15), none, .val (.mv (.tmp 162))⟩] [150, 151, 152, 153, 154, 155, 156, 157, 158, 159, 160, 161, 162])
  (.seq (.region [
    ⟨(some 163), none, .val (.mv (.tmp 15))⟩,
    ⟨(some 164), none, .val (.len (.tmp 163))⟩,
    ⟨(some 165), none, .val (.mv (.const (.int 0)))⟩] [])
  (.block 4 (.loop (.seq (.region [
    ⟨(some 166), none, .val (.bin .lss T.int (.tmp 165) (.tmp 164))⟩] [])
  (.seq (.cond (.tmp 166)
  .skip
  (.exit 4))
  (.seq (.block 5 (.seq (.region [
    ⟨(some 167), none, .val (.indexAddr 1 (.tmp 163) (.tmp 165))⟩,
    ⟨(some 168), none, .val (.load 1 false (.tmp 167))⟩,
    ⟨(some 17), none, .val (.mv (.tmp 168))⟩] [167, 168])
  (.seq (.seq (.region [
    ⟨(some 169), none, .val (.mv (.tmp 17))⟩,
    ⟨(some 170), none, .val (.bin .lss T.int (.tmp 169) (.const (.int 0)))⟩,
    ⟨(some 171), none, .val (.mv (.tmp 170))⟩,
    ⟨(some 172), (some (171, false)), .val (.mv (.tmp 17))⟩,
    ⟨(some 173), (some (171, false)), .val (.bin .geq T.int (.tmp 172) (.const (.int 2097152)))⟩,
    ⟨(some 174), none, .val (.pick (.tmp 171) (.const (.bool true)) (.tmp 173))⟩] [169, 170, 171, 172, 173])
  (.cond (.tmp 174)
  (.exit 5)
  .skip))
  (.seq (.region [
    ⟨(some 176), none, .val (.mv (.tmp 5))⟩,
    ⟨(some 177), none, .val (.fieldAddr 0 (.tmp 14))⟩,
    ⟨(some 178), none, .val (.load 1 false (.tmp 177))⟩,
    ⟨(some 179), none, .val (.mv (.tmp 17))⟩,
    ⟨(some 180), none, .call (.const (.func (.func F.podiumlaw44_stands) [] [])) [(.tmp 176), (.tmp 178), (.tmp 179)]⟩,
    ⟨(some 175), none, .val (.mv (.tmp 180))⟩,
    ⟨(some 181), none, .val (.extract 0 (.tmp 175))⟩,
    ⟨(some 182), none, .val (.extract 1 (.tmp 175))⟩,
    ⟨(some 18), none, .val (.mv (.tmp 181))⟩,
    ⟨(some 19), none, .val (.mv (.tmp 182))⟩] [176, 177, 178, 179, 180, 175, 181, 182])
  (.seq (.region [
    ⟨(some 183), none, .val (.mv (.tmp 19))⟩,
    ⟨(some 184), none, .val (.un .not (.tmp 183))⟩,
    ⟨(some 185), none, .val (.mv (.tmp 184))⟩,
    ⟨(some 186), (some (185, false)), .val (.mv (.tmp 18))⟩,
    ⟨(some 187), (some (185, false)), .val (.fieldAddr 2 (.tmp 14))⟩,
    ⟨(some 188), (some (185, false)), .val (.load 1 false (.tmp 187))⟩,
    ⟨(some 189), (some (185, false)), .val (.mv (.tmp 17))⟩,
    ⟨(some 190), (some (185, false)), .val (.bin .leq T.int (.tmp 188) (.tmp 189))⟩,
    ⟨(some 191), (some (185, false)), .val (.mv (.tmp 190))⟩,
    ⟨(some 192), (some (191, true)), .val (.fieldAddr 3 (.tmp 14))⟩,
    ⟨(some 193), (some (191, true)), .val (.load 1 false (.tmp 192))⟩,
    ⟨(some 194), (some (191, true)), .val (.bin .lss T.int (.tmp 193) (.const (.int 0)))⟩,
    ⟨(some 195), (some (191, true)), .val (.mv (.tmp 194))⟩,
    ⟨(some 196), (some (195, false)), .val (.mv (.tmp 17))⟩,
    ⟨(some 197), (some (195, false)), .val (.fieldAddr 3 (.tmp 14))⟩,
    ⟨(some 198), (some (195, false)), .val (.load 1 false (.tmp 197))⟩,
    ⟨(some 199), (some (195, false)), .val (.bin .lss T.int (.tmp 196) (.tmp 198))⟩,
    ⟨(some 200), (some (191, true)), .val (.pick (.tmp 195) (.const (.bool true)) (.tmp 199))⟩,
    ⟨(some 201), (some (185, false)), .val (.pick (.tmp 191) (.tmp 200) (.const (.bool false)))⟩,
    ⟨(some 202), (some (185, false)), .val (.eqBool true (.tmp 186) (.tmp 201))⟩,
    ⟨(some 203), none, .val (.pick (.tmp 185) (.const (.bool true)) (.tmp 202))⟩] [183, 184, 185, 186, 187, 188, 189, 190, 191, 192, 193, 194, 195, 196, 197, 198, 199, 200, 201, 202])
  (.cond (.tmp 203)
  (.seq (.region [
    ⟨(some 4), none, .val (.mv (.const (.bool false)))⟩] [])
  .ret)
  .skip))))))
  (.region [
    ⟨(some 204), none, .val (.bin .add T.int (.tmp 165) (.const (.int 1)))⟩,
    ⟨(some 165), none, .val (.mv (.tmp 204))⟩] [204])))))))))))
  (.region [
    ⟨(some 205), none, .val (.bin .add T.int (.tmp 124) (.const (.int 1)))⟩,
    ⟨(some 124), none, .val (.mv (.tmp 205))⟩] [205])))))))
  (.seq (.region [
    ⟨(some 4), none, .val (.mv (.const (.bool true)))⟩] [])
  .ret))))))))⟩
theorem H.podiumlaw44_ReviewsOnce : Has P F.podiumlaw44_ReviewsOnce C.podiumlaw44_ReviewsOnce := ⟨Try.f5, Try.func5, by kernel_rfl, by kernel_rfl⟩

/-- podium/podiumlaw44.ReviewsApart -/
noncomputable def C.podiumlaw44_ReviewsApart : MFunc := ⟨179, 3, [.tmp 6],
  (.seq (.region [
    ⟨(some 4), none, .box T.podiumlaw44Step (.tmp 1)⟩,
    ⟨(some 6), none, .val (.mv (.const (.bool false)))⟩] [])
  (.seq (.seq (.region [
    ⟨(some 20), none, .call (.const (.func (.func F.podiumlaw44_sane) [] [])) []⟩,
    ⟨(some 21), none, .val (.un .not (.tmp 20))⟩] [20])
  (.cond (.tmp 21)
  (.seq (.region [
    ⟨(some 6), none, .val (.mv (.const (.bool false)))⟩] [])
  .ret)
  .skip))
  (.seq (.seq (.region [
    ⟨(some 22), none, .val (.mv (.tmp 0))⟩,
    ⟨(some 23), none, .val (.len (.tmp 22))⟩,
    ⟨(some 24), none, .val (.bin .gtr T.int (.tmp 23) (.const (.int 30)))⟩,
    ⟨(some 25), none, .val (.mv (.tmp 24))⟩,
    ⟨(some 26), (some (25, false)), .val (.mv (.tmp 0))⟩,
    ⟨(some 27), (some (25, false)), .call (.const (.func (.func F.podiumref44_Check) [] [])) [(.tmp 26)]⟩,
    ⟨(some 28), (some (25, false)), .val (.bin .neq T.apiErrno (.tmp 27) (.const (.int 0)))⟩,
    ⟨(some 29), none, .val (.pick (.tmp 25) (.const (.bool true)) (.tmp 28))⟩] [22, 23, 24, 25, 26, 27, 28])
  (.cond (.tmp 29)
  (.seq (.region [
    ⟨(some 6), none, .val (.mv (.const (.bool true)))⟩] [])
  .ret)
  .skip))
  (.seq (.region [
    ⟨(some 31), none, .val (.mv (.tmp 0))⟩,
    ⟨(some 32), none, .val (.fieldAddr 0 (.tmp 4))⟩,
    ⟨(some 33), none, .val (.load 1 false (.tmp 32))⟩,
    ⟨(some 34), none, .val (.fieldAddr 1 (.tmp 4))⟩,
    ⟨(some 35), none, .val (.load 1 false (.tmp 34))⟩,
    ⟨(some 36), none, .val (.fieldAddr 2 (.tmp 4))⟩,
    ⟨(some 37), none, .val (.load 1 false (.tmp 36))⟩,
    ⟨(some 38), none, .call (.const (.func (.func F.reviews_Open) [] [])) [(.tmp 31), (.tmp 33), (.tmp 35), (.tmp 37)]⟩,
    ⟨(some 30), none, .val (.mv (.tmp 38))⟩,
    ⟨(some 39), none, .val (.extract 0 (.tmp 30))⟩,
    ⟨(some 40), none, .val (.extract 1 (.tmp 30))⟩,
    ⟨(some 7), none, .val (.mv (.tmp 39))⟩,
    ⟨(some 8), none, .val (.mv (.tmp 40))⟩] [31, 32, 33, 34, 35, 36, 37, 38, 30, 39, 40])
  (.seq (.region [
    ⟨(some 42), none, .val (.mv (.tmp 0))⟩,
    ⟨(some 43), none, .val (.fieldAddr 0 (.tmp 4))⟩,
    ⟨(some 44), none, .val (.load 1 false (.tmp 43))⟩,
    ⟨(some 45), none, .val (.fieldAddr 2 (.tmp 4))⟩,
    ⟨(some 46), none, .val (.load 1 false (.tmp 45))⟩,
    ⟨(some 47), none, .val (.fieldAddr 3 (.tmp 4))⟩,
    ⟨(some 48), none, .val (.load 1 false (.tmp 47))⟩,
    ⟨(some 49), none, .call (.const (.func (.func F.reviews_Close) [] [])) [(.tmp 42), (.tmp 44), (.tmp 46), (.tmp 48)]⟩,
    ⟨(some 41), none, .val (.mv (.tmp 49))⟩,
    ⟨(some 50), none, .val (.extract 0 (.tmp 41))⟩,
    ⟨(some 51), none, .val (.extract 1 (.tmp 41))⟩,
    ⟨(some 9), none, .val (.mv (.tmp 50))⟩,
    ⟨(some 10), none, .val (.mv (.tmp 51))⟩] [42, 43, 44, 45, 46, 47, 48, 49, 41, 50, 51])
  (.seq (.seq (.region [
    ⟨(some 52), none, .val (.mv (.tmp 0))⟩,
    ⟨(some 53), none, .val (.len (.tmp 52))⟩,
    ⟨(some 54), none, .val (.mv (.const (.int 0)))⟩] [])
  (.block 0 (.loop (.seq (.region [
    ⟨(some 55), none, .val (.bin .lss T.int (.tmp 54) (.tmp 53))⟩] [])
  (.seq (.cond (.tmp 55)
  .skip
  (.exit 0))
  (.seq (.block 1 (.seq (.region [
    ⟨(some 56), none, .val (.indexAddr 5 (.tmp 52) (.tmp 54))⟩,
    ⟨(some 57), none, .val (.load 5 true (.tmp 56))⟩,
    ⟨(some 12), none, .alloc T.apiReview [(.int 0), (.int 0), (.int 0), (.int 0), (.int 0)]⟩,
    ⟨none, none, .store 5 (.tmp 12) (.tmp 57)⟩] [56, 57])
  (.seq (.draw true [
    (.early, ⟨(some 58), none, .val (.mv (.tmp 7))⟩),
    (.early, ⟨(some 59), none, .val (.fieldAddr 0 (.tmp 12))⟩),
    (.early, ⟨(some 60), none, .val (.load 1 false (.tmp 59))⟩),
    (.late, ⟨(some 62), none, .val (.mv (.tmp 9))⟩),
    (.late, ⟨(some 63), none, .val (.fieldAddr 0 (.tmp 12))⟩),
    (.late, ⟨(some 64), none, .val (.load 1 false (.tmp 63))⟩),
    (.hard, ⟨(some 61), none, .call (.const (.func (.func F.podiumref44_Index) [] [])) [(.tmp 58), (.tmp 60)]⟩),
    (.hard, ⟨(some 65), none, .call (.const (.func (.func F.podiumref44_Index) [] [])) [(.tmp 62), (.tmp 64)]⟩),
    (.late, ⟨(some 13), none, .val (.mv (.tmp 61))⟩),
    (.late, ⟨(some 14), none, .val (.mv (.tmp 65))⟩)] [58, 59, 60, 61, 62, 63, 64, 65])
  (.seq (.draw false (
    (.early, ⟨(some 66), none, .val (.mv (.tmp 8))⟩) ::
    (.early, ⟨(some 67), none, .val (.bin .eql T.apiErrno (.tmp 66) (.const (.int 0)))⟩) ::
    (.early, ⟨(some 68), none, .val (.mv (.tmp 67))⟩) ::
    (.early, ⟨(some 69), (some (68, true)), .val (.mv (.tmp 13))⟩) ::
    (.early, ⟨(some 70), (some (68, true)), .val (.bin .lss T.int (.tmp 69) (.const (.int 0)))⟩) ::
    (.early, ⟨(some 71), (some (68, true)), .val (.mv (.tmp 70))⟩) ::
    (.early, ⟨(some 72), (some (71, false)), .val (.mv (.tmp 7))⟩) ::
    (.early, ⟨(some 73), (some (71, false)), .val (.mv (.tmp 13))⟩) ::
    (.early, ⟨(some 74), (some (71, false)), .val (.indexAddr 5 (.tmp 72) (.tmp 73))⟩) ::
    (.early, ⟨(some 75), (some (71, false)), .val (.load 5 true (.tmp 74))⟩) ::
    (.early, ⟨(some 76), (some (71, false)), .val (.load 5 true (.tmp 12))⟩) ::
    (.early, ⟨(some 77), (some (71, false)), .val (.eqAgg true [.int, .int, .int, .int, .int] (.tmp 75) (.tmp 76))⟩) ::
    (.early, ⟨(some 78), (some (68, true)), .val (.pick (.tmp 71) (.const (.bool true)) (.tmp 77))⟩) ::
    (.early, ⟨(some 79), none, .val (.pick (.tmp 68) (.tmp 78) (.const (.bool false)))⟩) ::
    (.early, ⟨(some 80), none, .val (.mv (.tmp 79))⟩) ::
    (.early, ⟨(some 81), (some (80, false)), .val (.mv (.tmp 10))⟩) ::
    (.early, ⟨(some 82), (some (80, false)), .val (.bin .eql T.apiErrno (.tmp 81) (.const (.int 0)))⟩) ::
    (.early, ⟨(some 83), (some (80, false)), .val (.mv (.tmp 82))⟩) ::
    (.early, ⟨(some 84), (some (83, true)), .val (.mv (.tmp 14))⟩) ::
    (.early, ⟨(some 85), (some (83, true)), .val (.bin .lss T.int (.tmp 84) (.const (.int 0)))⟩) ::
    (.early, ⟨(some 86), (some (83, true)), .val (.mv (.tmp 85))⟩) ::
    (.early, ⟨(some 87), (some (86, false)), .val (.fieldAddr 0 (.tmp 12))⟩) ::
    (.early, ⟨(some 88), (some (86, false)), .val (.load 1 false (.tmp 87))⟩) ::
    (.early, ⟨(some 89), (some (86, false)), .val (.fieldAddr 0 (.tmp 4))⟩) ::
    (.early, ⟨(some 90), (some (86, false)), .val (.load 1 false (.tmp 89))⟩) ::
    (.early, ⟨(some 91), (some (86, false)), .val (.bin .neq T.int (.tmp 88) (.tmp 90))⟩) ::
    (.early, ⟨(some 92), (some (86, false)), .val (.mv (.tmp 91))⟩) ::
    (.early, ⟨(some 93), (some (92, true)), .val (.mv (.tmp 9))⟩) ::
    (.early, ⟨(some 94), (some (92, true)), .val (.mv (.tmp 14))⟩) ::
    (.early, ⟨(some 95), (some (92, true)), .val (.indexAddr 5 (.tmp 93) (.tmp 94))⟩) ::
    (.early, ⟨(some 96), (some (92, true)), .val (.load 5 true (.tmp 95))⟩) ::
    (.early, ⟨(some 97), (some (92, true)), .val (.load 5 true (.tmp 12))⟩) ::
    (.early, ⟨(some 98), (some (92, true)), .val (.eqAgg true [.int, .int, .int, .int, .int] (.tmp 96) (.tmp 97))⟩) ::
    (.early, ⟨(some 99), (some (86, false)), .val (.pick (.tmp 92) (.tmp 98) (.const (.bool false)))⟩) ::
    (.early, ⟨(some 100), (some (83, true)), .val (.pick (.tmp 86) (.const (.bool true)) (.tmp 99))⟩) ::
    (.early, ⟨(some 101), (some (80, false)), .val (.pick (.tmp 83) (.tmp 100) (.const (.bool false)))⟩) ::
    (.early, ⟨(some 102), none, .val (.pick (.tmp 80) (.const (.bool true)) (.tmp 101))⟩) :: []) (66 :: 67 :: 68 :: 69 :: 70 :: 71 :: 72 :: 73 :: 74 :: 75 :: 76 :: 77 :: 78 :: 79 :: 80 :: 81 :: 82 :: 83 :: 84 :: 85 :: 86 :: 87 :: 88 :: 89 :: 90 :: 91 :: 92 :: 93 :: 94 :: 95 :: 96 :: 97 :: 98 :: 99 :: 100 :: 101 :: []))
  (.cond (.tmp 102)
  (.seq (.region [
    ⟨(some 6), none, .val (.mv (.const (.bool false)))⟩] [])
  .ret)
  .skip)))))
  (.region [
    ⟨(some 103), none, .val (.bin .add T.int (.tmp 54) (.const (.int 1)))⟩,
    ⟨(some 54), none, .val (.mv (.tmp 103))⟩] [103])))))))
  (.seq (.seq (.region [
    ⟨(some 104), none, .val (.mv (.tmp 8))⟩,
    ⟨(some 105), none, .val (.bin .eql T.apiErrno (.tmp 104) (.const (.int 0)))⟩,
    ⟨(some 106), none, .val (.mv (.tmp 105))⟩,
    ⟨(some 107), (some (106, true)), .val (.mv (.tmp 7))⟩,
    ⟨(some 108), (some (106, true)), .val (.len (.tmp 107))⟩,
    ⟨(some 109), (some (106, true)), .val (.mv (.tmp 0))⟩,
    ⟨(some 110), (some (106, true)), .val (.len (.tmp 109))⟩,
    ⟨(some 111), (some (106, true)), .val (.bin .add T.int (.tmp 110) (.const (.int 1)))⟩,
    ⟨(some 112), (some (106, true)), .val (.bin .neq T.int (.tmp 108) (.tmp 111))⟩,
    ⟨(some 113), none, .val (.pick (.tmp 106) (.tmp 112) (.const (.bool false)))⟩,
    ⟨(some 114), none, .val (.mv (.tmp 113))⟩,
    ⟨(some 115), (some (114, false)), .val (.mv (.tmp 10))⟩,
    ⟨(some 116), (some (114, false)), .val (.bin .eql T.apiErrno (.tmp 115) (.const (.int 0)))⟩,
    ⟨(some 117), (some (114, false)), .val (.mv (.tmp 116))⟩,
    ⟨(some 118), (some (117, true)), .val (.mv (.tmp 9))⟩,
    ⟨(some 119), (some (117, true)), .val (.len (.tmp 118))⟩,
    ⟨(some 120), (some (117, true)), .val (.mv (.tmp 0))⟩,
    ⟨(some 121), (some (117, true)), .val (.len (.tmp 120))⟩,
    ⟨(some 122), (some (117, true)), .val (.bin .neq T.int (.tmp 119) (.tmp 121))⟩,
    ⟨(some 123), (some (114, false)), .val (.pick (.tmp 117) (.tmp 122) (.const (.bool false)))⟩,
    ⟨(some 124), none, .val (.pick (.tmp 114) (.const (.bool true)) (.tmp 123))⟩] [104, 105, 106, 107, 108, 109, 110, 111, 112, 113, 114, 115, 116, 117, 118, 119, 120, 121, 122, 123])
  (.cond (.tmp 124)
  (.seq (.region [
    ⟨(some 6), none, .val (.mv (.const (.bool false)))⟩] [])
  .ret)
  .skip))
  (.seq (.seq (.region [
    ⟨(some 125), none, .val (.mv (.tmp 10))⟩,
    ⟨(some 126), none, .val (.bin .neq T.apiErrno (.tmp 125) (.const (.int 0)))⟩,
    ⟨(some 127), none, .val (.mv (.tmp 126))⟩,
    ⟨(some 128), (some (127, false)), .val (.mv (.tmp 2))⟩,
    ⟨(some 129), (some (127, false)), .val (.bin .lss T.int (.tmp 128) (.const (.int 0)))⟩,
    ⟨(some 130), none, .val (.pick (.tmp 127) (.const (.bool true)) (.tmp 129))⟩,
    ⟨(some 131), none, .val (.mv (.tmp 130))⟩,
    ⟨(some 132), (some (131, false)), .val (.mv (.tmp 2))⟩,
    ⟨(some 133), (some (131, false)), .val (.fieldAddr 2 (.tmp 4))⟩,
    ⟨(some 134), (some (131, false)), .val (.load 1 false (.tmp 133))⟩,
    ⟨(some 135), (some (131, false)), .val (.bin .geq T.int (.tmp 132) (.tmp 134))⟩,
    ⟨(some 136), none, .val (.pick (.tmp 131) (.const (.bool true)) (.tmp 135))⟩] [125, 126, 127, 128, 129, 130, 131, 132, 133, 134, 135])
  (.cond (.tmp 136)
  (.seq (.region [
    ⟨(some 6), none, .val (.mv (.const (.bool true)))⟩] [])
  .ret)
  .skip))
  (.seq (.region [
    ⟨(some 138), none, .val (.mv (.tmp 0))⟩,
    ⟨(some 139), none, .val (.mv (.tmp 2))⟩,
    ⟨(some 140), none, .call (.const (.func (.func F.reviews_Standing) [] [])) [(.tmp 138), (.tmp 139)]⟩,
    ⟨(some 137), none, .val (.mv (.tmp 140))⟩,
    ⟨(some 141), none, .val (.extract 0 (.tmp 137))⟩,
    ⟨(some 142), none, .val (.extract 1 (.tmp 137))⟩,
    ⟨(some 15), none, .val (.mv (.tmp 141))⟩,
    ⟨(some 16), none, .val (.mv (.tmp 142))⟩] [138, 139, 140, 137, 141, 142])
  (.seq (.region [
    ⟨(some 144), none, .val (.mv (.tmp 9))⟩,
    ⟨(some 145), none, .val (.mv (.tmp 2))⟩,
    ⟨(some 146), none, .call (.const (.func (.func F.reviews_Standing) [] [])) [(.tmp 144), (.tmp 145)]⟩,
    ⟨(some 143), none, .val (.mv (.tmp 146))⟩,
    ⟨(some 147), none, .val (.extract 0 (.tmp 143))⟩,
    ⟨(some 148), none, .val (.extract 1 (.tmp 143))⟩,
    ⟨(some 17), none, .val (.mv (.tmp 147))⟩,
    ⟨(some 18), none, .val (.mv (.tmp 148))⟩] [144, 145, 146, 143, 147, 148])
  (.seq (.seq (.region [
    ⟨(some 149), none, .val (.mv (.tmp 16))⟩,
    ⟨(some 150), none, .val (.bin .neq T.apiErrno (.tmp 149) (.const (.int 0)))⟩,
    ⟨(some 151), none, .val (.mv (.tmp 150))⟩,
    ⟨(some 152), (some (151, false)), .val (.mv (.tmp 18))⟩,
    ⟨(some 153), (some (151, false)), .val (.bin .neq T.apiErrno (.tmp 152) (.const (.int 0)))⟩,
    ⟨(some 154), none, .val (.pick (.tmp 151) (.const (.bool true)) (.tmp 153))⟩,
    ⟨(some 155), none, .val (.mv (.tmp 154))⟩,
    ⟨(some 156), (some (155, false)), .val (.mv (.tmp 15))⟩,
    ⟨(some 157), (some (155, false)), .val (.len (.tmp 156))⟩,
    ⟨(some 158), (some (155, false)), .val (.mv (.tmp 17))⟩,
    ⟨(some 159), (some (155, false)), .val (.len (.tmp 158))⟩,
    ⟨(some 160), (some (155, false)), .val (.bin .neq T.int (.tmp 157) (.tmp 159))⟩,
    ⟨(some 161), none, .val (.pick (.tmp 155) (.const (.bool true)) (.tmp 160))⟩] [149, 150, 151, 152, 153, 154, 155, 156, 157, 158, 159, 160])
  (.cond (.tmp 161)
  (.seq (.region [
    ⟨(some 6), none, .val (.mv (.const (.bool false)))⟩] [])
  .ret)
  .skip))
  (.seq (.seq (.region [
    ⟨(some 162), none, .val (.mv (.tmp 15))⟩,
    ⟨(some 163), none, .val (.len (.tmp 162))⟩,
    ⟨(some 164), none, .val (.mv (.const (.int 0)))⟩] [162])
  (.block 2 (.loop (.seq (.region [
    ⟨(some 165), none, .val (.bin .lss T.int (.tmp 164) (.tmp 163))⟩] [])
  (.seq (.cond (.tmp 165)
  .skip
  (.exit 2))
  (.seq (.block 3 (.seq (.region [
    ⟨(some 166), none, .val (.mv (.tmp 164))⟩,
    ⟨(some 19), none, .val (.mv (.tmp 166))⟩] [166])
  (.seq (.draw false [
    (.early, ⟨(some 167), none, .val (.mv (.tmp 15))⟩),
    (.early, ⟨(some 168), none, .val (.mv (.tmp 19))⟩),
    (.early, ⟨(some 169), none, .val (.indexAddr 5 (.tmp 167) (.tmp 168))⟩),
    (.early, ⟨(some 170), none, .val (.fieldAddr 0 (.tmp 169))⟩),
    (.early, ⟨(some 171), none, .val (.load 1 false (.tmp 170))⟩),
    (.early, ⟨(some 172), none, .val (.mv (.tmp 17))⟩),
    (.early, ⟨(some 173), none, .val (.mv (.tmp 19))⟩),
    (.early, ⟨(some 174), none, .val (.indexAddr 5 (.tmp 172) (.tmp 173))⟩),
    (.early, ⟨(some 175), none, .val (.fieldAddr 0 (.tmp 174))⟩),
    (.early, ⟨(some 176), none, .val (.load 1 false (.tmp 175))⟩),
    (.early, ⟨(some 177), none, .val (.bin .neq T.int (.tmp 171) (.tmp 176))⟩)] [167, 168, 169, 170, 171, 172, 173, 174, 175, 176])
  (.cond (.tmp 177)
  (.seq (.region [
    ⟨(some 6), none, .val (.mv (.const (.bool false)))⟩] [])
  .ret)
  .skip))))
  (.region [
    ⟨(some 178), none, .val (.bin .add T.int (.tmp 164) (.const (.int 1)))⟩,
    ⟨(some 164), none, .val (.mv (.tmp 178))⟩] [178])))))))
  (.seq (.region [
    ⟨(some 6), none, .val (.mv (.const (.bool true)))⟩] [])
  .ret)))))))))))))⟩
theorem H.podiumlaw44_ReviewsApart : Has P F.podiumlaw44_ReviewsApart C.podiumlaw44_ReviewsApart := ⟨Try.f6, Try.func6, by kernel_rfl, by kernel_rfl⟩

/-- podium/podiumlaw44.ReviewsOrder -/
noncomputable def C.podiumlaw44_ReviewsOrder : MFunc := ⟨113, 3, [.tmp 6],
  (.seq (.region [
    ⟨(some 4), none, .box T.podiumlaw44Step (.tmp 1)⟩,
    ⟨(some 5), none, .box T.podiumlaw44Step (.tmp 2)⟩,
    ⟨(some 6), none, .val (.mv (.const (.bool false)))⟩] [])
  (.seq (.seq (.region [
    ⟨(some 15), none, .call (.const (.func (.func F.podiumlaw44_sane) [] [])) []⟩,
    ⟨(some 16), none, .val (.un .not (.tmp 15))⟩] [15])
  (.cond (.tmp 16)
  (.seq (.region [
    ⟨(some 6), none, .val (.mv (.const (.bool false)))⟩] [])
  .ret)
  .skip))
  (.seq (.seq (.region [
    ⟨(some 17), none, .val (.mv (.tmp 0))⟩,
    ⟨(some 18), none, .val (.len (.tmp 17))⟩,
    ⟨(some 19), none, .val (.bin .gtr T.int (.tmp 18) (.const (.int 30)))⟩,
    ⟨(some 20), none, .val (.mv (.tmp 19))⟩,
    ⟨(some 21), (some (20, false)), .val (.mv (.tmp 0))⟩,
    ⟨(some 22), (some (20, false)), .call (.const (.func (.func F.podiumref44_Check) [] [])) [(.tmp 21)]⟩,
    ⟨(some 23), (some (20, false)), .val (.bin .neq T.apiErrno (.tmp 22) (.const (.int 0)))⟩,
    ⟨(some 24), none, .val (.pick (.tmp 20) (.const (.bool true)) (.tmp 23))⟩] [17, 18, 19, 20, 21, 22, 23])
  (.cond (.tmp 24)
  (.seq (.region [
    ⟨(some 6), none, .val (.mv (.const (.bool true)))⟩] [])
  .ret)
  .skip))
  (.seq (.region [
    ⟨(some 26), none, .val (.mv (.tmp 0))⟩,
    ⟨(some 27), none, .val (.fieldAddr 0 (.tmp 4))⟩,
    ⟨(some 28), none, .val (.load 1 false (.tmp 27))⟩,
    ⟨(some 29), none, .val (.fieldAddr 1 (.tmp 4))⟩,
    ⟨(some 30), none, .val (.load 1 false (.tmp 29))⟩,
    ⟨(some 31), none, .val (.fieldAddr 2 (.tmp 4))⟩,
    ⟨(some 32), none, .val (.load 1 false (.tmp 31))⟩,
    ⟨(some 33), none, .call (.const (.func (.func F.reviews_Open) [] [])) [(.tmp 26), (.tmp 28), (.tmp 30), (.tmp 32)]⟩,
    ⟨(some 25), none, .val (.mv (.tmp 33))⟩,
    ⟨(some 34), none, .val (.extract 0 (.tmp 25))⟩,
    ⟨(some 35), none, .val (.extract 1 (.tmp 25))⟩,
    ⟨(some 7), none, .val (.mv (.tmp 34))⟩,
    ⟨(some 8), none, .val (.mv (.tmp 35))⟩] [26, 27, 28, 29, 30, 31, 32, 33, 25, 34, 35])
  (.seq (.region [
    ⟨(some 37), none, .val (.mv (.tmp 0))⟩,
    ⟨(some 38), none, .val (.fieldAddr 0 (.tmp 5))⟩,
    ⟨(some 39), none, .val (.load 1 false (.tmp 38))⟩,
    ⟨(some 40), none, .val (.fieldAddr 1 (.tmp 5))⟩,
    ⟨(some 41), none, .val (.load 1 false (.tmp 40))⟩,
    ⟨(some 42), none, .val (.fieldAddr 2 (.tmp 5))⟩,
    ⟨(some 43), none, .val (.load 1 false (.tmp 42))⟩,
    ⟨(some 44), none, .call (.const (.func (.func F.reviews_Open) [] [])) [(.tmp 37), (.tmp 39), (.tmp 41), (.tmp 43)]⟩,
    ⟨(some 36), none, .val (.mv (.tmp 44))⟩,
    ⟨(some 45), none, .val (.extract 0 (.tmp 36))⟩,
    ⟨(some 46), none, .val (.extract 1 (.tmp 36))⟩,
    ⟨(some 9), none, .val (.mv (.tmp 45))⟩,
    ⟨(some 10), none, .val (.mv (.tmp 46))⟩] [37, 38, 39, 40, 41, 42, 43, 44, 36, 45, 46])
  (.seq (.seq (.region [
    ⟨(some 47), none, .val (.mv (.tmp 8))⟩,
    ⟨(some 48), none, .val (.bin .neq T.apiErrno (.tmp 47) (.const (.int 0)))⟩,
    ⟨(some 49), none, .val (.mv (.tmp 48))⟩,
    ⟨(some 50), (some (49, false)), .val (.mv (.tmp 10))⟩,
    ⟨(some 51), (some (49, false)), .val (.bin .neq T.apiErrno (.tmp 50) (.const (.int 0)))⟩,
    ⟨(some 52), none, .val (.pick (.tmp 49) (.const (.bool true)) (.tmp 51))⟩] [47, 48, 49, 50, 51])
  (.cond (.tmp 52)
  (.seq (.region [
    ⟨(some 53), none, .val (.mv (.tmp 8))⟩,
    ⟨(some 54), none, .val (.bin .eql T.apiErrno (.tmp 53) (.const (.int 0)))⟩,
    ⟨(some 55), none, .val (.mv (.tmp 54))⟩,
    ⟨(some 56), (some (55, false)), .val (.mv (.tmp 7))⟩,
    ⟨(some 57), (some (55, false)), .val (.len (.tmp 56))⟩,
    ⟨(some 58), (some (55, false)), .val (.bin .eql T.int (.tmp 57) (.const (.int 0)))⟩,
    ⟨(some 59), none, .val (.pick (.tmp 55) (.const (.bool true)) (.tmp 58))⟩,
    ⟨(some 60), none, .val (.mv (.tmp 59))⟩,
    ⟨(some 61), (some (60, true)), .val (.mv (.tmp 10))⟩,
    ⟨(some 62), (some (60, true)), .val (.bin .eql T.apiErrno (.tmp 61) (.const (.int 0)))⟩,
    ⟨(some 63), (some (60, true)), .val (.mv (.tmp 62))⟩,
    ⟨(some 64), (some (63, false)), .val (.mv (.tmp 9))⟩,
    ⟨(some 65), (some (63, false)), .val (.len (.tmp 64))⟩,
    ⟨(some 66), (some (63, false)), .val (.bin .eql T.int (.tmp 65) (.const (.int 0)))⟩,
    ⟨(some 67), (some (60, true)), .val (.pick (.tmp 63) (.const (.bool true)) (.tmp 66))⟩,
    ⟨(some 68), none, .val (.pick (.tmp 60) (.tmp 67) (.const (.bool false)))⟩,
    ⟨(some 6), none, .val (.mv (.tmp 68))⟩] [53, 54, 55, 56, 57, 58, 59, 60, 61, 62, 63, 64, 65, 66, 67, 68])
  .ret)
  .skip))
  (.seq (.region [
    ⟨(some 70), none, .val (.mv (.tmp 7))⟩,
    ⟨(some 71), none, .val (.fieldAddr 0 (.tmp 5))⟩,
    ⟨(some 72), none, .val (.load 1 false (.tmp 71))⟩,
    ⟨(some 73), none, .val (.fieldAddr 1 (.tmp 5))⟩,
    ⟨(some 74), none, .val (.load 1 false (.tmp 73))⟩,
    ⟨(some 75), none, .val (.fieldAddr 2 (.tmp 5))⟩,
    ⟨(some 76), none, .val (.load 1 false (.tmp 75))⟩,
    ⟨(some 77), none, .call (.const (.func (.func F.reviews_Open) [] [])) [(.tmp 70), (.tmp 72), (.tmp 74), (.tmp 76)]⟩,
    ⟨(some 69), none, .val (.mv (.tmp 77))⟩,
    ⟨(some 78), none, .val (.extract 0 (.tmp 69))⟩,
    ⟨(some 79), none, .val (.extract 1 (.tmp 69))⟩,
    ⟨(some 11), none, .val (.mv (.tmp 78))⟩,
    ⟨(some 12), none, .val (.mv (.tmp 79))⟩] [70, 71, 72, 73, 74, 75, 76, 77, 69, 78, 79])
  (.seq (.region [
    ⟨(some 81), none, .val (.mv (.tmp 9))⟩,
    ⟨(some 82), none, .val (.fieldAddr 0 (.tmp 4))⟩,
    ⟨(some 83), none, .val (.load 1 false (.tmp 82))⟩,
    ⟨(some 84), none, .val (.fieldAddr 1 (.tmp 4))⟩,
    ⟨(some 85), none, .val (.load 1 false (.tmp 84))⟩,
    ⟨(some 86), none, .val (.fieldAddr 2 (.tmp 4))⟩,
    ⟨(some 87), none, .val (.load 1 false (.tmp 86))⟩,
    ⟨(some 88), none, .call (.const (.func (.func F.reviews_Open) [] [])) [(.tmp 81), (.tmp 83), (.tmp 85), (.tmp 87)]⟩,
    ⟨(some 80), none, .val (.mv (.tmp 88))⟩,
    ⟨(some 89), none, .val (.extract 0 (.tmp 80))⟩,
    ⟨(some 90), none, .val (.extract 1 (.tmp 80))⟩,
    ⟨(some 13), none, .val (.mv (.tmp 89))⟩,
    ⟨(some 14), none, .val (.mv (.tmp 90))⟩] [81, 82, 83, 84, 85, 86, 87, 88, 80, 89, 90])
  (.seq (.seq (.region [
    ⟨(some 91), none, .val (.fieldAddr 0 (.tmp 4))⟩,
    ⟨(some 92), none, .val (.load 1 false (.tmp 91))⟩,
    ⟨(some 93), none, .val (.fieldAddr 0 (.tmp 5))⟩,
    ⟨(some 94), none, .val (.load 1 false (.tmp 93))⟩,
    ⟨(some 95), none, .val (.bin .eql T.int (.tmp 92) (.tmp 94))⟩] [91, 92, 93, 94])
  (.cond (.tmp 95)
  (.seq (.region [
    ⟨(some 96), none, .val (.mv (.tmp 12))⟩,
    ⟨(some 97), none, .val (.bin .eql T.apiErrno (.tmp 96) (.const (.int 141)))⟩,
    ⟨(some 98), none, .val (.mv (.tmp 97))⟩,
    ⟨(some 99), (some (98, true)), .val (.mv (.tmp 14))⟩,
    ⟨(some 100), (some (98, true)), .val (.bin .eql T.apiErrno (.tmp 99) (.const (.int 141)))⟩,
    ⟨(some 101), none, .val (.pick (.tmp 98) (.tmp 100) (.const (.bool false)))⟩,
    ⟨(some 6), none, .val (.mv (.tmp 101))⟩] [96, 97, 98, 99, 100, 101])
  .ret)
  .skip))
  (.seq (.region [
    ⟨(some 102), none, .val (.mv (.tmp 12))⟩,
    ⟨(some 103), none, .val (.bin .eql T.apiErrno (.tmp 102) (.const (.int 0)))⟩,
    ⟨(some 104), none, .val (.mv (.tmp 103))⟩,
    ⟨(some 105), (some (104, true)), .val (.mv (.tmp 14))⟩,
    ⟨(some 106), (some (104, true)), .val (.bin .eql T.apiErrno (.tmp 105) (.const (.int 0)))⟩,
    ⟨(some 107), none, .val (.pick (.tmp 104) (.tmp 106) (.const (.bool false)))⟩,
    ⟨(some 108), none, .val (.mv (.tmp 107))⟩,
    ⟨(some 109), (some (108, true)), .val (.mv (.tmp 11))⟩,
    ⟨(some 110), (some (108, true)), .val (.mv (.tmp 13))⟩,
    ⟨(some 111), (some (108, true)), .call (.const (.func (.func F.podiumref44_Same) [] [])) [(.tmp 109), (.tmp 110)]⟩,
    ⟨(some 112), none, .val (.pick (.tmp 108) (.tmp 111) (.const (.bool false)))⟩,
    ⟨(some 6), none, .val (.mv (.tmp 112))⟩] [102, 103, 104, 105, 106, 107, 108, 109, 110, 111, 112])
  .ret))))))))))⟩
theorem H.podiumlaw44_ReviewsOrder : Has P F.podiumlaw44_ReviewsOrder C.podiumlaw44_ReviewsOrder := ⟨Try.f7, Try.func7, by kernel_rfl, by kernel_rfl⟩

/-- podium/podiumlaw44.sane -/
noncomputable def C.podiumlaw44_sane : MFunc := ⟨135, 0, [.tmp 0],
  (.seq (.region [
    ⟨(some 0), none, .val (.mv (.const (.bool false)))⟩] [])
  (.seq (.region [
    ⟨(some 22), none, .call (.const (.func (.func F.reviews_Standing) [] [])) [(.const .nil), (.const (.int 5))]⟩,
    ⟨(some 21), none, .val (.mv (.tmp 22))⟩,
    ⟨(some 23), none, .val (.extract 0 (.tmp 21))⟩,
    ⟨(some 24), none, .val (.extract 1 (.tmp 21))⟩,
    ⟨(some 1), none, .val (.mv (.tmp 23))⟩,
    ⟨(some 2), none, .val (.mv (.tmp 24))⟩] [22, 21, 23, 24])
  (.seq (.region [
    ⟨(some 26), none, .call (.const (.func (.func F.reviews_Standing) [] [])) [(.const .nil), (.const (.int (-1)))]⟩,
    ⟨(some 25), none, .val (.mv (.tmp 26))⟩,
    ⟨(some 27), none, .val (.extract 0 (.tmp 25))⟩,
    ⟨(some 28), none, .val (.extract 1 (.tmp 25))⟩,
    ⟨(some 3), none, .val (.mv (.tmp 27))⟩,
    ⟨(some 4), none, .val (.mv (.tmp 28))⟩] [26, 25, 27, 28, 3])
  (.seq (.region [
    ⟨(some 30), none, .call (.const (.func (.func F.reviews_Close) [] [])) [(.const .nil), (.const (.int 0)), (.const (.int 0)), (.const (.int 1))]⟩,
    ⟨(some 29), none, .val (.mv (.tmp 30))⟩,
    ⟨(some 31), none, .val (.extract 0 (.tmp 29))⟩,
    ⟨(some 32), none, .val (.extract 1 (.tmp 29))⟩,
    ⟨(some 5), none, .val (.mv (.tmp 31))⟩,
    ⟨(some 6), none, .val (.mv (.tmp 32))⟩] [30, 29, 31, 32, 5])
  (.seq (.region [
    ⟨(some 34), none, .call (.const (.func (.func F.reviews_Open) [] [])) [(.const .nil), (.const (.int 4)), (.const (.int 8)), (.const (.int 3))]⟩,
    ⟨(some 33), none, .val (.mv (.tmp 34))⟩,
    ⟨(some 35), none, .val (.extract 0 (.tmp 33))⟩,
    ⟨(some 36), none, .val (.extract 1 (.tmp 33))⟩,
    ⟨(some 7), none, .val (.mv (.tmp 35))⟩,
    ⟨(some 8), none, .val (.mv (.tmp 36))⟩] [34, 33, 35, 36])
  (.seq (.region [
    ⟨(some 38), none, .val (.mv (.tmp 7))⟩,
    ⟨(some 39), none, .call (.const (.func (.func F.reviews_Open) [] [])) [(.tmp 38), (.const (.int 4)), (.const (.int 0)), (.const (.int 0))]⟩,
    ⟨(some 37), none, .val (.mv (.tmp 39))⟩,
    ⟨(some 40), none, .val (.extract 0 (.tmp 37))⟩,
    ⟨(some 41), none, .val (.extract 1 (.tmp 37))⟩,
    ⟨(some 9), none, .val (.mv (.tmp 40))⟩,
    ⟨(some 10), none, .val (.mv (.tmp 41))⟩] [38, 39, 37, 40, 41, 9])
  (.seq (.region [
    ⟨(some 43), none, .val (.mv (.tmp 7))⟩,
    ⟨(some 44), none, .call (.const (.func (.func F.reviews_Close) [] [])) [(.tmp 43), (.const (.int 4)), (.const (.int 7)), (.const (.int 2))]⟩,
    ⟨(some 42), none, .val (.mv (.tmp 44))⟩,
    ⟨(some 45), none, .val (.extract 0 (.tmp 42))⟩,
    ⟨(some 46), none, .val (.extract 1 (.tmp 42))⟩,
    ⟨(some 11), none, .val (.mv (.tmp 45))⟩,
    ⟨(some 12), none, .val (.mv (.tmp 46))⟩] [43, 44, 42, 45, 46])
  (.seq (.region [
    ⟨(some 48), none, .val (.mv (.tmp 11))⟩,
    ⟨(some 49), none, .call (.const (.func (.func F.reviews_Close) [] [])) [(.tmp 48), (.const (.int 4)), (.const (.int 8)), (.const (.int 1))]⟩,
    ⟨(some 47), none, .val (.mv (.tmp 49))⟩,
    ⟨(some 50), none, .val (.extract 0 (.tmp 47))⟩,
    ⟨(some 51), none, .val (.extract 1 (.tmp 47))⟩,
    ⟨(some 13), none, .val (.mv (.tmp 50))⟩,
    ⟨(some 14), none, .val (.mv (.tmp 51))⟩] [48, 49, 47, 50, 51, 13])
  (.seq (.region [
    ⟨(some 53), none, .val (.mv (.tmp 11))⟩,
    ⟨(some 54), none, .call (.const (.func (.func F.reviews_Standing) [] [])) [(.tmp 53), (.const (.int 6))]⟩,
    ⟨(some 52), none, .val (.mv (.tmp 54))⟩,
    ⟨(some 55), none, .val (.extract 0 (.tmp 52))⟩,
    ⟨(some 56), none, .val (.extract 1 (.tmp 52))⟩,
    ⟨(some 15), none, .val (.mv (.tmp 55))⟩,
    ⟨(some 16), none, .val (.mv (.tmp 56))⟩] [53, 54, 52, 55, 56])
  (.seq (.region [
    ⟨(some 58), none, .val (.mv (.tmp 11))⟩,
    ⟨(some 59), none, .call (.const (.func (.func F.reviews_Standing) [] [])) [(.tmp 58), (.const (.int 7))]⟩,
    ⟨(some 57), none, .val (.mv (.tmp 59))⟩,
    ⟨(some 60), none, .val (.extract 0 (.tmp 57))⟩,
    ⟨(some 61), none, .val (.extract 1 (.tmp 57))⟩,
    ⟨(some 17), none, .val (.mv (.tmp 60))⟩,
    ⟨(some 18), none, .val (.mv (.tmp 61))⟩] [58, 59, 57, 60, 61])
  (.seq (.region (
    ⟨(some 62), none, .val (.mv (.tmp 2))⟩ ::
    ⟨(some 63), none, .val (.bin .eql T.apiErrno (.tmp 62) (.const (.int 0)))⟩ ::
    ⟨(some 64), none, .val (.mv (.tmp 63))⟩ ::
    ⟨(some 65), (some (64, true)), .val (.mv (.tmp 4))⟩ ::
    ⟨(some 66), (some (64, true)), .val (.bin .eql T.apiErrno (.tmp 65) (.const (.int 1)))⟩ ::
    ⟨(some 67), none, .val (.pick (.tmp 64) (.tmp 66) (.const (.bool false)))⟩ ::
    ⟨(some 68), none, .val (.mv (.tmp 67))⟩ ::
    ⟨(some 69), (some (68, true)), .val (.mv (.tmp 6))⟩ ::
    ⟨(some 70), (some (68, true)), .val (.bin .eql T.apiErrno (.tmp 69) (.const (.int 1)))⟩ ::
    ⟨(some 71), none, .val (.pick (.tmp 68) (.tmp 70) (.const (.bool false)))⟩ ::
    ⟨(some 72), none, .val (.mv (.tmp 71))⟩ ::
    ⟨(some 73), (some (72, true)), .val (.mv (.tmp 8))⟩ ::
    ⟨(some 74), (some (72, true)), .val (.bin .eql T.apiErrno (.tmp 73) (.const (.int 0)))⟩ ::
    ⟨(some 75), none, .val (.pick (.tmp 72) (.tmp 74) (.const (.bool false)))⟩ ::
    ⟨(some 76), none, .val (.mv (.tmp 75))⟩ ::
    ⟨(some 77), (some (76, true)), .val (.mv (.tmp 10))⟩ ::
    ⟨(some 78), (some (76, true)), .val (.bin .eql T.apiErrno (.tmp 77) (.const (.int 141)))⟩ ::
    ⟨(some 79), none, .val (.pick (.tmp 76) (.tmp 78) (.const (.bool false)))⟩ ::
    ⟨(some 80), none, .val (.mv (.tmp 79))⟩ ::
    ⟨(some 81), (some (80, true)), .val (.mv (.tmp 12))⟩ ::
    ⟨(some 82), (some (80, true)), .val (.bin .eql T.apiErrno (.tmp 81) (.const (.int 0)))⟩ ::
    ⟨(some 83), none, .val (.pick (.tmp 80) (.tmp 82) (.const (.bool false)))⟩ ::
    ⟨(some 84), none, .val (.mv (.tmp 83))⟩ ::
    ⟨(some 85), (some (84, true)), .val (.mv (.tmp 14))⟩ ::
    ⟨(some 86), (some (84, true)), .val (.bin .eql T.apiErrno (.tmp 85) (.const (.int 1)))⟩ ::
    ⟨(some 87), none, .val (.pick (.tmp 84) (.tmp 86) (.const (.bool false)))⟩ ::
    ⟨(some 88), none, .val (.mv (.tmp 87))⟩ ::
    ⟨(some 89), (some (88, true)), .val (.mv (.tmp 16))⟩ ::
    ⟨(some 90), (some (88, true)), .val (.bin .eql T.apiErrno (.tmp 89) (.const (.int 0)))⟩ ::
    ⟨(some 91), none, .val (.pick (.tmp 88) (.tmp 90) (.const (.bool false)))⟩ ::
    ⟨(some 92), none, .val (.mv (.tmp 91))⟩ ::
    ⟨(some 93), (some (92, true)), .val (.mv (.tmp 18))⟩ ::
    ⟨(some 94), (some (92, true)), .val (.bin .eql T.apiErrno (.tmp 93) (.const (.int 0)))⟩ ::
    ⟨(some 95), none, .val (.pick (.tmp 92) (.tmp 94) (.const (.bool false)))⟩ ::
    ⟨(some 19), none, .val (.mv (.tmp 95))⟩ :: []) (62 :: 63 :: 64 :: 65 :: 66 :: 67 :: 68 :: 69 :: 70 :: 71 :: 72 :: 73 :: 74 :: 75 :: 76 :: 77 :: 78 :: 79 :: 80 :: 81 :: 82 :: 83 :: 84 :: 85 :: 86 :: 87 :: 88 :: 89 :: 90 :: 91 :: 92 :: 93 :: 94 :: 95 :: []))
  (.seq (.region [
    ⟨(some 96), none, .val (.build [(.int 0), (.int 0), (.int 0), (.int 0), (.int 0)] [(0, 1, (.const (.int 4))), (1, 1, (.const (.int 8))), (2, 1, (.const (.int 3))), (3, 1, (.const (.int 7))), (4, 1, (.const (.int 2)))])⟩,
    ⟨(some 97), none, .val (.buildSlice T.apiReview 1 [(.int 0), (.int 0), (.int 0), (.int 0), (.int 0)] [(0, 5, (.tmp 96))])⟩,
    ⟨(some 20), none, .val (.mv (.tmp 97))⟩] [96, 97])
  (.seq (.region (
    ⟨(some 98), none, .val (.mv (.tmp 19))⟩ ::
    ⟨(some 99), none, .val (.mv (.tmp 98))⟩ ::
    ⟨(some 100), (some (99, true)), .val (.mv (.tmp 1))⟩ ::
    ⟨(some 101), (some (99, true)), .val (.len (.tmp 100))⟩ ::
    ⟨(some 102), (some (99, true)), .val (.mv (.tmp 17))⟩ ::
    ⟨(some 103), (some (99, true)), .val (.len (.tmp 102))⟩ ::
    ⟨(some 104), (some (99, true)), .val (.bin .add T.int (.tmp 101) (.tmp 103))⟩ ::
    ⟨(some 105), (some (99, true)), .val (.bin .eql T.int (.tmp 104) (.const (.int 0)))⟩ ::
    ⟨(some 106), none, .val (.pick (.tmp 99) (.tmp 105) (.const (.bool false)))⟩ ::
    ⟨(some 107), none, .val (.mv (.tmp 106))⟩ ::
    ⟨(some 108), (some (107, true)), .val (.mv (.tmp 7))⟩ ::
    ⟨(some 109), (some (107, true)), .val (.build [(.int 0), (.int 0), (.int 0), (.int 0), (.int 0)] [(0, 1, (.const (.int 4))), (1, 1, (.const (.int 8))), (2, 1, (.const (.int 3))), (3, 1, (.const (.int (-1))))])⟩ ::
    ⟨(some 110), (some (107, true)), .val (.buildSlice T.apiReview 1 [(.int 0), (.int 0), (.int 0), (.int 0), (.int 0)] [(0, 5, (.tmp 109))])⟩ ::
    ⟨(some 111), (some (107, true)), .call (.const (.func (.func F.podiumref44_Same) [] [])) [(.tmp 108), (.tmp 110)]⟩ ::
    ⟨(some 112), none, .val (.pick (.tmp 107) (.tmp 111) (.const (.bool false)))⟩ ::
    ⟨(some 113), none, .val (.mv (.tmp 112))⟩ ::
    ⟨(some 114), (some (113, true)), .val (.mv (.tmp 11))⟩ ::
    ⟨(some 115), (some (113, true)), .val (.mv (.tmp 20))⟩ ::
    ⟨(some 116), (some (113, true)), .call (.const (.func (.func F.podiumref44_Same) [] [])) [(.tmp 114), (.tmp 115)]⟩ ::
    ⟨(some 117), none, .val (.pick (.tmp 113) (.tmp 116) (.const (.bool false)))⟩ ::
    ⟨(some 118), none, .val (.mv (.tmp 117))⟩ ::
    ⟨(some 119), (some (118, true)), .val (.mv (.tmp 15))⟩ ::
    ⟨(some 120), (some (118, true)), .val (.mv (.tmp 20))⟩ ::
    ⟨(some 121), (some (118, true)), .call (.const (.func (.func F.podiumref44_Same) [] [])) [(.tmp 119), (.tmp 120)]⟩ ::
    ⟨(some 122), none, .val (.pick (.tmp 118) (.tmp 121) (.const (.bool false)))⟩ ::
    ⟨(some 123), none, .val (.mv (.tmp 122))⟩ ::
    ⟨(some 124), (some (123, true)), .val (.mv (.tmp 11))⟩ ::
    ⟨(some 125), (some (123, true)), .call (.const (.func (.func F.reviews_Check) [] [])) [(.tmp 124)]⟩ ::
    ⟨(some 126), (some (123, true)), .val (.bin .eql T.apiErrno (.tmp 125) (.const (.int 0)))⟩ ::
    ⟨(some 127), none, .val (.pick (.tmp 123) (.tmp 126) (.const (.bool false)))⟩ ::
    ⟨(some 128), none, .val (.mv (.tmp 127))⟩ ::
    ⟨(some 129), (some (128, true)), .val (.build [(.int 0), (.int 0), (.int 0), (.int 0), (.int 0)] [])⟩ ::
    ⟨(some 130), (some (128, true)), .val (.build [(.int 0), (.int 0), (.int 0), (.int 0), (.int 0)] [])⟩ ::
    ⟨(some 131), (some (128, true)), .val (.buildSlice T.apiReview 2 [(.int 0), (.int 0), (.int 0), (.int 0), (.int 0), (.int 0), (.int 0), (.int 0), (.int 0), (.int 0)] [(0, 5, (.tmp 129)), (5, 5, (.tmp 130))])⟩ ::
    ⟨(some 132), (some (128, true)), .call (.const (.func (.func F.reviews_Check) [] [])) [(.tmp 131)]⟩ ::
    ⟨(some 133), (some (128, true)), .val (.bin .eql T.apiErrno (.tmp 132) (.const (.int 440)))⟩ ::
    ⟨(some 134), none, .val (.pick (.tmp 128) (.tmp 133) (.const (.bool false)))⟩ ::
    ⟨(some 0), none, .val (.mv (.tmp 134))⟩ :: []) (98 :: 99 :: 100 :: 101 :: 102 :: 103 :: 104 :: 105 :: 106 :: 107 :: 108 :: 109 :: 110 :: 111 :: 112 :: 113 :: 114 :: 115 :: 116 :: 117 :: 118 :: 119 :: 120 :: 121 :: 122 :: 123 :: 124 :: 125 :: 126 :: 127 :: 128 :: 129 :: 130 :: 131 :: 132 :: 133 :: 134 :: []))
  .ret)))))))))))))⟩
theorem H.podiumlaw44_sane : Has P F.podiumlaw44_sane C.podiumlaw44_sane := ⟨Try.f8, Try.func8, by kernel_rfl, by kernel_rfl⟩

/-- podium/podiumref44.Few -/
noncomputable def C.podiumref44_Few : MFunc := ⟨16, 1, [.tmp 2],
  (.seq (.region [
    ⟨(some 2), none, .val (.mv (.const (.bool false)))⟩] [])
  (.seq (.region [
    ⟨(some 3), none, .val (.mv (.tmp 0))⟩,
    ⟨(some 4), none, .val (.len (.tmp 3))⟩,
    ⟨(some 5), none, .val (.bin .leq T.int (.tmp 4) (.const (.int 30)))⟩,
    ⟨(some 6), none, .val (.mv (.tmp 5))⟩,
    ⟨(some 7), (some (6, false)), .val (.mv (.tmp 0))⟩,
    ⟨(some 8), (some (6, false)), .val (.len (.tmp 7))⟩,
    ⟨(some 9), (some (6, false)), .val (.bin .geq T.int (.tmp 8) (.const (.int 1000)))⟩,
    ⟨(some 10), (some (6, false)), .val (.mv (.tmp 9))⟩,
    ⟨(some 11), (some (10, true)), .val (.mv (.tmp 0))⟩,
    ⟨(some 12), (some (10, true)), .val (.len (.tmp 11))⟩,
    ⟨(some 13), (some (10, true)), .val (.bin .leq T.int (.tmp 12) (.const (.int 1100)))⟩,
    ⟨(some 14), (some (6, false)), .val (.pick (.tmp 10) (.tmp 13) (.const (.bool false)))⟩,
    ⟨(some 15), none, .val (.pick (.tmp 6) (.const (.bool true)) (.tmp 14))⟩,
    ⟨(some 2), none, .val (.mv (.tmp 15))⟩] [3, 4, 5, 6, 7, 8, 9, 10, 11, 12, 13, 14, 15])
  .ret))⟩
theorem H.podiumref44_Few : Has P F.podiumref44_Few C.podiumref44_Few := ⟨Try.f9, Try.func9, by kernel_rfl, by kernel_rfl⟩

/-- podium/reviews.Standing -/
noncomputable def C.reviews_Standing : MFunc := ⟨18, 2, [.tmp 4, .tmp 5],
  (.seq (.region [
    ⟨(some 4), none, .val (.mv (.const .nil))⟩,
    ⟨(some 5), none, .val (.mv (.const (.int 0)))⟩] [])
  (.seq (.seq (.region [
    ⟨(some 6), none, .val (.mv (.tmp 0))⟩,
    ⟨(some 7), none, .call (.const (.func (.func F.reviews_Check) [] [])) [(.tmp 6)]⟩,
    ⟨(some 5), none, .val (.mv (.tmp 7))⟩] [6, 7])
  (.seq (.region [
    ⟨(some 8), none, .val (.mv (.tmp 5))⟩,
    ⟨(some 9), none, .val (.bin .neq T.apiErrno (.tmp 8) (.const (.int 0)))⟩] [8])
  (.cond (.tmp 9)
  (.seq (.region [
    ⟨(some 10), none, .val (.mv (.tmp 5))⟩,
    ⟨(some 4), none, .val (.mv (.const .nil))⟩,
    ⟨(some 5), none, .val (.mv (.tmp 10))⟩] [10])
  .ret)
  .skip)))
  (.seq (.seq (.region [
    ⟨(some 11), none, .val (.mv (.tmp 1))⟩,
    ⟨(some 12), none, .call (.const (.func (.func F.reviews_within) [] [])) [(.tmp 11), (.const (.int 2097152))]⟩,
    ⟨(some 13), none, .val (.un .not (.tmp 12))⟩] [11, 12])
  (.cond (.tmp 13)
  (.seq (.region [
    ⟨(some 4), none, .val (.mv (.const .nil))⟩,
    ⟨(some 5), none, .val (.mv (.const (.int 1)))⟩] [])
  .ret)
  .skip))
  (.seq (.region [
    ⟨(some 14), none, .val (.mv (.tmp 0))⟩,
    ⟨(some 15), none, .val (.mv (.tmp 1))⟩,
    ⟨(some 16), none, .call (.const (.func (.func F.reviews_standing) [] [])) [(.tmp 14), (.tmp 15)]⟩,
    ⟨(some 17), none, .call (.const (.func (.func F.slices_Collect__apiReview) [] [])) [(.tmp 16)]⟩,
    ⟨(some 4), none, .val (.mv (.tmp 17))⟩,
    ⟨(some 5), none, .val (.mv (.const (.int 0)))⟩] [14, 15, 16, 17])
  .ret))))⟩
theorem H.reviews_Standing : Has P F.reviews_Standing C.reviews_Standing := ⟨Try.f10, Try.func10, by kernel_rfl, by kernel_rfl⟩

/-- podium/podiumref44.Standing -/
noncomputable def C.podiumref44_Standing : MFunc := ⟨38, 2, [.tmp 4, .tmp 5],
  (.seq (.region [
    ⟨(some 4), none, .val (.mv (.const .nil))⟩,
    ⟨(some 5), none, .val (.mv (.const (.int 0)))⟩] [])
  (.seq (.region [
    ⟨(some 9), none, .val (.mv (.tmp 0))⟩,
    ⟨(some 10), none, .call (.const (.func (.func F.podiumref44_Check) [] [])) [(.tmp 9)]⟩,
    ⟨(some 6), none, .val (.mv (.tmp 10))⟩] [9, 10])
  (.seq (.seq (.region [
    ⟨(some 11), none, .val (.mv (.tmp 6))⟩,
    ⟨(some 12), none, .val (.bin .neq T.apiErrno (.tmp 11) (.const (.int 0)))⟩] [11])
  (.cond (.tmp 12)
  (.seq (.region [
    ⟨(some 13), none, .val (.mv (.tmp 6))⟩,
    ⟨(some 4), none, .val (.mv (.const .nil))⟩,
    ⟨(some 5), none, .val (.mv (.tmp 13))⟩] [13])
  .ret)
  .skip))
  (.seq (.seq (.region [
    ⟨(some 14), none, .val (.mv (.tmp 1))⟩,
    ⟨(some 15), none, .call (.const (.func (.func F.podiumref44_moment) [] [])) [(.tmp 14)]⟩,
    ⟨(some 16), none, .val (.un .not (.tmp 15))⟩] [14, 15])
  (.cond (.tmp 16)
  (.seq (.region [
    ⟨(some 4), none, .val (.mv (.const .nil))⟩,
    ⟨(some 5), none, .val (.mv (.const (.int 1)))⟩] [])
  .ret)
  .skip))
  (.seq (.region [
    ⟨(some 17), none, .val (.buildSlice T.apiReview 0 [] [])⟩,
    ⟨(some 7), none, .val (.mv (.tmp 17))⟩] [17])
  (.seq (.seq (.region [
    ⟨(some 8), none, .val (.mv (.const (.int 0)))⟩] [])
  (.block 0 (.loop (.seq (.seq (.region [
    ⟨(some 18), none, .val (.mv (.tmp 8))⟩,
    ⟨(some 19), none, .val (.mv (.tmp 0))⟩,
    ⟨(some 20), none, .val (.len (.tmp 19))⟩,
    ⟨(some 21), none, .val (.bin .lss T.int (.tmp 18) (.tmp 20))⟩] [18, 19, 20])
  (.cond (.tmp 21)
  .skip
  (.exit 0)))
  (.seq (.block 1 (.seq (.region [
    ⟨(some 24), none, .val (.mv (.tmp 0))⟩,
    ⟨(some 25), none, .val (.mv (.tmp 8))⟩,
    ⟨(some 26), none, .val (.indexAddr 5 (.tmp 24) (.tmp 25))⟩,
    ⟨(some 27), none, .val (.load 5 true (.tmp 26))⟩,
    ⟨(some 28), none, .val (.mv (.tmp 1))⟩,
    ⟨(some 29), none, .call (.const (.func (.func F.podiumref44_Stands) [] [])) [(.tmp 27), (.tmp 28)]⟩] [24, 25, 26, 27, 28])
  (.cond (.tmp 29)
  (.region [
    ⟨(some 30), none, .val (.mv (.tmp 7))⟩,
    ⟨(some 31), none, .val (.mv (.tmp 0))⟩,
    ⟨(some 32), none, .val (.mv (.tmp 8))⟩,
    ⟨(some 33), none, .val (.indexAddr 5 (.tmp 31) (.tmp 32))⟩,
    ⟨(some 34), none, .val (.load 5 true (.tmp 33))⟩,
    ⟨(some 35), none, .val (.buildSlice T.apiReview 1 [(.int 0), (.int 0), (.int 0), (.int 0), (.int 0)] [(0, 5, (.tmp 34))])⟩,
    ⟨(some 36), none, .append T.apiReview 40 5 (.tmp 30) (.tmp 35)⟩,
    ⟨(some 7), none, .val (.mv (.tmp 36))⟩] [30, 31, 32, 33, 34, 35, 36])
  .skip)))
  (.region [
    ⟨(some 22), none, .val (.mv (.tmp 8))⟩,
    ⟨(some 23), none, .val (.bin .add T.int (.tmp 22) (.const (.int 1)))⟩,
    ⟨(some 8), none, .val (.mv (.tmp 23))⟩] [22, 23]))))))
  (.seq (.region [
    ⟨(some 37), none, .val (.mv (.tmp 7))⟩,
    ⟨(some 4), none, .val (.mv (.tmp 37))⟩,
    ⟨(some 5), none, .val (.mv (.const (.int 0)))⟩] [37])
  .ret)))))))⟩
theorem H.podiumref44_Standing : Has P F.podiumref44_Standing C.podiumref44_Standing := ⟨Try.f11, Try.func11, by kernel_rfl, by kernel_rfl⟩

/-- podium/reviews.Check -/
noncomputable def C.reviews_Check : MFunc := ⟨27, 1, [.tmp 2],
  (.seq (.region [
    ⟨(some 2), none, .val (.mv (.const (.int 0)))⟩] [])
  (.seq (.seq (.region [
    ⟨(some 6), none, .val (.mv (.tmp 0))⟩,
    ⟨(some 7), none, .val (.len (.tmp 6))⟩,
    ⟨(some 8), none, .val (.bin .gtr T.int (.tmp 7) (.const (.int 1024)))⟩] [6, 7])
  (.cond (.tmp 8)
  (.seq (.region [
    ⟨(some 2), none, .val (.mv (.const (.int 2)))⟩] [])
  .ret)
  .skip))
  (.seq (.region [
    ⟨(some 3), none, .val (.mv (.const (.int (-1))))⟩] [])
  (.seq (.seq (.region [
    ⟨(some 9), none, .val (.mv (.tmp 0))⟩,
    ⟨(some 10), none, .val (.len (.tmp 9))⟩,
    ⟨(some 11), none, .val (.mv (.const (.int 0)))⟩] [])
  (.block 0 (.loop (.seq (.region [
    ⟨(some 12), none, .val (.bin .lss T.int (.tmp 11) (.tmp 10))⟩] [])
  (.seq (.cond (.tmp 12)
  .skip
  (.exit 0))
  (.seq (.block 1 (.seq (.region [
    ⟨(some 13), none, .val (.indexAddr 5 (.tmp 9) (.tmp 11))⟩,
    ⟨(some 14), none, .val (.load 5 true (.tmp 13))⟩,
    ⟨(some 5), none, .alloc T.apiReview [(.int 0), (.int 0), (.int 0), (.int 0), (.int 0)]⟩,
    ⟨none, none, .store 5 (.tmp 5) (.tmp 14)⟩] [13, 14])
  (.seq (.seq (.region [
    ⟨(some 15), none, .val (.fieldAddr 0 (.tmp 5))⟩,
    ⟨(some 16), none, .val (.load 1 false (.tmp 15))⟩,
    ⟨(some 17), none, .val (.mv (.tmp 3))⟩,
    ⟨(some 18), none, .val (.bin .leq T.int (.tmp 16) (.tmp 17))⟩,
    ⟨(some 19), none, .val (.mv (.tmp 18))⟩,
    ⟨(some 20), (some (19, false)), .val (.load 5 true (.tmp 5))⟩,
    ⟨(some 21), (some (19, false)), .call (.const (.func (.func F.reviews_valid) [] [])) [(.tmp 20)]⟩,
    ⟨(some 22), (some (19, false)), .val (.un .not (.tmp 21))⟩,
    ⟨(some 23), none, .val (.pick (.tmp 19) (.const (.bool true)) (.tmp 22))⟩] [15, 16, 17, 18, 19, 20, 21, 22])
  (.cond (.tmp 23)
  (.seq (.region [
    ⟨(some 2), none, .val (.mv (.const (.int 440)))⟩] [])
  .ret)
  .skip))
  (.region [
    ⟨(some 24), none, .val (.fieldAddr 0 (.tmp 5))⟩,
    ⟨(some 25), none, .val (.load 1 false (.tmp 24))⟩,
    ⟨(some 3), none, .val (.mv (.tmp 25))⟩] [24, 25]))))
  (.region [
    ⟨(some 26), none, .val (.bin .add T.int (.tmp 11) (.const (.int 1)))⟩,
    ⟨(some 11), none, .val (.mv (.tmp 26))⟩] [26])))))))
  (.seq (.region [
    ⟨(some 2), none, .val (.mv (.const (.int 0)))⟩] [])
  .ret)))))⟩
theorem H.reviews_Check : Has P F.reviews_Check C.reviews_Check := ⟨Try.f12, Try.func12, by kernel_rfl, by kernel_rfl⟩

/-- podium/podiumref44.Check -/
noncomputable def C.podiumref44_Check : MFunc := ⟨37, 1, [.tmp 2],
  (.seq (.region [
    ⟨(some 2), none, .val (.mv (.const (.int 0)))⟩] [])
  (.seq (.seq (.region [
    ⟨(some 4), none, .val (.mv (.tmp 0))⟩,
    ⟨(some 5), none, .val (.len (.tmp 4))⟩,
    ⟨(some 6), none, .val (.bin .gtr T.int (.tmp 5) (.const (.int 1024)))⟩] [4, 5])
  (.cond (.tmp 6)
  (.seq (.region [
    ⟨(some 2), none, .val (.mv (.const (.int 2)))⟩] [])
  .ret)
  .skip))
  (.seq (.seq (.region [
    ⟨(some 3), none, .val (.mv (.const (.int 0)))⟩] [])
  (.block 0 (.loop (.seq (.seq (.region [
    ⟨(some 7), none, .val (.mv (.tmp 3))⟩,
    ⟨(some 8), none, .val (.mv (.tmp 0))⟩,
    ⟨(some 9), none, .val (.len (.tmp 8))⟩,
    ⟨(some 10), none, .val (.bin .lss T.int (.tmp 7) (.tmp 9))⟩] [7, 8, 9])
  (.cond (.tmp 10)
  .skip
  (.exit 0)))
  (.seq (.block 1 (.seq (.draw true [
    (.early, ⟨(some 13), none, .val (.mv (.tmp 0))⟩),
    (.early, ⟨(some 14), none, .val (.mv (.tmp 3))⟩),
    (.early, ⟨(some 15), none, .val (.indexAddr 5 (.tmp 13) (.tmp 14))⟩),
    (.early, ⟨(some 16), none, .val (.load 5 true (.tmp 15))⟩),
    (.hard, ⟨(some 17), none, .call (.const (.func (.func F.podiumref44_Valid) [] [])) [(.tmp 16)]⟩),
    (.late, ⟨(some 18), none, .val (.un .not (.tmp 17))⟩),
    (.late, ⟨(some 19), none, .val (.mv (.tmp 18))⟩),
    (.late, ⟨(some 20), (some (19, false)), .val (.mv (.tmp 3))⟩),
    (.late, ⟨(some 21), (some (19, false)), .val (.bin .gtr T.int (.tmp 20) (.const (.int 0)))⟩),
    (.late, ⟨(some 22), (some (19, false)), .val (.mv (.tmp 21))⟩),
    (.late, ⟨(some 23), (some (22, true)), .val (.mv (.tmp 0))⟩),
    (.late, ⟨(some 24), (some (22, true)), .val (.mv (.tmp 3))⟩),
    (.late, ⟨(some 25), (some (22, true)), .val (.bin .sub T.int (.tmp 24) (.const (.int 1)))⟩),
    (.late, ⟨(some 26), (some (22, true)), .val (.indexAddr 5 (.tmp 23) (.tmp 25))⟩),
    (.late, ⟨(some 27), (some (22, true)), .val (.fieldAddr 0 (.tmp 26))⟩),
    (.late, ⟨(some 28), (some (22, true)), .val (.load 1 false (.tmp 27))⟩),
    (.late, ⟨(some 29), (some (22, true)), .val (.mv (.tmp 0))⟩),
    (.late, ⟨(some 30), (some (22, true)), .val (.mv (.tmp 3))⟩),
    (.late, ⟨(some 31), (some (22, true)), .val (.indexAddr 5 (.tmp 29) (.tmp 30))⟩),
    (.late, ⟨(some 32), (some (22, true)), .val (.fieldAddr 0 (.tmp 31))⟩),
    (.late, ⟨(some 33), (some (22, true)), .val (.load 1 false (.tmp 32))⟩),
    (.late, ⟨(some 34), (some (22, true)), .val (.bin .geq T.int (.tmp 28) (.tmp 33))⟩),
    (.late, ⟨(some 35), (some (19, false)), .val (.pick (.tmp 22) (.tmp 34) (.const (.bool false)))⟩),
    (.late, ⟨(some 36), none, .val (.pick (.tmp 19) (.const (.bool true)) (.tmp 35))⟩)] [13, 14, 15, 16, 17, 18, 19, 20, 21, 22, 23, 24, 25, 26, 27, 28, 29, 30, 31, 32, 33, 34, 35])
  (.cond (.tmp 36)
  (.seq (.region [
    ⟨(some 2), none, .val (.mv (.const (.int 440)))⟩] [])
  .ret)
  .skip)))
  (.region [
    ⟨(some 11), none, .val (.mv (.tmp 3))⟩,
    ⟨(some 12), none, .val (.bin .add T.int (.tmp 11) (.const (.int 1)))⟩,
    ⟨(some 3), none, .val (.mv (.tmp 12))⟩] [11, 12]))))))
  (.seq (.region [
    ⟨(some 2), none, .val (.mv (.const (.int 0)))⟩] [])
  .ret))))⟩
theorem H.podiumref44_Check : Has P F.podiumref44_Check C.podiumref44_Check := ⟨Try.f13, Try.func13, by kernel_rfl, by kernel_rfl⟩

/-- podium/podiumref44.Same -/
noncomputable def C.podiumref44_Same : MFunc := ⟨26, 2, [.tmp 4],
  (.seq (.region [
    ⟨(some 4), none, .val (.mv (.const (.bool false)))⟩] [])
  (.seq (.seq (.region [
    ⟨(some 6), none, .val (.mv (.tmp 0))⟩,
    ⟨(some 7), none, .val (.len (.tmp 6))⟩,
    ⟨(some 8), none, .val (.mv (.tmp 1))⟩,
    ⟨(some 9), none, .val (.len (.tmp 8))⟩,
    ⟨(some 10), none, .val (.bin .neq T.int (.tmp 7) (.tmp 9))⟩] [6, 7, 8, 9])
  (.cond (.tmp 10)
  (.seq (.region [
    ⟨(some 4), none, .val (.mv (.const (.bool false)))⟩] [])
  .ret)
  .skip))
  (.seq (.seq (.region [
    ⟨(some 5), none, .val (.mv (.const (.int 0)))⟩] [])
  (.block 0 (.loop (.seq (.seq (.region [
    ⟨(some 11), none, .val (.mv (.tmp 5))⟩,
    ⟨(some 12), none, .val (.mv (.tmp 0))⟩,
    ⟨(some 13), none, .val (.len (.tmp 12))⟩,
    ⟨(some 14), none, .val (.bin .lss T.int (.tmp 11) (.tmp 13))⟩] [11, 12, 13])
  (.cond (.tmp 14)
  .skip
  (.exit 0)))
  (.seq (.block 1 (.seq (.draw false [
    (.early, ⟨(some 17), none, .val (.mv (.tmp 0))⟩),
    (.early, ⟨(some 18), none, .val (.mv (.tmp 5))⟩),
    (.early, ⟨(some 19), none, .val (.indexAddr 5 (.tmp 17) (.tmp 18))⟩),
    (.early, ⟨(some 20), none, .val (.load 5 true (.tmp 19))⟩),
    (.early, ⟨(some 21), none, .val (.mv (.tmp 1))⟩),
    (.early, ⟨(some 22), none, .val (.mv (.tmp 5))⟩),
    (.early, ⟨(some 23), none, .val (.indexAddr 5 (.tmp 21) (.tmp 22))⟩),
    (.early, ⟨(some 24), none, .val (.load 5 true (.tmp 23))⟩),
    (.early, ⟨(some 25), none, .val (.eqAgg true [.int, .int, .int, .int, .int] (.tmp 20) (.tmp 24))⟩)] [17, 18, 19, 20, 21, 22, 23, 24])
  (.cond (.tmp 25)
  (.seq (.region [
    ⟨(some 4), none, .val (.mv (.const (.bool false)))⟩] [])
  .ret)
  .skip)))
  (.region [
    ⟨(some 15), none, .val (.mv (.tmp 5))⟩,
    ⟨(some 16), none, .val (.bin .add T.int (.tmp 15) (.const (.int 1)))⟩,
    ⟨(some 5), none, .val (.mv (.tmp 16))⟩] [15, 16]))))))
  (.seq (.region [
    ⟨(some 4), none, .val (.mv (.const (.bool true)))⟩] [])
  .ret))))⟩
theorem H.podiumref44_Same : Has P F.podiumref44_Same C.podiumref44_Same := ⟨Try.f14, Try.func14, by kernel_rfl, by kernel_rfl⟩

/-- podium/reviews.Open -/
noncomputable def C.reviews_Open : MFunc := ⟨43, 4, [.tmp 8, .tmp 9],
  (.seq (.region [
    ⟨(some 8), none, .val (.mv (.const .nil))⟩,
    ⟨(some 9), none, .val (.mv (.const (.int 0)))⟩] [])
  (.seq (.seq (.region [
    ⟨(some 13), none, .val (.mv (.tmp 0))⟩,
    ⟨(some 14), none, .call (.const (.func (.func F.reviews_Check) [] [])) [(.tmp 13)]⟩,
    ⟨(some 9), none, .val (.mv (.tmp 14))⟩] [13, 14])
  (.seq (.region [
    ⟨(some 15), none, .val (.mv (.tmp 9))⟩,
    ⟨(some 16), none, .val (.bin .neq T.apiErrno (.tmp 15) (.const (.int 0)))⟩] [15])
  (.cond (.tmp 16)
  (.seq (.region [
    ⟨(some 17), none, .val (.mv (.tmp 9))⟩,
    ⟨(some 8), none, .val (.mv (.const .nil))⟩,
    ⟨(some 9), none, .val (.mv (.tmp 17))⟩] [17])
  .ret)
  .skip)))
  (.seq (.region [
    ⟨(some 18), none, .val (.mv (.tmp 1))⟩,
    ⟨(some 19), none, .val (.mv (.tmp 2))⟩,
    ⟨(some 20), none, .val (.mv (.tmp 3))⟩,
    ⟨(some 21), none, .val (.build [(.int 0), (.int 0), (.int 0), (.int 0), (.int 0)] [(0, 1, (.tmp 18)), (1, 1, (.tmp 19)), (2, 1, (.tmp 20)), (3, 1, (.const (.int (-1))))])⟩,
    ⟨(some 10), none, .alloc T.apiReview [(.int 0), (.int 0), (.int 0), (.int 0), (.int 0)]⟩,
    ⟨none, none, .store 5 (.tmp 10) (.tmp 21)⟩] [18, 19, 20, 21])
  (.seq (.seq (.region [
    ⟨(some 22), none, .val (.load 5 true (.tmp 10))⟩,
    ⟨(some 23), none, .call (.const (.func (.func F.reviews_valid) [] [])) [(.tmp 22)]⟩,
    ⟨(some 24), none, .val (.un .not (.tmp 23))⟩] [22, 23])
  (.cond (.tmp 24)
  (.seq (.region [
    ⟨(some 8), none, .val (.mv (.const .nil))⟩,
    ⟨(some 9), none, .val (.mv (.const (.int 1)))⟩] [])
  .ret)
  .skip))
  (.seq (.region [
    ⟨(some 26), none, .val (.mv (.tmp 0))⟩,
    ⟨(some 27), none, .val (.mv (.tmp 1))⟩,
    ⟨(some 28), none, .call (.const (.func (.func F.reviews_place__apiReview_int) [] [])) [(.tmp 26), (.tmp 27), (.const (.func (.func F.reviews_number) [] []))]⟩,
    ⟨(some 25), none, .val (.mv (.tmp 28))⟩,
    ⟨(some 29), none, .val (.extract 0 (.tmp 25))⟩,
    ⟨(some 30), none, .val (.extract 1 (.tmp 25))⟩,
    ⟨(some 11), none, .val (.mv (.tmp 29))⟩,
    ⟨(some 12), none, .val (.mv (.tmp 30))⟩] [26, 27, 28, 25, 29, 30])
  (.seq (.block 0 (.seq (.region [
    ⟨(some 32), none, .val (.mv (.tmp 12))⟩,
    ⟨(some 31), none, .val (.mv (.tmp 32))⟩] [32])
  (.cond (.tmp 31)
  (.seq (.region [
    ⟨(some 8), none, .val (.mv (.const .nil))⟩,
    ⟨(some 9), none, .val (.mv (.const (.int 141)))⟩] [])
  .ret)
  (.seq (.region [
    ⟨(some 34), none, .val (.mv (.tmp 0))⟩,
    ⟨(some 35), none, .val (.len (.tmp 34))⟩,
    ⟨(some 36), none, .val (.bin .eql T.int (.tmp 35) (.const (.int 1024)))⟩,
    ⟨(some 33), none, .val (.mv (.tmp 36))⟩] [34, 35, 36])
  (.cond (.tmp 33)
  (.seq (.region [
    ⟨(some 8), none, .val (.mv (.const .nil))⟩,
    ⟨(some 9), none, .val (.mv (.const (.int 2)))⟩] [])
  .ret)
  .skip)))))
  (.seq (.draw true [
    (.early, ⟨(some 37), none, .val (.mv (.tmp 0))⟩),
    (.late, ⟨(some 39), none, .val (.mv (.tmp 11))⟩),
    (.late, ⟨(some 40), none, .val (.load 5 true (.tmp 10))⟩),
    (.late, ⟨(some 41), none, .val (.buildSlice T.apiReview 1 [(.int 0), (.int 0), (.int 0), (.int 0), (.int 0)] [(0, 5, (.tmp 40))])⟩),
    (.hard, ⟨(some 38), none, .call (.const (.func (.func F.slices_Clone__LapiReview_apiReview) [] [])) [(.tmp 37)]⟩),
    (.hard, ⟨(some 42), none, .call (.const (.func (.func F.slices_Insert__LapiReview_apiReview) [] [])) [(.tmp 38), (.tmp 39), (.tmp 41)]⟩),
    (.late, ⟨(some 8), none, .val (.mv (.tmp 42))⟩),
    (.late, ⟨(some 9), none, .val (.mv (.const (.int 0)))⟩)] [37, 38, 39, 40, 41, 42])
  .ret)))))))⟩
theorem H.reviews_Open : Has P F.reviews_Open C.reviews_Open := ⟨Try.f15, Try.func15, by kernel_rfl, by kernel_rfl⟩

/-- podium/podiumref44.Open -/
noncomputable def C.podiumref44_Open : MFunc := ⟨69, 4, [.tmp 8, .tmp 9],
  (.seq (.region [
    ⟨(some 8), none, .val (.mv (.const .nil))⟩,
    ⟨(some 9), none, .val (.mv (.const (.int 0)))⟩] [])
  (.seq (.region [
    ⟨(some 13), none, .val (.mv (.tmp 0))⟩,
    ⟨(some 14), none, .call (.const (.func (.func F.podiumref44_Check) [] [])) [(.tmp 13)]⟩,
    ⟨(some 10), none, .val (.mv (.tmp 14))⟩] [13, 14])
  (.seq (.seq (.region [
    ⟨(some 15), none, .val (.mv (.tmp 10))⟩,
    ⟨(some 16), none, .val (.bin .neq T.apiErrno (.tmp 15) (.const (.int 0)))⟩] [15])
  (.cond (.tmp 16)
  (.seq (.region [
    ⟨(some 17), none, .val (.mv (.tmp 10))⟩,
    ⟨(some 8), none, .val (.mv (.const .nil))⟩,
    ⟨(some 9), none, .val (.mv (.tmp 17))⟩] [17])
  .ret)
  .skip))
  (.seq (.seq (.region [
    ⟨(some 18), none, .val (.mv (.tmp 1))⟩,
    ⟨(some 19), none, .call (.const (.func (.func F.podiumref44_id) [] [])) [(.tmp 18)]⟩,
    ⟨(some 20), none, .val (.un .not (.tmp 19))⟩,
    ⟨(some 21), none, .val (.mv (.tmp 20))⟩,
    ⟨(some 22), (some (21, false)), .val (.mv (.tmp 2))⟩,
    ⟨(some 23), (some (21, false)), .call (.const (.func (.func F.podiumref44_id) [] [])) [(.tmp 22)]⟩,
    ⟨(some 24), (some (21, false)), .val (.un .not (.tmp 23))⟩,
    ⟨(some 25), none, .val (.pick (.tmp 21) (.const (.bool true)) (.tmp 24))⟩,
    ⟨(some 26), none, .val (.mv (.tmp 25))⟩,
    ⟨(some 27), (some (26, false)), .val (.mv (.tmp 3))⟩,
    ⟨(some 28), (some (26, false)), .call (.const (.func (.func F.podiumref44_moment) [] [])) [(.tmp 27)]⟩,
    ⟨(some 29), (some (26, false)), .val (.un .not (.tmp 28))⟩,
    ⟨(some 30), none, .val (.pick (.tmp 26) (.const (.bool true)) (.tmp 29))⟩] [18, 19, 20, 21, 22, 23, 24, 25, 26, 27, 28, 29])
  (.cond (.tmp 30)
  (.seq (.region [
    ⟨(some 8), none, .val (.mv (.const .nil))⟩,
    ⟨(some 9), none, .val (.mv (.const (.int 1)))⟩] [])
  .ret)
  .skip))
  (.seq (.seq (.region [
    ⟨(some 31), none, .val (.mv (.tmp 0))⟩,
    ⟨(some 32), none, .val (.mv (.tmp 1))⟩,
    ⟨(some 33), none, .call (.const (.func (.func F.podiumref44_Index) [] [])) [(.tmp 31), (.tmp 32)]⟩,
    ⟨(some 34), none, .val (.bin .geq T.int (.tmp 33) (.const (.int 0)))⟩] [31, 32, 33])
  (.cond (.tmp 34)
  (.seq (.region [
    ⟨(some 8), none, .val (.mv (.const .nil))⟩,
    ⟨(some 9), none, .val (.mv (.const (.int 141)))⟩] [])
  .ret)
  .skip))
  (.seq (.seq (.region [
    ⟨(some 35), none, .val (.mv (.tmp 0))⟩,
    ⟨(some 36), none, .val (.len (.tmp 35))⟩,
    ⟨(some 37), none, .val (.bin .eql T.int (.tmp 36) (.const (.int 1024)))⟩] [35, 36])
  (.cond (.tmp 37)
  (.seq (.region [
    ⟨(some 8), none, .val (.mv (.const .nil))⟩,
    ⟨(some 9), none, .val (.mv (.const (.int 2)))⟩] [])
  .ret)
  .skip))
  (.seq (.region [
    ⟨(some 11), none, .val (.mv (.const (.int 0)))⟩] [])
  (.seq (.block 0 (.loop (.seq (.seq (.region [
    ⟨(some 38), none, .val (.mv (.tmp 11))⟩,
    ⟨(some 39), none, .val (.mv (.tmp 0))⟩,
    ⟨(some 40), none, .val (.len (.tmp 39))⟩,
    ⟨(some 41), none, .val (.bin .lss T.int (.tmp 38) (.tmp 40))⟩,
    ⟨(some 42), none, .val (.mv (.tmp 41))⟩,
    ⟨(some 43), (some (42, true)), .val (.mv (.tmp 0))⟩,
    ⟨(some 44), (some (42, true)), .val (.mv (.tmp 11))⟩,
    ⟨(some 45), (some (42, true)), .val (.indexAddr 5 (.tmp 43) (.tmp 44))⟩,
    ⟨(some 46), (some (42, true)), .val (.fieldAddr 0 (.tmp 45))⟩,
    ⟨(some 47), (some (42, true)), .val (.load 1 false (.tmp 46))⟩,
    ⟨(some 48), (some (42, true)), .val (.mv (.tmp 1))⟩,
    ⟨(some 49), (some (42, true)), .val (.bin .lss T.int (.tmp 47) (.tmp 48))⟩,
    ⟨(some 50), none, .val (.pick (.tmp 42) (.tmp 49) (.const (.bool false)))⟩] [38, 39, 40, 41, 42, 43, 44, 45, 46, 47, 48, 49])
  (.cond (.tmp 50)
  .skip
  (.exit 0)))
  (.block 1 (.region [
    ⟨(some 51), none, .val (.mv (.tmp 11))⟩,
    ⟨(some 52), none, .val (.bin .add T.int (.tmp 51) (.const (.int 1)))⟩,
    ⟨(some 11), none, .val (.mv (.tmp 52))⟩] [51, 52])))))
  (.seq (.region [
    ⟨(some 53), none, .val (.mv (.tmp 1))⟩,
    ⟨(some 54), none, .val (.mv (.tmp 2))⟩,
    ⟨(some 55), none, .val (.mv (.tmp 3))⟩,
    ⟨(some 56), none, .val (.build [(.int 0), (.int 0), (.int 0), (.int 0), (.int 0)] [(0, 1, (.tmp 53)), (1, 1, (.tmp 54)), (2, 1, (.tmp 55)), (3, 1, (.const (.int (-1))))])⟩,
    ⟨(some 12), none, .alloc T.apiReview [(.int 0), (.int 0), (.int 0), (.int 0), (.int 0)]⟩,
    ⟨none, none, .store 5 (.tmp 12) (.tmp 56)⟩] [53, 54, 55, 56])
  (.seq (.draw true [
    (.early, ⟨(some 57), none, .val (.buildSlice T.apiReview 0 [] [])⟩),
    (.early, ⟨(some 58), none, .val (.mv (.tmp 0))⟩),
    (.early, ⟨(some 59), none, .val (.mv (.tmp 11))⟩),
    (.early, ⟨(some 60), none, .val (.slice 5 (.tmp 58) none (some (.tmp 59)) none)⟩),
    (.late, ⟨(some 62), none, .val (.load 5 true (.tmp 12))⟩),
    (.late, ⟨(some 63), none, .val (.buildSlice T.apiReview 1 [(.int 0), (.int 0), (.int 0), (.int 0), (.int 0)] [(0, 5, (.tmp 62))])⟩),
    (.late, ⟨(some 65), none, .val (.mv (.tmp 0))⟩),
    (.late, ⟨(some 66), none, .val (.mv (.tmp 11))⟩),
    (.late, ⟨(some 67), none, .val (.slice 5 (.tmp 65) (some (.tmp 66)) none none)⟩),
    (.hard, ⟨(some 61), none, .append T.apiReview 40 5 (.tmp 57) (.tmp 60)⟩),
    (.hard, ⟨(some 64), none, .append T.apiReview 40 5 (.tmp 61) (.tmp 63)⟩),
    (.hard, ⟨(some 68), none, .append T.apiReview 40 5 (.tmp 64) (.tmp 67)⟩),
    (.late, ⟨(some 8), none, .val (.mv (.tmp 68))⟩),
    (.late, ⟨(some 9), none, .val (.mv (.const (.int 0)))⟩)] [57, 58, 59, 60, 61, 62, 63, 64, 65, 66, 67, 68])
  .ret))))))))))⟩
theorem H.podiumref44_Open : Has P F.podiumref44_Open C.podiumref44_Open := ⟨Try.f16, Try.func16, by kernel_rfl, by kernel_rfl⟩

/-- podium/reviews.Close -/
noncomputable def C.reviews_Close : MFunc := ⟨56, 4, [.tmp 8, .tmp 9],
  (.seq (.region [
    ⟨(some 8), none, .val (.mv (.const .nil))⟩,
    ⟨(some 9), none, .val (.mv (.const (.int 0)))⟩] [])
  (.seq (.seq (.region [
    ⟨(some 12), none, .val (.mv (.tmp 0))⟩,
    ⟨(some 13), none, .call (.const (.func (.func F.reviews_Check) [] [])) [(.tmp 12)]⟩,
    ⟨(some 9), none, .val (.mv (.tmp 13))⟩] [12, 13])
  (.seq (.region [
    ⟨(some 14), none, .val (.mv (.tmp 9))⟩,
    ⟨(some 15), none, .val (.bin .neq T.apiErrno (.tmp 14) (.const (.int 0)))⟩] [14])
  (.cond (.tmp 15)
  (.seq (.region [
    ⟨(some 16), none, .val (.mv (.tmp 9))⟩,
    ⟨(some 8), none, .val (.mv (.const .nil))⟩,
    ⟨(some 9), none, .val (.mv (.tmp 16))⟩] [16])
  .ret)
  .skip)))
  (.seq (.region [
    ⟨(some 18), none, .val (.mv (.tmp 0))⟩,
    ⟨(some 19), none, .val (.mv (.tmp 1))⟩,
    ⟨(some 20), none, .call (.const (.func (.func F.reviews_place__apiReview_int) [] [])) [(.tmp 18), (.tmp 19), (.const (.func (.func F.reviews_number) [] []))]⟩,
    ⟨(some 17), none, .val (.mv (.tmp 20))⟩,
    ⟨(some 21), none, .val (.extract 0 (.tmp 17))⟩,
    ⟨(some 22), none, .val (.extract 1 (.tmp 17))⟩,
    ⟨(some 10), none, .val (.mv (.tmp 21))⟩,
    ⟨(some 11), none, .val (.mv (.tmp 22))⟩] [18, 19, 20, 17, 21, 22])
  (.seq (.seq (.region [
    ⟨(some 23), none, .val (.mv (.tmp 11))⟩,
    ⟨(some 24), none, .val (.un .not (.tmp 23))⟩,
    ⟨(some 25), none, .val (.mv (.tmp 24))⟩,
    ⟨(some 26), (some (25, false)), .val (.mv (.tmp 0))⟩,
    ⟨(some 27), (some (25, false)), .val (.mv (.tmp 10))⟩,
    ⟨(some 28), (some (25, false)), .val (.indexAddr 5 (.tmp 26) (.tmp 27))⟩,
    ⟨(some 29), (some (25, false)), .val (.fieldAddr 3 (.tmp 28))⟩,
    ⟨(some 30), (some (25, false)), .val (.load 1 false (.tmp 29))⟩,
    ⟨(some 31), (some (25, false)), .val (.bin .neq T.int (.tmp 30) (.const (.int (-1))))⟩,
    ⟨(some 32), none, .val (.pick (.tmp 25) (.const (.bool true)) (.tmp 31))⟩,
    ⟨(some 33), none, .val (.mv (.tmp 32))⟩,
    ⟨(some 34), (some (33, false)), .val (.mv (.tmp 2))⟩,
    ⟨(some 35), (some (33, false)), .val (.bin .lss T.int (.tmp 34) (.const (.int 0)))⟩,
    ⟨(some 36), none, .val (.pick (.tmp 33) (.const (.bool true)) (.tmp 35))⟩] [23, 24, 25, 26, 27, 28, 29, 30, 31, 32, 33, 34, 35])
  (.cond (.tmp 36)
  (.seq (.region [
    ⟨(some 8), none, .val (.mv (.const .nil))⟩,
    ⟨(some 9), none, .val (.mv (.const (.int 1)))⟩] [])
  .ret)
  .skip))
  (.seq (.region [
    ⟨(some 37), none, .val (.mv (.tmp 0))⟩,
    ⟨(some 38), none, .call (.const (.func (.func F.slices_Clone__LapiReview_apiReview) [] [])) [(.tmp 37)]⟩,
    ⟨(some 8), none, .val (.mv (.tmp 38))⟩] [37, 38])
  (.seq (.region [
    ⟨(some 39), none, .val (.mv (.tmp 8))⟩,
    ⟨(some 40), none, .val (.mv (.tmp 10))⟩,
    ⟨(some 41), none, .val (.mv (.tmp 8))⟩,
    ⟨(some 42), none, .val (.mv (.tmp 10))⟩,
    ⟨(some 43), none, .val (.mv (.tmp 2))⟩,
    ⟨(some 44), none, .val (.mv (.tmp 3))⟩,
    ⟨(some 45), none, .val (.indexAddr 5 (.tmp 39) (.tmp 40))⟩,
    ⟨(some 46), none, .val (.fieldAddr 3 (.tmp 45))⟩,
    ⟨none, none, .store 1 (.tmp 46) (.tmp 43)⟩,
    ⟨(some 47), none, .val (.indexAddr 5 (.tmp 41) (.tmp 42))⟩,
    ⟨(some 48), none, .val (.fieldAddr 4 (.tmp 47))⟩,
    ⟨none, none, .store 1 (.tmp 48) (.tmp 44)⟩] [39, 40, 41, 42, 43, 44, 45, 46, 47, 48])
  (.seq (.seq (.region [
    ⟨(some 49), none, .val (.mv (.tmp 8))⟩,
    ⟨(some 50), none, .val (.mv (.tmp 10))⟩,
    ⟨(some 51), none, .val (.indexAddr 5 (.tmp 49) (.tmp 50))⟩,
    ⟨(some 52), none, .val (.load 5 true (.tmp 51))⟩,
    ⟨(some 53), none, .call (.const (.func (.func F.reviews_valid) [] [])) [(.tmp 52)]⟩,
    ⟨(some 54), none, .val (.un .not (.tmp 53))⟩] [49, 50, 51, 52, 53])
  (.cond (.tmp 54)
  (.seq (.region [
    ⟨(some 8), none, .val (.mv (.const .nil))⟩,
    ⟨(some 9), none, .val (.mv (.const (.int 1)))⟩] [])
  .ret)
  .skip))
  (.seq (.region [
    ⟨(some 55), none, .val (.mv (.tmp 8))⟩,
    ⟨(some 8), none, .val (.mv (.tmp 55))⟩,
    ⟨(some 9), none, .val (.mv (.const (.int 0)))⟩] [55])
  .ret))))))))⟩
theorem H.reviews_Close : Has P F.reviews_Close C.reviews_Close := ⟨Try.f17, Try.func17, by kernel_rfl, by kernel_rfl⟩

/-- podium/podiumref44.Close -/
noncomputable def C.podiumref44_Close : MFunc := ⟨67, 4, [.tmp 8, .tmp 9],
  (.seq (.region [
    ⟨(some 8), none, .val (.mv (.const .nil))⟩,
    ⟨(some 9), none, .val (.mv (.const (.int 0)))⟩] [])
  (.seq (.region [
    ⟨(some 13), none, .val (.mv (.tmp 0))⟩,
    ⟨(some 14), none, .call (.const (.func (.func F.podiumref44_Check) [] [])) [(.tmp 13)]⟩,
    ⟨(some 10), none, .val (.mv (.tmp 14))⟩] [13, 14])
  (.seq (.seq (.region [
    ⟨(some 15), none, .val (.mv (.tmp 10))⟩,
    ⟨(some 16), none, .val (.bin .neq T.apiErrno (.tmp 15) (.const (.int 0)))⟩] [15])
  (.cond (.tmp 16)
  (.seq (.region [
    ⟨(some 17), none, .val (.mv (.tmp 10))⟩,
    ⟨(some 8), none, .val (.mv (.const .nil))⟩,
    ⟨(some 9), none, .val (.mv (.tmp 17))⟩] [17])
  .ret)
  .skip))
  (.seq (.region [
    ⟨(some 18), none, .val (.mv (.tmp 0))⟩,
    ⟨(some 19), none, .val (.mv (.tmp 1))⟩,
    ⟨(some 20), none, .call (.const (.func (.func F.podiumref44_Index) [] [])) [(.tmp 18), (.tmp 19)]⟩,
    ⟨(some 11), none, .val (.mv (.tmp 20))⟩] [18, 19, 20])
  (.seq (.seq (.region (
    ⟨(some 21), none, .val (.mv (.tmp 11))⟩ ::
    ⟨(some 22), none, .val (.bin .lss T.int (.tmp 21) (.const (.int 0)))⟩ ::
    ⟨(some 23), none, .val (.mv (.tmp 22))⟩ ::
    ⟨(some 24), (some (23, false)), .val (.mv (.tmp 0))⟩ ::
    ⟨(some 25), (some (23, false)), .val (.mv (.tmp 11))⟩ ::
    ⟨(some 26), (some (23, false)), .val (.indexAddr 5 (.tmp 24) (.tmp 25))⟩ ::
    ⟨(some 27), (some (23, false)), .val (.fieldAddr 3 (.tmp 26))⟩ ::
    ⟨(some 28), (some (23, false)), .val (.load 1 false (.tmp 27))⟩ ::
    ⟨(some 29), (some (23, false)), .val (.bin .neq T.int (.tmp 28) (.const (.int (-1))))⟩ ::
    ⟨(some 30), none, .val (.pick (.tmp 23) (.const (.bool true)) (.tmp 29))⟩ ::
    ⟨(some 31), none, .val (.mv (.tmp 30))⟩ ::
    ⟨(some 32), (some (31, false)), .val (.mv (.tmp 2))⟩ ::
    ⟨(some 33), (some (31, false)), .val (.mv (.tmp 0))⟩ ::
    ⟨(some 34), (some (31, false)), .val (.mv (.tmp 11))⟩ ::
    ⟨(some 35), (some (31, false)), .val (.indexAddr 5 (.tmp 33) (.tmp 34))⟩ ::
    ⟨(some 36), (some (31, false)), .val (.fieldAddr 2 (.tmp 35))⟩ ::
    ⟨(some 37), (some (31, false)), .val (.load 1 false (.tmp 36))⟩ ::
    ⟨(some 38), (some (31, false)), .val (.bin .lss T.int (.tmp 32) (.tmp 37))⟩ ::
    ⟨(some 39), none, .val (.pick (.tmp 31) (.const (.bool true)) (.tmp 38))⟩ ::
    ⟨(some 40), none, .val (.mv (.tmp 39))⟩ ::
    ⟨(some 41), (some (40, false)), .val (.mv (.tmp 2))⟩ ::
    ⟨(some 42), (some (40, false)), .call (.const (.func (.func F.podiumref44_moment) [] [])) [(.tmp 41)]⟩ ::
    ⟨(some 43), (some (40, false)), .val (.un .not (.tmp 42))⟩ ::
    ⟨(some 44), none, .val (.pick (.tmp 40) (.const (.bool true)) (.tmp 43))⟩ ::
    ⟨(some 45), none, .val (.mv (.tmp 44))⟩ ::
    ⟨(some 46), (some (45, false)), .val (.mv (.tmp 3))⟩ ::
    ⟨(some 47), (some (45, false)), .val (.bin .lss T.int (.tmp 46) (.const (.int 1)))⟩ ::
    ⟨(some 48), none, .val (.pick (.tmp 45) (.const (.bool true)) (.tmp 47))⟩ ::
    ⟨(some 49), none, .val (.mv (.tmp 48))⟩ ::
    ⟨(some 50), (some (49, false)), .val (.mv (.tmp 3))⟩ ::
    ⟨(some 51), (some (49, false)), .val (.bin .gtr T.int (.tmp 50) (.const (.int 2)))⟩ ::
    ⟨(some 52), none, .val (.pick (.tmp 49) (.const (.bool true)) (.tmp 51))⟩ :: []) (21 :: 22 :: 23 :: 24 :: 25 :: 26 :: 27 :: 28 :: 29 :: 30 :: 31 :: 32 :: 33 :: 34 :: 35 :: 36 :: 37 :: 38 :: 39 :: 40 :: 41 :: 42 :: 43 :: 44 :: 45 :: 46 :: 47 :: 48 :: 49 :: 50 :: 51 :: []))
  (.cond (.tmp 52)
  (.seq (.region [
    ⟨(some 8), none, .val (.mv (.const .nil))⟩,
    ⟨(some 9), none, .val (.mv (.const (.int 1)))⟩] [])
  .ret)
  .skip))
  (.seq (.region [
    ⟨(some 53), none, .val (.buildSlice T.apiReview 0 [] [])⟩,
    ⟨(some 54), none, .val (.mv (.tmp 0))⟩,
    ⟨(some 55), none, .append T.apiReview 40 5 (.tmp 53) (.tmp 54)⟩,
    ⟨(some 12), none, .val (.mv (.tmp 55))⟩] [53, 54, 55])
  (.seq (.region [
    ⟨(some 56), none, .val (.mv (.tmp 12))⟩,
    ⟨(some 57), none, .val (.mv (.tmp 11))⟩,
    ⟨(some 58), none, .val (.mv (.tmp 2))⟩,
    ⟨(some 59), none, .val (.indexAddr 5 (.tmp 56) (.tmp 57))⟩,
    ⟨(some 60), none, .val (.fieldAddr 3 (.tmp 59))⟩,
    ⟨none, none, .store 1 (.tmp 60) (.tmp 58)⟩] [56, 57, 58, 59, 60])
  (.seq (.region [
    ⟨(some 61), none, .val (.mv (.tmp 12))⟩,
    ⟨(some 62), none, .val (.mv (.tmp 11))⟩,
    ⟨(some 63), none, .val (.mv (.tmp 3))⟩,
    ⟨(some 64), none, .val (.indexAddr 5 (.tmp 61) (.tmp 62))⟩,
    ⟨(some 65), none, .val (.fieldAddr 4 (.tmp 64))⟩,
    ⟨none, none, .store 1 (.tmp 65) (.tmp 63)⟩] [61, 62, 63, 64, 65])
  (.seq (.region [
    ⟨(some 66), none, .val (.mv (.tmp 12))⟩,
    ⟨(some 8), none, .val (.mv (.tmp 66))⟩,
    ⟨(some 9), none, .val (.mv (.const (.int 0)))⟩] [66])
  .ret)))))))))⟩
theorem H.podiumref44_Close : Has P F.podiumref44_Close C.podiumref44_Close := ⟨Try.f18, Try.func18, by kernel_rfl, by kernel_rfl⟩

/-- podium/podiumlaw44.stands -/
noncomputable def C.podiumlaw44_stands : MFunc := ⟨22, 3, [.tmp 6, .tmp 7],
  (.seq (.region [
    ⟨(some 6), none, .val (.mv (.const (.bool false)))⟩,
    ⟨(some 7), none, .val (.mv (.const (.bool false)))⟩] [])
  (.seq (.region [
    ⟨(some 11), none, .val (.mv (.tmp 0))⟩,
    ⟨(some 12), none, .val (.mv (.tmp 2))⟩,
    ⟨(some 13), none, .call (.const (.func (.func F.reviews_Standing) [] [])) [(.tmp 11), (.tmp 12)]⟩,
    ⟨(some 10), none, .val (.mv (.tmp 13))⟩,
    ⟨(some 14), none, .val (.extract 0 (.tmp 10))⟩,
    ⟨(some 15), none, .val (.extract 1 (.tmp 10))⟩,
    ⟨(some 8), none, .val (.mv (.tmp 14))⟩,
    ⟨(some 9), none, .val (.mv (.tmp 15))⟩] [11, 12, 13, 10, 14, 15])
  (.seq (.region [
    ⟨(some 16), none, .val (.mv (.tmp 8))⟩,
    ⟨(some 17), none, .val (.mv (.tmp 1))⟩,
    ⟨(some 18), none, .call (.const (.func (.func F.podiumref44_Index) [] [])) [(.tmp 16), (.tmp 17)]⟩,
    ⟨(some 19), none, .val (.bin .geq T.int (.tmp 18) (.const (.int 0)))⟩,
    ⟨(some 20), none, .val (.mv (.tmp 9))⟩,
    ⟨(some 21), none, .val (.bin .eql T.apiErrno (.tmp 20) (.const (.int 0)))⟩,
    ⟨(some 6), none, .val (.mv (.tmp 19))⟩,
    ⟨(some 7), none, .val (.mv (.tmp 21))⟩] [16, 17, 18, 19, 20, 21])
  .ret)))⟩
theorem H.podiumlaw44_stands : Has P F.podiumlaw44_stands C.podiumlaw44_stands := ⟨Try.f19, Try.func19, by kernel_rfl, by kernel_rfl⟩

/-- podium/podiumref44.Index -/
noncomputable def C.podiumref44_Index : MFunc := ⟨20, 2, [.tmp 4],
  (.seq (.region [
    ⟨(some 4), none, .val (.mv (.const (.int 0)))⟩] [])
  (.seq (.seq (.region [
    ⟨(some 5), none, .val (.mv (.const (.int 0)))⟩] [])
  (.block 0 (.loop (.seq (.seq (.region [
    ⟨(some 6), none, .val (.mv (.tmp 5))⟩,
    ⟨(some 7), none, .val (.mv (.tmp 0))⟩,
    ⟨(some 8), none, .val (.len (.tmp 7))⟩,
    ⟨(some 9), none, .val (.bin .lss T.int (.tmp 6) (.tmp 8))⟩] [6, 7, 8])
  (.cond (.tmp 9)
  .skip
  (.exit 0)))
  (.seq (.block 1 (.seq (.region [
    ⟨(some 12), none, .val (.mv (.tmp 0))⟩,
    ⟨(some 13), none, .val (.mv (.tmp 5))⟩,
    ⟨(some 14), none, .val (.indexAddr 5 (.tmp 12) (.tmp 13))⟩,
    ⟨(some 15), none, .val (.fieldAddr 0 (.tmp 14))⟩,
    ⟨(some 16), none, .val (.load 1 false (.tmp 15))⟩,
    ⟨(some 17), none, .val (.mv (.tmp 1))⟩,
    ⟨(some 18), none, .val (.bin .eql T.int (.tmp 16) (.tmp 17))⟩] [12, 13, 14, 15, 16, 17])
  (.cond (.tmp 18)
  (.seq (.region [
    ⟨(some 19), none, .val (.mv (.tmp 5))⟩,
    ⟨(some 4), none, .val (.mv (.tmp 19))⟩] [19])
  .ret)
  .skip)))
  (.region [
    ⟨(some 10), none, .val (.mv (.tmp 5))⟩,
    ⟨(some 11), none, .val (.bin .add T.int (.tmp 10) (.const (.int 1)))⟩,
    ⟨(some 5), none, .val (.mv (.tmp 11))⟩] [10, 11]))))))
  (.seq (.region [
    ⟨(some 4), none, .val (.mv (.const (.int (-1))))⟩] [])
  .ret)))⟩
theorem H.podiumref44_Index : Has P F.podiumref44_Index C.podiumref44_Index := ⟨Try.f20, Try.func20, by kernel_rfl, by kernel_rfl⟩

/-- podium/reviews.within -/
noncomputable def C.reviews_within : MFunc := ⟨12, 2, [.tmp 4],
  (.seq (.region [
    ⟨(some 4), none, .val (.mv (.const (.bool false)))⟩] [])
  (.seq (.region [
    ⟨(some 5), none, .val (.mv (.tmp 0))⟩,
    ⟨(some 6), none, .val (.bin .geq T.int (.tmp 5) (.const (.int 0)))⟩,
    ⟨(some 7), none, .val (.mv (.tmp 6))⟩,
    ⟨(some 8), (some (7, true)), .val (.mv (.tmp 0))⟩,
    ⟨(some 9), (some (7, true)), .val (.mv (.tmp 1))⟩,
    ⟨(some 10), (some (7, true)), .val (.bin .lss T.int (.tmp 8) (.tmp 9))⟩,
    ⟨(some 11), none, .val (.pick (.tmp 7) (.tmp 10) (.const (.bool false)))⟩,
    ⟨(some 4), none, .val (.mv (.tmp 11))⟩] [5, 6, 7, 8, 9, 10, 11])
  .ret))⟩
theorem H.reviews_within : Has P F.reviews_within C.reviews_within := ⟨Try.f21, Try.func21, by kernel_rfl, by kernel_rfl⟩

/-- slices.Collect[podium/api.Review] -/
noncomputable def C.slices_Collect__apiReview : MFunc := ⟨5, 1, [.tmp 2],
  (.seq (.region [
    ⟨(some 2), none, .val (.mv (.const .nil))⟩] [])
  (.seq (.region [
    ⟨(some 3), none, .val (.mv (.tmp 0))⟩,
    ⟨(some 4), none, .call (.const (.func (.func F.slices_AppendSeq__LapiReview_apiReview) [] [])) [(.const .nil), (.tmp 3)]⟩,
    ⟨(some 2), none, .val (.mv (.tmp 4))⟩] [3, 4])
  .ret))⟩
theorem H.slices_Collect__apiReview : Has P F.slices_Collect__apiReview C.slices_Collect__apiReview := ⟨Try.f22, Try.func22, by kernel_rfl, by kernel_rfl⟩

/-- podium/reviews.standing -/
noncomputable def C.reviews_standing : MFunc := ⟨6, 2, [.tmp 4],
  (.seq (.region [
    ⟨(some 2), none, .box T.LapiReview (.tmp 0)⟩,
    ⟨(some 3), none, .box T.int (.tmp 1)⟩,
    ⟨(some 4), none, .val (.mv (.const (.val .nilFunc)))⟩] [])
  (.seq (.region [
    ⟨(some 5), none, .val (.mkFunc (.func F.reviews_standing_1) [] [(.tmp 2), (.tmp 3)])⟩,
    ⟨(some 4), none, .val (.mv (.tmp 5))⟩] [5])
  .ret))⟩
theorem H.reviews_standing : Has P F.reviews_standing C.reviews_standing := ⟨Try.f23, Try.func23, by kernel_rfl, by kernel_rfl⟩

/-- podium/podiumref44.moment -/
noncomputable def C.podiumref44_moment : MFunc := ⟨9, 1, [.tmp 2],
  (.seq (.region [
    ⟨(some 2), none, .val (.mv (.const (.bool false)))⟩] [])
  (.seq (.region [
    ⟨(some 3), none, .val (.mv (.tmp 0))⟩,
    ⟨(some 4), none, .val (.bin .geq T.int (.tmp 3) (.const (.int 0)))⟩,
    ⟨(some 5), none, .val (.mv (.tmp 4))⟩,
    ⟨(some 6), (some (5, true)), .val (.mv (.tmp 0))⟩,
    ⟨(some 7), (some (5, true)), .val (.bin .lss T.int (.tmp 6) (.const (.int 2097152)))⟩,
    ⟨(some 8), none, .val (.pick (.tmp 5) (.tmp 7) (.const (.bool false)))⟩,
    ⟨(some 2), none, .val (.mv (.tmp 8))⟩] [3, 4, 5, 6, 7, 8])
  .ret))⟩
theorem H.podiumref44_moment : Has P F.podiumref44_moment C.podiumref44_moment := ⟨Try.f24, Try.func24, by kernel_rfl, by kernel_rfl⟩

/-- podium/podiumref44.Stands -/
noncomputable def C.podiumref44_Stands : MFunc := ⟨20, 2, [.tmp 4],
  (.seq (.region [
    ⟨(some 2), none, .box T.apiReview (.tmp 0)⟩,
    ⟨(some 4), none, .val (.mv (.const (.bool false)))⟩] [])
  (.seq (.region [
    ⟨(some 5), none, .val (.fieldAddr 2 (.tmp 2))⟩,
    ⟨(some 6), none, .val (.load 1 false (.tmp 5))⟩,
    ⟨(some 7), none, .val (.mv (.tmp 1))⟩,
    ⟨(some 8), none, .val (.bin .leq T.int (.tmp 6) (.tmp 7))⟩,
    ⟨(some 9), none, .val (.mv (.tmp 8))⟩,
    ⟨(some 10), (some (9, true)), .val (.fieldAddr 3 (.tmp 2))⟩,
    ⟨(some 11), (some (9, true)), .val (.load 1 false (.tmp 10))⟩,
    ⟨(some 12), (some (9, true)), .val (.bin .eql T.int (.tmp 11) (.const (.int (-1))))⟩,
    ⟨(some 13), (some (9, true)), .val (.mv (.tmp 12))⟩,
    ⟨(some 14), (some (13, false)), .val (.fieldAddr 3 (.tmp 2))⟩,
    ⟨(some 15), (some (13, false)), .val (.load 1 false (.tmp 14))⟩,
    ⟨(some 16), (some (13, false)), .val (.mv (.tmp 1))⟩,
    ⟨(some 17), (some (13, false)), .val (.bin .gtr T.int (.tmp 15) (.tmp 16))⟩,
    ⟨(some 18), (some (9, true)), .val (.pick (.tmp 13) (.const (.bool true)) (.tmp 17))⟩,
    ⟨(some 19), none, .val (.pick (.tmp 9) (.tmp 18) (.const (.bool false)))⟩,
    ⟨(some 4), none, .val (.mv (.tmp 19))⟩] [5, 6, 7, 8, 9, 10, 11, 12, 13, 14, 15, 16, 17, 18, 19])
  .ret))⟩
theorem H.podiumref44_Stands : Has P F.podiumref44_Stands C.podiumref44_Stands := ⟨Try.f25, Try.func25, by kernel_rfl, by kernel_rfl⟩

/-- podium/reviews.valid -/
noncomputable def C.reviews_valid : MFunc := ⟨39, 1, [.tmp 2],
  (.seq (.region [
    ⟨(some 1), none, .box T.apiReview (.tmp 0)⟩,
    ⟨(some 2), none, .val (.mv (.const (.bool false)))⟩] [])
  (.seq (.draw true [
    (.early, ⟨(some 4), none, .val (.fieldAddr 0 (.tmp 1))⟩),
    (.early, ⟨(some 5), none, .val (.load 1 false (.tmp 4))⟩),
    (.late, ⟨(some 7), none, .val (.fieldAddr 1 (.tmp 1))⟩),
    (.late, ⟨(some 8), none, .val (.load 1 false (.tmp 7))⟩),
    (.late, ⟨(some 10), none, .val (.fieldAddr 2 (.tmp 1))⟩),
    (.late, ⟨(some 11), none, .val (.load 1 false (.tmp 10))⟩),
    (.hard, ⟨(some 6), none, .call (.const (.func (.func F.reviews_within) [] [])) [(.tmp 5), (.const (.int 1048577))]⟩),
    (.hard, ⟨(some 9), none, .call (.const (.func (.func F.reviews_within) [] [])) [(.tmp 8), (.const (.int 1048577))]⟩),
    (.hard, ⟨(some 12), none, .call (.const (.func (.func F.reviews_within) [] [])) [(.tmp 11), (.const (.int 2097152))]⟩),
    (.late, ⟨(some 13), none, .val (.buildSlice T.bool 3 [(.bool false), (.bool false), (.bool false)] [(0, 1, (.tmp 6)), (1, 1, (.tmp 9)), (2, 1, (.tmp 12))])⟩),
    (.hard, ⟨(some 14), none, .call (.const (.func (.func F.reviews_all) [] [])) [(.tmp 13)]⟩),
    (.late, ⟨(some 3), none, .val (.mv (.tmp 14))⟩)] [4, 5, 6, 7, 8, 9, 10, 11, 12, 13, 14])
  (.seq (.seq (.region [
    ⟨(some 15), none, .val (.fieldAddr 3 (.tmp 1))⟩,
    ⟨(some 16), none, .val (.load 1 false (.tmp 15))⟩,
    ⟨(some 17), none, .val (.bin .eql T.int (.tmp 16) (.const (.int (-1))))⟩] [15, 16])
  (.cond (.tmp 17)
  (.seq (.region [
    ⟨(some 18), none, .val (.mv (.tmp 3))⟩,
    ⟨(some 19), none, .val (.fieldAddr 4 (.tmp 1))⟩,
    ⟨(some 20), none, .val (.load 1 false (.tmp 19))⟩,
    ⟨(some 21), none, .val (.bin .eql T.int (.tmp 20) (.const (.int 0)))⟩,
    ⟨(some 22), none, .val (.buildSlice T.bool 2 [(.bool false), (.bool false)] [(0, 1, (.tmp 18)), (1, 1, (.tmp 21))])⟩,
    ⟨(some 23), none, .call (.const (.func (.func F.reviews_all) [] [])) [(.tmp 22)]⟩,
    ⟨(some 2), none, .val (.mv (.tmp 23))⟩] [18, 19, 20, 21, 22, 23])
  .ret)
  .skip))
  (.seq (.draw true [
    (.late, ⟨(some 24), none, .val (.mv (.tmp 3))⟩),
    (.late, ⟨(some 25), none, .val (.fieldAddr 3 (.tmp 1))⟩),
    (.late, ⟨(some 26), none, .val (.load 1 false (.tmp 25))⟩),
    (.late, ⟨(some 27), none, .val (.fieldAddr 2 (.tmp 1))⟩),
    (.late, ⟨(some 28), none, .val (.load 1 false (.tmp 27))⟩),
    (.late, ⟨(some 29), none, .val (.bin .geq T.int (.tmp 26) (.tmp 28))⟩),
    (.early, ⟨(some 30), none, .val (.fieldAddr 3 (.tmp 1))⟩),
    (.early, ⟨(some 31), none, .val (.load 1 false (.tmp 30))⟩),
    (.late, ⟨(some 33), none, .val (.fieldAddr 4 (.tmp 1))⟩),
    (.late, ⟨(some 34), none, .val (.load 1 false (.tmp 33))⟩),
    (.late, ⟨(some 35), none, .val (.bin .sub T.int (.tmp 34) (.const (.int 1)))⟩),
    (.hard, ⟨(some 32), none, .call (.const (.func (.func F.reviews_within) [] [])) [(.tmp 31), (.const (.int 2097152))]⟩),
    (.hard, ⟨(some 36), none, .call (.const (.func (.func F.reviews_within) [] [])) [(.tmp 35), (.const (.int 2))]⟩),
    (.late, ⟨(some 37), none, .val (.buildSlice T.bool 4 [(.bool false), (.bool false), (.bool false), (.bool false)] [(0, 1, (.tmp 24)), (1, 1, (.tmp 29)), (2, 1, (.tmp 32)), (3, 1, (.tmp 36))])⟩),
    (.hard, ⟨(some 38), none, .call (.const (.func (.func F.reviews_all) [] [])) [(.tmp 37)]⟩),
    (.late, ⟨(some 2), none, .val (.mv (.tmp 38))⟩)] [24, 25, 26, 27, 28, 29, 30, 31, 32, 33, 34, 35, 36, 37, 38])
  .ret))))⟩
theorem H.reviews_valid : Has P F.reviews_valid C.reviews_valid := ⟨Try.f26, Try.func26, by kernel_rfl, by kernel_rfl⟩

/-- podium/podiumref44.Valid -/
noncomputable def C.podiumref44_Valid : MFunc := ⟨45, 1, [.tmp 2],
  (.seq (.region [
    ⟨(some 1), none, .box T.apiReview (.tmp 0)⟩,
    ⟨(some 2), none, .val (.mv (.const (.bool false)))⟩] [])
  (.seq (.seq (.region [
    ⟨(some 3), none, .val (.fieldAddr 0 (.tmp 1))⟩,
    ⟨(some 4), none, .val (.load 1 false (.tmp 3))⟩,
    ⟨(some 5), none, .call (.const (.func (.func F.podiumref44_id) [] [])) [(.tmp 4)]⟩,
    ⟨(some 6), none, .val (.un .not (.tmp 5))⟩,
    ⟨(some 7), none, .val (.mv (.tmp 6))⟩,
    ⟨(some 8), (some (7, false)), .val (.fieldAddr 1 (.tmp 1))⟩,
    ⟨(some 9), (some (7, false)), .val (.load 1 false (.tmp 8))⟩,
    ⟨(some 10), (some (7, false)), .call (.const (.func (.func F.podiumref44_id) [] [])) [(.tmp 9)]⟩,
    ⟨(some 11), (some (7, false)), .val (.un .not (.tmp 10))⟩,
    ⟨(some 12), none, .val (.pick (.tmp 7) (.const (.bool true)) (.tmp 11))⟩,
    ⟨(some 13), none, .val (.mv (.tmp 12))⟩,
    ⟨(some 14), (some (13, false)), .val (.fieldAddr 2 (.tmp 1))⟩,
    ⟨(some 15), (some (13, false)), .val (.load 1 false (.tmp 14))⟩,
    ⟨(some 16), (some (13, false)), .call (.const (.func (.func F.podiumref44_moment) [] [])) [(.tmp 15)]⟩,
    ⟨(some 17), (some (13, false)), .val (.un .not (.tmp 16))⟩,
    ⟨(some 18), none, .val (.pick (.tmp 13) (.const (.bool true)) (.tmp 17))⟩] [3, 4, 5, 6, 7, 8, 9, 10, 11, 12, 13, 14, 15, 16, 17])
  (.cond (.tmp 18)
  (.seq (.region [
    ⟨(some 2), none, .val (.mv (.const (.bool false)))⟩] [])
  .ret)
  .skip))
  (.seq (.seq (.region [
    ⟨(some 19), none, .val (.fieldAddr 3 (.tmp 1))⟩,
    ⟨(some 20), none, .val (.load 1 false (.tmp 19))⟩,
    ⟨(some 21), none, .val (.bin .eql T.int (.tmp 20) (.const (.int (-1))))⟩] [19, 20])
  (.cond (.tmp 21)
  (.seq (.region [
    ⟨(some 22), none, .val (.fieldAddr 4 (.tmp 1))⟩,
    ⟨(some 23), none, .val (.load 1 false (.tmp 22))⟩,
    ⟨(some 24), none, .val (.bin .eql T.int (.tmp 23) (.const (.int 0)))⟩,
    ⟨(some 2), none, .val (.mv (.tmp 24))⟩] [22, 23, 24])
  .ret)
  .skip))
  (.seq (.region [
    ⟨(some 25), none, .val (.fieldAddr 3 (.tmp 1))⟩,
    ⟨(some 26), none, .val (.load 1 false (.tmp 25))⟩,
    ⟨(some 27), none, .val (.fieldAddr 2 (.tmp 1))⟩,
    ⟨(some 28), none, .val (.load 1 false (.tmp 27))⟩,
    ⟨(some 29), none, .val (.bin .geq T.int (.tmp 26) (.tmp 28))⟩,
    ⟨(some 30), none, .val (.mv (.tmp 29))⟩,
    ⟨(some 31), (some (30, true)), .val (.fieldAddr 3 (.tmp 1))⟩,
    ⟨(some 32), (some (30, true)), .val (.load 1 false (.tmp 31))⟩,
    ⟨(some 33), (some (30, true)), .call (.const (.func (.func F.podiumref44_moment) [] [])) [(.tmp 32)]⟩,
    ⟨(some 34), none, .val (.pick (.tmp 30) (.tmp 33) (.const (.bool false)))⟩,
    ⟨(some 35), none, .val (.mv (.tmp 34))⟩,
    ⟨(some 36), (some (35, true)), .val (.fieldAddr 4 (.tmp 1))⟩,
    ⟨(some 37), (some (35, true)), .val (.load 1 false (.tmp 36))⟩,
    ⟨(some 38), (some (35, true)), .val (.bin .eql T.int (.tmp 37) (.const (.int 1)))⟩,
    ⟨(some 39), (some (35, true)), .val (.mv (.tmp 38))⟩,
    ⟨(some 40), (some (39, false)), .val (.fieldAddr 4 (.tmp 1))⟩,
    ⟨(some 41), (some (39, false)), .val (.load 1 false (.tmp 40))⟩,
    ⟨(some 42), (some (39, false)), .val (.bin .eql T.int (.tmp 41) (.const (.int 2)))⟩,
    ⟨(some 43), (some (35, true)), .val (.pick (.tmp 39) (.const (.bool true)) (.tmp 42))⟩,
    ⟨(some 44), none, .val (.pick (.tmp 35) (.tmp 43) (.const (.bool false)))⟩,
    ⟨(some 2), none, .val (.mv (.tmp 44))⟩] [25, 26, 27, 28, 29, 30, 31, 32, 33, 34, 35, 36, 37, 38, 39, 40, 41, 42, 43, 44])
  .ret))))⟩
theorem H.podiumref44_Valid : Has P F.podiumref44_Valid C.podiumref44_Valid := ⟨Try.f27, Try.func27, by kernel_rfl, by kernel_rfl⟩

/-- podium/reviews.place[podium/api.Review,int] -/
noncomputable def C.reviews_place__apiReview_int : MFunc := ⟨14, 3, [.tmp 6, .tmp 7],
  (.seq (.region [
    ⟨(some 5), none, .box T.funcapiReviewint (.tmp 2)⟩,
    ⟨(some 6), none, .val (.mv (.const (.int 0)))⟩,
    ⟨(some 7), none, .val (.mv (.const (.bool false)))⟩] [])
  (.seq (.region [
    ⟨(some 8), none, .val (.mv (.tmp 0))⟩,
    ⟨(some 9), none, .val (.mv (.tmp 1))⟩,
    ⟨(some 10), none, .val (.mkFunc (.func F.reviews_place__apiReview_int_1) [] [(.tmp 5)])⟩,
    ⟨(some 11), none, .call (.const (.func (.func F.slices_BinarySearchFunc__LapiReview_apiReview_int) [] [])) [(.tmp 8), (.tmp 9), (.tmp 10)]⟩,
    ⟨(some 12), none, .val (.extract 0 (.tmp 11))⟩,
    ⟨(some 13), none, .val (.extract 1 (.tmp 11))⟩,
    ⟨(some 6), none, .val (.mv (.tmp 12))⟩,
    ⟨(some 7), none, .val (.mv (.tmp 13))⟩] [8, 9, 10, 11, 12, 13])
  .ret))⟩
theorem H.reviews_place__apiReview_int : Has P F.reviews_place__apiReview_int C.reviews_place__apiReview_int := ⟨Try.f28, Try.func28, by kernel_rfl, by kernel_rfl⟩

/-- podium/reviews.number -/
noncomputable def C.reviews_number : MFunc := ⟨5, 1, [.tmp 2],
  (.seq (.region [
    ⟨(some 1), none, .box T.apiReview (.tmp 0)⟩,
    ⟨(some 2), none, .val (.mv (.const (.int 0)))⟩] [])
  (.seq (.region [
    ⟨(some 3), none, .val (.fieldAddr 0 (.tmp 1))⟩,
    ⟨(some 4), none, .val (.load 1 false (.tmp 3))⟩,
    ⟨(some 2), none, .val (.mv (.tmp 4))⟩] [3, 4])
  .ret))⟩
theorem H.reviews_number : Has P F.reviews_number C.reviews_number := ⟨Try.f29, Try.func29, by kernel_rfl, by kernel_rfl⟩

/-- slices.Insert[[]podium/api.Review,podium/api.Review] -/
noncomputable def C.slices_Insert__LapiReview_apiReview : MFunc := ⟨95, 3, [.tmp 6],
  (.seq (.region [
    ⟨(some 6), none, .val (.mv (.const .nil))⟩] [])
  (.seq (.region [
    ⟨(some 10), none, .val (.mv (.tmp 0))⟩,
    ⟨(some 11), none, .val (.mv (.tmp 1))⟩,
    ⟨(some 12), none, .val (.slice 5 (.tmp 10) (some (.tmp 11)) none none)⟩] [10, 11, 12])
  (.seq (.region [
    ⟨(some 13), none, .val (.mv (.tmp 2))⟩,
    ⟨(some 14), none, .val (.len (.tmp 13))⟩,
    ⟨(some 7), none, .val (.mv (.tmp 14))⟩] [13, 14])
  (.seq (.seq (.region [
    ⟨(some 15), none, .val (.mv (.tmp 7))⟩,
    ⟨(some 16), none, .val (.bin .eql T.int (.tmp 15) (.const (.int 0)))⟩] [15])
  (.cond (.tmp 16)
  (.seq (.region [
    ⟨(some 17), none, .val (.mv (.tmp 0))⟩,
    ⟨(some 6), none, .val (.mv (.tmp 17))⟩] [17])
  .ret)
  .skip))
  (.seq (.region [
    ⟨(some 18), none, .val (.mv (.tmp 0))⟩,
    ⟨(some 19), none, .val (.len (.tmp 18))⟩,
    ⟨(some 8), none, .val (.mv (.tmp 19))⟩] [18, 19])
  (.seq (.seq (.region [
    ⟨(some 20), none, .val (.mv (.tmp 1))⟩,
    ⟨(some 21), none, .val (.mv (.tmp 8))⟩,
    ⟨(some 22), none, .val (.bin .eql T.int (.tmp 20) (.tmp 21))⟩] [20, 21])
  (.cond (.tmp 22)
  (.seq (.region [
    ⟨(some 23), none, .val (.mv (.tmp 0))⟩,
    ⟨(some 24), none, .val (.mv (.tmp 2))⟩,
    ⟨(some 25), none, .append T.apiReview 40 5 (.tmp 23) (.tmp 24)⟩,
    ⟨(some 6), none, .val (.mv (.tmp 25))⟩] [23, 24, 25])
  .ret)
  .skip))
  (.seq (.seq (.region [
    ⟨(some 26), none, .val (.mv (.tmp 8))⟩,
    ⟨(some 27), none, .val (.mv (.tmp 7))⟩,
    ⟨(some 28), none, .val (.bin .add T.int (.tmp 26) (.tmp 27))⟩,
    ⟨(some 29), none, .val (.mv (.tmp 0))⟩,
    ⟨(some 30), none, .val (.cap (.tmp 29))⟩,
    ⟨(some 31), none, .val (.bin .gtr T.int (.tmp 28) (.tmp 30))⟩] [26, 27, 28, 29, 30])
  (.cond (.tmp 31)
  (.seq (.region [
    ⟨(some 32), none, .val (.mv (.tmp 0))⟩,
    ⟨(some 33), none, .val (.mv (.tmp 1))⟩,
    ⟨(some 34), none, .val (.slice 5 (.tmp 32) none (some (.tmp 33)) none)⟩,
    ⟨(some 35), none, .val (.mv (.tmp 8))⟩,
    ⟨(some 36), none, .val (.mv (.tmp 7))⟩,
    ⟨(some 37), none, .val (.bin .add T.int (.tmp 35) (.tmp 36))⟩,
    ⟨(some 38), none, .val (.mv (.tmp 1))⟩,
    ⟨(some 39), none, .val (.bin .sub T.int (.tmp 37) (.tmp 38))⟩,
    ⟨(some 40), none, .appendZ T.apiReview 40 5 (.tmp 34) (.tmp 39)⟩,
    ⟨(some 9), none, .val (.mv (.tmp 40))⟩] [32, 33, 34, 35, 36, 37, 38, 39, 40])
  (.seq (.region [
    ⟨(some 41), none, .val (.mv (.tmp 9))⟩,
    ⟨(some 42), none, .val (.mv (.tmp 1))⟩,
    ⟨(some 43), none, .val (.slice 5 (.tmp 41) (some (.tmp 42)) none none)⟩,
    ⟨(some 44), none, .val (.mv (.tmp 2))⟩,
    ⟨(some 45), none, .copy 5 (.tmp 43) (.tmp 44)⟩] [41, 42, 43, 44, 45])
  (.seq (.draw false [
    (.early, ⟨(some 46), none, .val (.mv (.tmp 9))⟩),
    (.early, ⟨(some 47), none, .val (.mv (.tmp 1))⟩),
    (.early, ⟨(some 48), none, .val (.mv (.tmp 7))⟩),
    (.early, ⟨(some 49), none, .val (.bin .add T.int (.tmp 47) (.tmp 48))⟩),
    (.early, ⟨(some 50), none, .val (.slice 5 (.tmp 46) (some (.tmp 49)) none none)⟩),
    (.early, ⟨(some 51), none, .val (.mv (.tmp 0))⟩),
    (.early, ⟨(some 52), none, .val (.mv (.tmp 1))⟩),
    (.early, ⟨(some 53), none, .val (.slice 5 (.tmp 51) (some (.tmp 52)) none none)⟩),
    (.hard, ⟨(some 54), none, .copy 5 (.tmp 50) (.tmp 53)⟩)] [46, 47, 48, 49, 50, 51, 52, 53, 54])
  (.seq (.region [
    ⟨(some 55), none, .val (.mv (.tmp 9))⟩,
    ⟨(some 6), none, .val (.mv (.tmp 55))⟩] [55])
  .ret))))
  .skip))
  (.seq (.region [
    ⟨(some 56), none, .val (.mv (.tmp 0))⟩,
    ⟨(some 57), none, .val (.mv (.tmp 8))⟩,
    ⟨(some 58), none, .val (.mv (.tmp 7))⟩,
    ⟨(some 59), none, .val (.bin .add T.int (.tmp 57) (.tmp 58))⟩,
    ⟨(some 60), none, .val (.slice 5 (.tmp 56) none (some (.tmp 59)) none)⟩,
    ⟨(some 0), none, .val (.mv (.tmp 60))⟩] [56, 57, 58, 59, 60])
  (.seq (.seq (.region [
    ⟨(some 61), none, .val (.mv (.tmp 2))⟩,
    ⟨(some 62), none, .val (.mv (.tmp 0))⟩,
    ⟨(some 63), none, .val (.mv (.tmp 1))⟩,
    ⟨(some 64), none, .val (.mv (.tmp 7))⟩,
    ⟨(some 65), none, .val (.bin .add T.int (.tmp 63) (.tmp 64))⟩,
    ⟨(some 66), none, .val (.slice 5 (.tmp 62) (some (.tmp 65)) none none)⟩,
    ⟨(some 67), none, .call (.const (.func (.func F.slices_overlaps__apiReview) [] [])) [(.tmp 61), (.tmp 66)]⟩,
    ⟨(some 68), none, .val (.un .not (.tmp 67))⟩] [61, 62, 63, 64, 65, 66, 67])
  (.cond (.tmp 68)
  (.seq (.draw false [
    (.early, ⟨(some 69), none, .val (.mv (.tmp 0))⟩),
    (.early, ⟨(some 70), none, .val (.mv (.tmp 1))⟩),
    (.early, ⟨(some 71), none, .val (.mv (.tmp 7))⟩),
    (.early, ⟨(some 72), none, .val (.bin .add T.int (.tmp 70) (.tmp 71))⟩),
    (.early, ⟨(some 73), none, .val (.slice 5 (.tmp 69) (some (.tmp 72)) none none)⟩),
    (.early, ⟨(some 74), none, .val (.mv (.tmp 0))⟩),
    (.early, ⟨(some 75), none, .val (.mv (.tmp 1))⟩),
    (.early, ⟨(some 76), none, .val (.slice 5 (.tmp 74) (some (.tmp 75)) none none)⟩),
    (.hard, ⟨(some 77), none, .copy 5 (.tmp 73) (.tmp 76)⟩)] [69, 70, 71, 72, 73, 74, 75, 76, 77])
  (.seq (.region [
    ⟨(some 78), none, .val (.mv (.tmp 0))⟩,
    ⟨(some 79), none, .val (.mv (.tmp 1))⟩,
    ⟨(some 80), none, .val (.slice 5 (.tmp 78) (some (.tmp 79)) none none)⟩,
    ⟨(some 81), none, .val (.mv (.tmp 2))⟩,
    ⟨(some 82), none, .copy 5 (.tmp 80) (.tmp 81)⟩] [78, 79, 80, 81, 82])
  (.seq (.region [
    ⟨(some 83), none, .val (.mv (.tmp 0))⟩,
    ⟨(some 6), none, .val (.mv (.tmp 83))⟩] [83])
  .ret)))
  .skip))
  (.seq (.region [
    ⟨(some 84), none, .val (.mv (.tmp 0))⟩,
    ⟨(some 85), none, .val (.mv (.tmp 8))⟩,
    ⟨(some 86), none, .val (.slice 5 (.tmp 84) (some (.tmp 85)) none none)⟩,
    ⟨(some 87), none, .val (.mv (.tmp 2))⟩,
    ⟨(some 88), none, .copy 5 (.tmp 86) (.tmp 87)⟩] [84, 85, 86, 87, 88])
  (.seq (.region [
    ⟨(some 89), none, .val (.mv (.tmp 0))⟩,
    ⟨(some 90), none, .val (.mv (.tmp 1))⟩,
    ⟨(some 91), none, .val (.slice 5 (.tmp 89) (some (.tmp 90)) none none)⟩,
    ⟨(some 92), none, .val (.mv (.tmp 7))⟩,
    ⟨(some 93), none, .call (.const (.func (.func F.slices_rotateRight__apiReview) [] [])) [(.tmp 91), (.tmp 92)]⟩] [89, 90, 91, 92, 93])
  (.seq (.region [
    ⟨(some 94), none, .val (.mv (.tmp 0))⟩,
    ⟨(some 6), none, .val (.mv (.tmp 94))⟩] [94])
  .ret))))))))))))⟩
theorem H.slices_Insert__LapiReview_apiReview : Has P F.slices_Insert__LapiReview_apiReview C.slices_Insert__LapiReview_apiReview := ⟨Try.f30, Try.func30, by kernel_rfl, by kernel_rfl⟩

/-- slices.Clone[[]podium/api.Review,podium/api.Review] -/
noncomputable def C.slices_Clone__LapiReview_apiReview : MFunc := ⟨8, 1, [.tmp 2],
  (.seq (.region [
    ⟨(some 2), none, .val (.mv (.const .nil))⟩] [])
  (.seq (.seq (.region [
    ⟨(some 3), none, .val (.mv (.tmp 0))⟩,
    ⟨(some 4), none, .eqNil false .slice (.tmp 3)⟩] [3])
  (.cond (.tmp 4)
  (.seq (.region [
    ⟨(some 2), none, .val (.mv (.const .nil))⟩] [])
  .ret)
  .skip))
  (.seq (.region [
    ⟨(some 5), none, .val (.buildSlice T.apiReview 0 [] [])⟩,
    ⟨(some 6), none, .val (.mv (.tmp 0))⟩,
    ⟨(some 7), none, .append T.apiReview 40 5 (.tmp 5) (.tmp 6)⟩,
    ⟨(some 2), none, .val (.mv (.tmp 7))⟩] [5, 6, 7])
  .ret)))⟩
theorem H.slices_Clone__LapiReview_apiReview : Has P F.slices_Clone__LapiReview_apiReview C.slices_Clone__LapiReview_apiReview := ⟨Try.f31, Try.func31, by kernel_rfl, by kernel_rfl⟩

/-- podium/podiumref44.id -/
noncomputable def C.podiumref44_id : MFunc := ⟨9, 1, [.tmp 2],
  (.seq (.region [
    ⟨(some 2), none, .val (.mv (.const (.bool false)))⟩] [])
  (.seq (.region [
    ⟨(some 3), none, .val (.mv (.tmp 0))⟩,
    ⟨(some 4), none, .val (.bin .geq T.int (.tmp 3) (.const (.int 0)))⟩,
    ⟨(some 5), none, .val (.mv (.tmp 4))⟩,
    ⟨(some 6), (some (5, true)), .val (.mv (.tmp 0))⟩,
    ⟨(some 7), (some (5, true)), .val (.bin .leq T.int (.tmp 6) (.const (.int 1048576)))⟩,
    ⟨(some 8), none, .val (.pick (.tmp 5) (.tmp 7) (.const (.bool false)))⟩,
    ⟨(some 2), none, .val (.mv (.tmp 8))⟩] [3, 4, 5, 6, 7, 8])
  .ret))⟩
theorem H.podiumref44_id : Has P F.podiumref44_id C.podiumref44_id := ⟨Try.f32, Try.func32, by kernel_rfl, by kernel_rfl⟩

/-- slices.AppendSeq[[]podium/api.Review,podium/api.Review] -/
noncomputable def C.slices_AppendSeq__LapiReview_apiReview : MFunc := ⟨13, 2, [.tmp 4],
  (.seq (.region [
    ⟨(some 2), none, .box T.LapiReview (.tmp 0)⟩,
    ⟨(some 4), none, .val (.mv (.const .nil))⟩] [])
  (.seq (.seq (.region [
    ⟨(some 6), none, .val (.mv (.tmp 1))⟩] [])
  (.block 0 (.rangeFunc (.tmp 6) [7] (.region [
    ⟨(some 5), none, .alloc T.apiReview [(.int 0), (.int 0), (.int 0), (.int 0), (.int 0)]⟩,
    ⟨none, none, .store 5 (.tmp 5) (.tmp 7)⟩] [])
  (.block 1 (.region [
    ⟨(some 8), none, .val (.load 1 false (.tmp 2))⟩,
    ⟨(some 9), none, .val (.load 5 true (.tmp 5))⟩,
    ⟨(some 10), none, .val (.buildSlice T.apiReview 1 [(.int 0), (.int 0), (.int 0), (.int 0), (.int 0)] [(0, 5, (.tmp 9))])⟩,
    ⟨(some 11), none, .append T.apiReview 40 5 (.tmp 8) (.tmp 10)⟩,
    ⟨none, none, .store 1 (.tmp 2) (.tmp 11)⟩] [8, 9, 10, 11])))))
  (.seq (.region [
    ⟨(some 12), none, .val (.load 1 false (.tmp 2))⟩,
    ⟨(some 4), none, .val (.mv (.tmp 12))⟩] [12])
  .ret)))⟩
theorem H.slices_AppendSeq__LapiReview_apiReview : Has P F.slices_AppendSeq__LapiReview_apiReview C.slices_AppendSeq__LapiReview_apiReview := ⟨Try.f33, Try.func33, by kernel_rfl, by kernel_rfl⟩

/-- podium/reviews.standing$1 -/
noncomputable def C.reviews_standing_1 : MFunc := ⟨34, 3, [],
  (.seq (.region [
    ⟨(some 6), none, .val (.load 1 false (.tmp 1))⟩,
    ⟨(some 7), none, .val (.len (.tmp 6))⟩,
    ⟨(some 8), none, .val (.mv (.const (.int 0)))⟩] [])
  (.block 0 (.loop (.seq (.region [
    ⟨(some 9), none, .val (.bin .lss T.int (.tmp 8) (.tmp 7))⟩] [])
  (.seq (.cond (.tmp 9)
  .skip
  (.exit 0))
  (.seq (.block 1 (.seq (.region [
    ⟨(some 10), none, .val (.indexAddr 5 (.tmp 6) (.tmp 8))⟩,
    ⟨(some 11), none, .val (.load 5 true (.tmp 10))⟩,
    ⟨(some 5), none, .alloc T.apiReview [(.int 0), (.int 0), (.int 0), (.int 0), (.int 0)]⟩,
    ⟨none, none, .store 5 (.tmp 5) (.tmp 11)⟩] [10, 11])
  (.seq (.region [
    ⟨(some 12), none, .val (.fieldAddr 2 (.tmp 5))⟩,
    ⟨(some 13), none, .val (.load 1 false (.tmp 12))⟩,
    ⟨(some 14), none, .val (.load 1 false (.tmp 2))⟩,
    ⟨(some 15), none, .val (.bin .leq T.int (.tmp 13) (.tmp 14))⟩,
    ⟨(some 16), none, .val (.mv (.tmp 15))⟩,
    ⟨(some 17), (some (16, true)), .val (.fieldAddr 3 (.tmp 5))⟩,
    ⟨(some 18), (some (16, true)), .val (.load 1 false (.tmp 17))⟩,
    ⟨(some 19), (some (16, true)), .val (.bin .eql T.int (.tmp 18) (.const (.int (-1))))⟩,
    ⟨(some 20), (some (16, true)), .val (.mv (.tmp 19))⟩,
    ⟨(some 21), (some (20, false)), .val (.fieldAddr 3 (.tmp 5))⟩,
    ⟨(some 22), (some (20, false)), .val (.load 1 false (.tmp 21))⟩,
    ⟨(some 23), (some (20, false)), .val (.load 1 false (.tmp 2))⟩,
    ⟨(some 24), (some (20, false)), .val (.bin .gtr T.int (.tmp 22) (.tmp 23))⟩,
    ⟨(some 25), (some (16, true)), .val (.pick (.tmp 20) (.const (.bool true)) (.tmp 24))⟩,
    ⟨(some 26), none, .val (.pick (.tmp 16) (.tmp 25) (.const (.bool false)))⟩,
    ⟨(some 27), none, .val (.mv (.tmp 26))⟩,
    ⟨(some 28), (some (27, true)), .val (.mv (.tmp 0))⟩,
    ⟨(some 29), (some (27, true)), .val (.load 5 true (.tmp 5))⟩,
    ⟨(some 30), (some (27, true)), .call (.tmp 28) [(.tmp 29)]⟩,
    ⟨(some 31), (some (27, true)), .val (.un .not (.tmp 30))⟩,
    ⟨(some 32), none, .val (.pick (.tmp 27) (.tmp 31) (.const (.bool false)))⟩] [12, 13, 14, 15, 16, 17, 18, 19, 20, 21, 22, 23, 24, 25, 26, 27, 28, 29, 30, 31])
  (.cond (.tmp 32)
  .ret
  .skip))))
  (.region [
    ⟨(some 33), none, .val (.bin .add T.int (.tmp 8) (.const (.int 1)))⟩,
    ⟨(some 8), none, .val (.mv (.tmp 33))⟩] [33])))))))⟩
theorem H.reviews_standing_1 : Has P F.reviews_standing_1 C.reviews_standing_1 := ⟨Try.f34, Try.func34, by kernel_rfl, by kernel_rfl⟩

/-- podium/reviews.all -/
noncomputable def C.reviews_all : MFunc := ⟨6, 1, [.tmp 2],
  (.seq (.region [
    ⟨(some 2), none, .val (.mv (.const (.bool false)))⟩] [])
  (.seq (.region [
    ⟨(some 3), none, .val (.mv (.tmp 0))⟩,
    ⟨(some 4), none, .call (.const (.func (.func F.slices_Contains__Lbool_bool) [] [])) [(.tmp 3), (.const (.bool false))]⟩,
    ⟨(some 5), none, .val (.un .not (.tmp 4))⟩,
    ⟨(some 2), none, .val (.mv (.tmp 5))⟩] [3, 4, 5])
  .ret))⟩
theorem H.reviews_all : Has P F.reviews_all C.reviews_all := ⟨Try.f35, Try.func35, by kernel_rfl, by kernel_rfl⟩

/-- slices.BinarySearchFunc[[]podium/api.Review,podium/api.Review,int] -/
noncomputable def C.slices_BinarySearchFunc__LapiReview_apiReview_int : MFunc := ⟨49, 3, [.tmp 6, .tmp 7],
  (.seq (.region [
    ⟨(some 6), none, .val (.mv (.const (.int 0)))⟩,
    ⟨(some 7), none, .val (.mv (.const (.bool false)))⟩] [])
  (.seq (.region [
    ⟨(some 12), none, .val (.mv (.tmp 0))⟩,
    ⟨(some 13), none, .val (.len (.tmp 12))⟩,
    ⟨(some 8), none, .val (.mv (.tmp 13))⟩] [12, 13])
  (.seq (.region [
    ⟨(some 14), none, .val (.mv (.tmp 8))⟩,
    ⟨(some 9), none, .val (.mv (.const (.int 0)))⟩,
    ⟨(some 10), none, .val (.mv (.tmp 14))⟩] [14])
  (.seq (.block 0 (.loop (.seq (.seq (.region [
    ⟨(some 15), none, .val (.mv (.tmp 9))⟩,
    ⟨(some 16), none, .val (.mv (.tmp 10))⟩,
    ⟨(some 17), none, .val (.bin .lss T.int (.tmp 15) (.tmp 16))⟩] [15, 16])
  (.cond (.tmp 17)
  .skip
  (.exit 0)))
  (.block 1 (.seq (.region [
    ⟨(some 18), none, .val (.mv (.tmp 9))⟩,
    ⟨(some 19), none, .val (.mv (.tmp 10))⟩,
    ⟨(some 20), none, .val (.bin .add T.int (.tmp 18) (.tmp 19))⟩,
    ⟨(some 21), none, .val (.toInt .u64 (.tmp 20))⟩,
    ⟨(some 22), none, .val (.bin .shr T.uint (.tmp 21) (.const (.val (.int .u64 1))))⟩,
    ⟨(some 23), none, .val (.toInt .i64 (.tmp 22))⟩,
    ⟨(some 11), none, .val (.mv (.tmp 23))⟩] [18, 19, 20, 21, 22, 23])
  (.seq (.region [
    ⟨(some 24), none, .val (.mv (.tmp 2))⟩,
    ⟨(some 25), none, .val (.mv (.tmp 0))⟩,
    ⟨(some 26), none, .val (.mv (.tmp 11))⟩,
    ⟨(some 27), none, .val (.indexAddr 5 (.tmp 25) (.tmp 26))⟩,
    ⟨(some 28), none, .val (.load 5 true (.tmp 27))⟩,
    ⟨(some 29), none, .val (.mv (.tmp 1))⟩,
    ⟨(some 30), none, .call (.tmp 24) [(.tmp 28), (.tmp 29)]⟩,
    ⟨(some 31), none, .val (.bin .lss T.int (.tmp 30) (.const (.int 0)))⟩] [24, 25, 26, 27, 28, 29, 30])
  (.cond (.tmp 31)
  (.region [
    ⟨(some 32), none, .val (.mv (.tmp 11))⟩,
    ⟨(some 33), none, .val (.bin .add T.int (.tmp 32) (.const (.int 1)))⟩,
    ⟨(some 9), none, .val (.mv (.tmp 33))⟩] [32, 33])
  (.region [
    ⟨(some 34), none, .val (.mv (.tmp 11))⟩,
    ⟨(some 10), none, .val (.mv (.tmp 34))⟩] [34]))))))))
  (.seq (.region [
    ⟨(some 35), none, .val (.mv (.tmp 9))⟩,
    ⟨(some 36), none, .val (.mv (.tmp 9))⟩,
    ⟨(some 37), none, .val (.mv (.tmp 8))⟩,
    ⟨(some 38), none, .val (.bin .lss T.int (.tmp 36) (.tmp 37))⟩,
    ⟨(some 39), none, .val (.mv (.tmp 38))⟩,
    ⟨(some 40), (some (39, true)), .val (.mv (.tmp 2))⟩,
    ⟨(some 41), (some (39, true)), .val (.mv (.tmp 0))⟩,
    ⟨(some 42), (some (39, true)), .val (.mv (.tmp 9))⟩,
    ⟨(some 43), (some (39, true)), .val (.indexAddr 5 (.tmp 41) (.tmp 42))⟩,
    ⟨(some 44), (some (39, true)), .val (.load 5 true (.tmp 43))⟩,
    ⟨(some 45), (some (39, true)), .val (.mv (.tmp 1))⟩,
    ⟨(some 46), (some (39, true)), .call (.tmp 40) [(.tmp 44), (.tmp 45)]⟩,
    ⟨(some 47), (some (39, true)), .val (.bin .eql T.int (.tmp 46) (.const (.int 0)))⟩,
    ⟨(some 48), none, .val (.pick (.tmp 39) (.tmp 47) (.const (.bool false)))⟩,
    ⟨(some 6), none, .val (.mv (.tmp 35))⟩,
    ⟨(some 7), none, .val (.mv (.tmp 48))⟩] [35, 36, 37, 38, 39, 40, 41, 42, 43, 44, 45, 46, 47, 48])
  .ret)))))⟩
theorem H.slices_BinarySearchFunc__LapiReview_apiReview_int : Has P F.slices_BinarySearchFunc__LapiReview_apiReview_int C.slices_BinarySearchFunc__LapiReview_apiReview_int := ⟨Try.f36, Try.func36, by kernel_rfl, by kernel_rfl⟩

/-- podium/reviews.place[podium/api.Review,int]$1 -/
noncomputable def C.reviews_place__apiReview_int_1 : MFunc := ⟨11, 3, [.tmp 5],
  (.seq (.region [
    ⟨(some 3), none, .box T.apiReview (.tmp 0)⟩,
    ⟨(some 5), none, .val (.mv (.const (.int 0)))⟩] [])
  (.seq (.region [
    ⟨(some 6), none, .val (.load 1 false (.tmp 2))⟩,
    ⟨(some 7), none, .val (.load 5 true (.tmp 3))⟩,
    ⟨(some 8), none, .call (.tmp 6) [(.tmp 7)]⟩,
    ⟨(some 9), none, .val (.mv (.tmp 1))⟩,
    ⟨(some 10), none, .call (.const (.func (.func F.cmp_Compare__int) [] [])) [(.tmp 8), (.tmp 9)]⟩,
    ⟨(some 5), none, .val (.mv (.tmp 10))⟩] [6, 7, 8, 9, 10])
  .ret))⟩
theorem H.reviews_place__apiReview_int_1 : Has P F.reviews_place__apiReview_int_1 C.reviews_place__apiReview_int_1 := ⟨Try.f37, Try.func37, by kernel_rfl, by kernel_rfl⟩

/-- cmp.Compare[int] -/
noncomputable def C.cmp_Compare__int : MFunc := ⟨20, 2, [.tmp 4],
  (.seq (.region [
    ⟨(some 4), none, .val (.mv (.const (.int 0)))⟩] [])
  (.seq (.region [
    ⟨(some 7), none, .val (.mv (.tmp 0))⟩,
    ⟨(some 8), none, .call (.const (.func (.func F.cmp_isNaN__int) [] [])) [(.tmp 7)]⟩,
    ⟨(some 5), none, .val (.mv (.tmp 8))⟩] [7, 8])
  (.seq (.region [
    ⟨(some 9), none, .val (.mv (.tmp 1))⟩,
    ⟨(some 10), none, .call (.const (.func (.func F.cmp_isNaN__int) [] [])) [(.tmp 9)]⟩,
    ⟨(some 6), none, .val (.mv (.tmp 10))⟩] [9, 10])
  (.seq (.seq (.region [
    ⟨(some 11), none, .val (.mv (.tmp 5))⟩] [])
  (.cond (.tmp 11)
  (.seq (.seq (.region [
    ⟨(some 12), none, .val (.mv (.tmp 6))⟩] [])
  (.cond (.tmp 12)
  (.seq (.region [
    ⟨(some 4), none, .val (.mv (.const (.int 0)))⟩] [])
  .ret)
  .skip))
  (.seq (.region [
    ⟨(some 4), none, .val (.mv (.const (.int (-1))))⟩] [])
  .ret))
  .skip))
  (.seq (.seq (.region [
    ⟨(some 13), none, .val (.mv (.tmp 6))⟩] [])
  (.cond (.tmp 13)
  (.seq (.region [
    ⟨(some 4), none, .val (.mv (.const (.int 1)))⟩] [])
  .ret)
  .skip))
  (.seq (.seq (.region [
    ⟨(some 14), none, .val (.mv (.tmp 0))⟩,
    ⟨(some 15), none, .val (.mv (.tmp 1))⟩,
    ⟨(some 16), none, .val (.bin .lss T.int (.tmp 14) (.tmp 15))⟩] [14, 15])
  (.cond (.tmp 16)
  (.seq (.region [
    ⟨(some 4), none, .val (.mv (.const (.int (-1))))⟩] [])
  .ret)
  .skip))
  (.seq (.seq (.region [
    ⟨(some 17), none, .val (.mv (.tmp 0))⟩,
    ⟨(some 18), none, .val (.mv (.tmp 1))⟩,
    ⟨(some 19), none, .val (.bin .gtr T.int (.tmp 17) (.tmp 18))⟩] [17, 18])
  (.cond (.tmp 19)
  (.seq (.region [
    ⟨(some 4), none, .val (.mv (.const (.int 1)))⟩] [])
  .ret)
  .skip))
  (.seq (.region [
    ⟨(some 4), none, .val (.mv (.const (.int 0)))⟩] [])
  .ret))))))))⟩
theorem H.cmp_Compare__int : Has P F.cmp_Compare__int C.cmp_Compare__int := ⟨Try.f38, Try.func38, by kernel_rfl, by kernel_rfl⟩

-- not taken: slices.overlaps[podium/api.Review]
/-- slices.rotateRight[podium/api.Review] -/
noncomputable def C.slices_rotateRight__apiReview : MFunc := ⟨10, 2, [],
  (.region [
    ⟨(some 4), none, .val (.mv (.tmp 0))⟩,
    ⟨(some 5), none, .val (.mv (.tmp 0))⟩,
    ⟨(some 6), none, .val (.len (.tmp 5))⟩,
    ⟨(some 7), none, .val (.mv (.tmp 1))⟩,
    ⟨(some 8), none, .val (.bin .sub T.int (.tmp 6) (.tmp 7))⟩,
    ⟨(some 9), none, .call (.const (.func (.func F.slices_rotateLeft__apiReview) [] [])) [(.tmp 4), (.tmp 8)]⟩] [4, 5, 6, 7, 8, 9])⟩
theorem H.slices_rotateRight__apiReview : Has P F.slices_rotateRight__apiReview C.slices_rotateRight__apiReview := ⟨Try.f40, Try.func40, by kernel_rfl, by kernel_rfl⟩

/-- slices.Contains[[]bool,bool] -/
noncomputable def C.slices_Contains__Lbool_bool : MFunc := ⟨9, 2, [.tmp 4],
  (.seq (.region [
    ⟨(some 4), none, .val (.mv (.const (.bool false)))⟩] [])
  (.seq (.region [
    ⟨(some 5), none, .val (.mv (.tmp 0))⟩,
    ⟨(some 6), none, .val (.mv (.tmp 1))⟩,
    ⟨(some 7), none, .call (.const (.func (.func F.slices_Index__Lbool_bool) [] [])) [(.tmp 5), (.tmp 6)]⟩,
    ⟨(some 8), none, .val (.bin .geq T.int (.tmp 7) (.const (.int 0)))⟩,
    ⟨(some 4), none, .val (.mv (.tmp 8))⟩] [5, 6, 7, 8])
  .ret))⟩
theorem H.slices_Contains__Lbool_bool : Has P F.slices_Contains__Lbool_bool C.slices_Contains__Lbool_bool := ⟨Try.f41, Try.func41, by kernel_rfl, by kernel_rfl⟩

/-- cmp.isNaN[int] -/
noncomputable def C.cmp_isNaN__int : MFunc := ⟨6, 1, [.tmp 2],
  (.seq (.region [
    ⟨(some 2), none, .val (.mv (.const (.bool false)))⟩] [])
  (.seq (.region [
    ⟨(some 3), none, .val (.mv (.tmp 0))⟩,
    ⟨(some 4), none, .val (.mv (.tmp 0))⟩,
    ⟨(some 5), none, .val (.bin .neq T.int (.tmp 3) (.tmp 4))⟩,
    ⟨(some 2), none, .val (.mv (.tmp 5))⟩] [3, 4, 5])
  .ret))⟩
theorem H.cmp_isNaN__int : Has P F.cmp_isNaN__int C.cmp_isNaN__int := ⟨Try.f42, Try.func42, by kernel_rfl, by kernel_rfl⟩

/-- slices.rotateLeft[podium/api.Review] -/
noncomputable def C.slices_rotateLeft__apiReview : MFunc := ⟨14, 2, [],
  (.seq (.region [
    ⟨(some 4), none, .val (.mv (.tmp 0))⟩,
    ⟨(some 5), none, .val (.mv (.tmp 1))⟩,
    ⟨(some 6), none, .val (.slice 5 (.tmp 4) none (some (.tmp 5)) none)⟩,
    ⟨(some 7), none, .call (.const (.func (.func F.slices_Reverse__LapiReview_apiReview) [] [])) [(.tmp 6)]⟩] [4, 5, 6, 7])
  (.seq (.region [
    ⟨(some 8), none, .val (.mv (.tmp 0))⟩,
    ⟨(some 9), none, .val (.mv (.tmp 1))⟩,
    ⟨(some 10), none, .val (.slice 5 (.tmp 8) (some (.tmp 9)) none none)⟩,
    ⟨(some 11), none, .call (.const (.func (.func F.slices_Reverse__LapiReview_apiReview) [] [])) [(.tmp 10)]⟩] [8, 9, 10, 11])
  (.region [
    ⟨(some 12), none, .val (.mv (.tmp 0))⟩,
    ⟨(some 13), none, .call (.const (.func (.func F.slices_Reverse__LapiReview_apiReview) [] [])) [(.tmp 12)]⟩] [12, 13])))⟩
theorem H.slices_rotateLeft__apiReview : Has P F.slices_rotateLeft__apiReview C.slices_rotateLeft__apiReview := ⟨Try.f43, Try.func43, by kernel_rfl, by kernel_rfl⟩

/-- slices.Index[[]bool,bool] -/
noncomputable def C.slices_Index__Lbool_bool : MFunc := ⟨19, 2, [.tmp 4],
  (.seq (.region [
    ⟨(some 4), none, .val (.mv (.const (.int 0)))⟩] [])
  (.seq (.seq (.region [
    ⟨(some 6), none, .val (.mv (.tmp 0))⟩,
    ⟨(some 7), none, .val (.len (.tmp 6))⟩,
    ⟨(some 8), none, .val (.mv (.const (.int 0)))⟩] [6])
  (.block 0 (.loop (.seq (.region [
    ⟨(some 9), none, .val (.bin .lss T.int (.tmp 8) (.tmp 7))⟩] [])
  (.seq (.cond (.tmp 9)
  .skip
  (.exit 0))
  (.seq (.block 1 (.seq (.region [
    ⟨(some 10), none, .val (.mv (.tmp 8))⟩,
    ⟨(some 5), none, .val (.mv (.tmp 10))⟩] [10])
  (.seq (.region [
    ⟨(some 11), none, .val (.mv (.tmp 1))⟩,
    ⟨(some 12), none, .val (.mv (.tmp 0))⟩,
    ⟨(some 13), none, .val (.mv (.tmp 5))⟩,
    ⟨(some 14), none, .val (.indexAddr 1 (.tmp 12) (.tmp 13))⟩,
    ⟨(some 15), none, .val (.load 1 false (.tmp 14))⟩,
    ⟨(some 16), none, .val (.eqBool false (.tmp 11) (.tmp 15))⟩] [11, 12, 13, 14, 15])
  (.cond (.tmp 16)
  (.seq (.region [
    ⟨(some 17), none, .val (.mv (.tmp 5))⟩,
    ⟨(some 4), none, .val (.mv (.tmp 17))⟩] [17])
  .ret)
  .skip))))
  (.region [
    ⟨(some 18), none, .val (.bin .add T.int (.tmp 8) (.const (.int 1)))⟩,
    ⟨(some 8), none, .val (.mv (.tmp 18))⟩] [18])))))))
  (.seq (.region [
    ⟨(some 4), none, .val (.mv (.const (.int (-1))))⟩] [])
  .ret)))⟩
theorem H.slices_Index__Lbool_bool : Has P F.slices_Index__Lbool_bool C.slices_Index__Lbool_bool := ⟨Try.f44, Try.func44, by kernel_rfl, by kernel_rfl⟩

/-- slices.Reverse[[]podium/api.Review,podium/api.Review] -/
noncomputable def C.slices_Reverse__LapiReview_apiReview : MFunc := ⟨28, 1, [],
  (.seq (.region [
    ⟨(some 4), none, .val (.mv (.tmp 0))⟩,
    ⟨(some 5), none, .val (.len (.tmp 4))⟩,
    ⟨(some 6), none, .val (.bin .sub T.int (.tmp 5) (.const (.int 1)))⟩,
    ⟨(some 2), none, .val (.mv (.const (.int 0)))⟩,
    ⟨(some 3), none, .val (.mv (.tmp 6))⟩] [4, 5, 6])
  (.block 0 (.loop (.seq (.seq (.region [
    ⟨(some 7), none, .val (.mv (.tmp 2))⟩,
    ⟨(some 8), none, .val (.mv (.tmp 3))⟩,
    ⟨(some 9), none, .val (.bin .lss T.int (.tmp 7) (.tmp 8))⟩] [7, 8])
  (.cond (.tmp 9)
  .skip
  (.exit 0)))
  (.seq (.block 1 (.draw true [
    (.early, ⟨(some 14), none, .val (.mv (.tmp 0))⟩),
    (.early, ⟨(some 15), none, .val (.mv (.tmp 2))⟩),
    (.late, ⟨(some 16), none, .val (.mv (.tmp 0))⟩),
    (.late, ⟨(some 17), none, .val (.mv (.tmp 3))⟩),
    (.early, ⟨(some 18), none, .val (.mv (.tmp 0))⟩),
    (.early, ⟨(some 19), none, .val (.mv (.tmp 3))⟩),
    (.early, ⟨(some 20), none, .val (.indexAddr 5 (.tmp 18) (.tmp 19))⟩),
    (.early, ⟨(some 21), none, .val (.load 5 true (.tmp 20))⟩),
    (.early, ⟨(some 22), none, .val (.mv (.tmp 0))⟩),
    (.early, ⟨(some 23), none, .val (.mv (.tmp 2))⟩),
    (.early, ⟨(some 24), none, .val (.indexAddr 5 (.tmp 22) (.tmp 23))⟩),
    (.early, ⟨(some 25), none, .val (.load 5 true (.tmp 24))⟩),
    (.early, ⟨(some 26), none, .val (.indexAddr 5 (.tmp 14) (.tmp 15))⟩),
    (.hard, ⟨none, none, .store 5 (.tmp 26) (.tmp 21)⟩),
    (.late, ⟨(some 27), none, .val (.indexAddr 5 (.tmp 16) (.tmp 17))⟩),
    (.hard, ⟨none, none, .store 5 (.tmp 27) (.tmp 25)⟩)] [14, 15, 16, 17, 18, 19, 20, 21, 22, 23, 24, 25, 26, 27]))
  (.region [
    ⟨(some 10), none, .val (.mv (.tmp 2))⟩,
    ⟨(some 11), none, .val (.bin .add T.int (.tmp 10) (.const (.int 1)))⟩,
    ⟨(some 12), none, .val (.mv (.tmp 3))⟩,
    ⟨(some 13), none, .val (.bin .sub T.int (.tmp 12) (.const (.int 1)))⟩,
    ⟨(some 2), none, .val (.mv (.tmp 11))⟩,
    ⟨(some 3), none, .val (.mv (.tmp 13))⟩] [10, 11, 12, 13]))))))⟩
theorem H.slices_Reverse__LapiReview_apiReview : Has P F.slices_Reverse__LapiReview_apiReview C.slices_Reverse__LapiReview_apiReview := ⟨Try.f45, Try.func45, by kernel_rfl, by kernel_rfl⟩

end Go.Proofs.Ytbjfmedpaohpnaa
