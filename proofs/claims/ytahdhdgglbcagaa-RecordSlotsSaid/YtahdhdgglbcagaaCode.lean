/- The compact code of this seat's functions (printed by a program of ours out of the translation; each is checked against the loaded program). -/
import Derived.Test.YtahdhdgglbcagaaProg
import Derived.Test.YtahdhdgglbcagaaLEv
set_option maxRecDepth 100000
namespace Go.Proofs.Ytahdhdgglbcagaa
open Go.Pv

noncomputable abbrev P : Program := Try.prog
theorem hmix : P.follows .mixedOrders = true := by kernel_rfl

namespace T
abbrev t : Nat := 0
abbrev func : Nat := 1
abbrev int64 : Nat := 2
abbrev int : Nat := 3
abbrev bool : Nat := 4
abbrev uint8 : Nat := 5
abbrev internalabiBoundsErrorCode : Nat := 6
abbrev structxint64yintsignedboolcodeabiBoundsErrorCode : Nat := 7
abbrev runtimeboundsError : Nat := 8
abbrev string : Nat := 9
abbrev runtimeerrorString : Nat := 10
abbrev runtimeplainError : Nat := 11
abbrev uintptr : Nat := 12
abbrev structmsgstringaddruintptr : Nat := 13
abbrev runtimeerrorAddressString : Nat := 14
abbrev runtimeTypeAssertionError : Nat := 15
abbrev runtimePanicNilError : Nat := 16
abbrev abiType : Nat := 17
abbrev structtypabiType : Nat := 18
abbrev internalruntimemapsunhashableTypeError : Nat := 19
abbrev interface : Nat := 20
abbrev int32 : Nat := 21
abbrev LapiEvent : Nat := 22
abbrev structNointKindintRoundintEntryintJudgeintItemintValueintAtintKnownint : Nat := 23
abbrev apiEvent : Nat := 24
abbrev funcbool : Nat := 25
abbrev funcLapiEventbool : Nat := 26
abbrev apiErrno : Nat := 27
abbrev LapiEventapiErrno : Nat := 28
abbrev funcLapiEventapiEventLapiEventapiErrno : Nat := 29
abbrev funcLapiEventapiErrno : Nat := 30
abbrev funcLapiEventLapiEventbool : Nat := 31
abbrev funcLapiEventapiEventbool : Nat := 32
abbrev funcLapiEventintintLapiEventapiErrno : Nat := 33
abbrev funcLapiEventintintbool : Nat := 34
abbrev funcapiEventintintbool : Nat := 35
abbrev funcapiEventapiEventbool : Nat := 36
abbrev funcLapiEventapiEventapiEventbool : Nat := 37
abbrev funcLapiEventapiEventintintbool : Nat := 38
abbrev funcintintintintapiEvent : Nat := 39
abbrev structdayinttimeintwantLapiEvent : Nat := 40
abbrev LstructdayinttimeintwantLapiEvent : Nat := 41
abbrev funcapiEventmapintrecordkindbool : Nat := 42
abbrev mapintrecordkind : Nat := 43
abbrev funcmapintrecordkind : Nat := 44
abbrev intbool : Nat := 45
abbrev funcLapiEventstructfuncapiEventstructintintbool : Nat := 46
abbrev struct : Nat := 47
abbrev funcapiEventstructint : Nat := 48
abbrev recordnumber : Nat := 49
abbrev funcLapiEventintapiEventLapiEvent : Nat := 50
abbrev funcLapiEventLapiEvent : Nat := 51
abbrev funcapiEventbool : Nat := 52
abbrev funcintintintbool : Nat := 53
abbrev maprecordslotapiEvent : Nat := 54
abbrev apiEventbool : Nat := 55
abbrev structkindintroundintentryintjudgeintitemint : Nat := 56
abbrev recordslot : Nat := 57
abbrev funcapiEventrecordslot : Nat := 58
abbrev structrightfuncapiEventbool : Nat := 59
abbrev recordkind : Nat := 60
abbrev recordkindbool : Nat := 61
abbrev uint : Nat := 62
abbrev funcintintint : Nat := 63
abbrev funcLapiEventint : Nat := 64
abbrev funcintbool : Nat := 65
abbrev funcLapiEvent : Nat := 66
abbrev funcstring : Nat := 67
abbrev structinterfaceabiTypeconcreteabiTypeassertedabiTypemissingMethodstring : Nat := 68
abbrev runtimeTypeAssertionError_2 : Nat := 69
abbrev t0runtimePanicNilError : Nat := 70
abbrev struct0runtimePanicNilError : Nat := 71
abbrev runtimePanicNilError_2 : Nat := 72
abbrev funcint : Nat := 73
abbrev uint32 : Nat := 74
abbrev internalabiTFlag : Nat := 75
abbrev internalabiKind : Nat := 76
abbrev funcunsafePointerunsafePointerbool : Nat := 77
abbrev uint8_2 : Nat := 78
abbrev internalabiNameOff : Nat := 79
abbrev internalabiTypeOff : Nat := 80
abbrev structSizeuintptrPtrBytesuintptrHashuint32TFlagabiTFlagAlignuint8FieldAlignuint8KindabiKindEqualfuncunsafePointerunsafePointerboolGCDatauint8StrabiNameOffPtrToThisabiTypeOff : Nat := 81
abbrev internalabiType : Nat := 82
abbrev unsafePointer : Nat := 83
end T
namespace F
abbrev podiumlaw49_RecordSpec : Nat := 3
abbrev podiumlaw49_RecordStandingSpec : Nat := 4
abbrev podiumlaw49_RecordOne : Nat := 5
abbrev podiumlaw49_RecordOrder : Nat := 6
abbrev podiumlaw49_RecordLater : Nat := 7
abbrev podiumlaw49_RecordSlots : Nat := 8
abbrev podiumlaw49_sane : Nat := 9
abbrev podiumref49_Few : Nat := 10
abbrev record_Add : Nat := 11
abbrev podiumref49_Add : Nat := 12
abbrev record_Check : Nat := 13
abbrev podiumref49_Check : Nat := 14
abbrev podiumref49_Same : Nat := 15
abbrev record_Standing : Nat := 16
abbrev podiumref49_Standing : Nat := 17
abbrev podiumref49_Counts : Nat := 18
abbrev podiumref49_Slot : Nat := 19
abbrev podiumref49_Later : Nat := 20
abbrev podiumlaw49_mark : Nat := 21
abbrev record_right : Nat := 22
abbrev record_kinds : Nat := 23
abbrev slices_BinarySearchFunc__LapiEvent_apiEvent_struct : Nat := 24
abbrev record_number_compare : Nat := 25
abbrev slices_Insert__LapiEvent_apiEvent : Nat := 26
abbrev slices_Clone__LapiEvent_apiEvent : Nat := 27
abbrev podiumref49_Right : Nat := 28
abbrev record_between : Nat := 29
abbrev record_of : Nat := 30
abbrev podiumref49_Stands : Nat := 31
abbrev record_kinds_1 : Nat := 32
abbrev record_kinds_2 : Nat := 33
abbrev record_kinds_3 : Nat := 34
abbrev record_kinds_4 : Nat := 35
abbrev cmp_Compare__int : Nat := 36
abbrev slices_overlaps__apiEvent : Nat := 37
abbrev slices_rotateRight__apiEvent : Nat := 38
abbrev podiumref49_in : Nat := 39
abbrev cmp_isNaN__int : Nat := 40
abbrev slices_rotateLeft__apiEvent : Nat := 41
abbrev slices_Reverse__LapiEvent_apiEvent : Nat := 42
end F

/-- podium/podiumlaw49.RecordSpec -/
noncomputable def C.podiumlaw49_RecordSpec : MFunc := ⟨41, 2, [.tmp 4],
  (.seq (.region [
    ⟨(some 3), none, .box T.apiEvent (.tmp 1)⟩,
    ⟨(some 4), none, .val (.mv (.const (.bool false)))⟩] [])
  (.seq (.seq (.region [
    ⟨(some 9), none, .call (.const (.func (.func F.podiumlaw49_sane) [] [])) []⟩,
    ⟨(some 10), none, .val (.un .not (.tmp 9))⟩] [9])
  (.cond (.tmp 10)
  (.seq (.region [
    ⟨(some 4), none, .val (.mv (.const (.bool false)))⟩] [])
  .ret)
  .skip))
  (.seq (.seq (.region [
    ⟨(some 11), none, .val (.mv (.tmp 0))⟩,
    ⟨(some 12), none, .call (.const (.func (.func F.podiumref49_Few) [] [])) [(.tmp 11)]⟩,
    ⟨(some 13), none, .val (.un .not (.tmp 12))⟩] [11, 12])
  (.cond (.tmp 13)
  (.seq (.region [
    ⟨(some 4), none, .val (.mv (.const (.bool true)))⟩] [])
  .ret)
  .skip))
  (.seq (.region [
    ⟨(some 15), none, .val (.mv (.tmp 0))⟩,
    ⟨(some 16), none, .val (.load 9 true (.tmp 3))⟩,
    ⟨(some 17), none, .call (.const (.func (.func F.record_Add) [] [])) [(.tmp 15), (.tmp 16)]⟩,
    ⟨(some 14), none, .val (.mv (.tmp 17))⟩,
    ⟨(some 18), none, .val (.extract 0 (.tmp 14))⟩,
    ⟨(some 19), none, .val (.extract 1 (.tmp 14))⟩,
    ⟨(some 5), none, .val (.mv (.tmp 18))⟩,
    ⟨(some 6), none, .val (.mv (.tmp 19))⟩] [15, 16, 17, 14, 18, 19])
  (.seq (.region [
    ⟨(some 21), none, .val (.mv (.tmp 0))⟩,
    ⟨(some 22), none, .val (.load 9 true (.tmp 3))⟩,
    ⟨(some 23), none, .call (.const (.func (.func F.podiumref49_Add) [] [])) [(.tmp 21), (.tmp 22)]⟩,
    ⟨(some 20), none, .val (.mv (.tmp 23))⟩,
    ⟨(some 24), none, .val (.extract 0 (.tmp 20))⟩,
    ⟨(some 25), none, .val (.extract 1 (.tmp 20))⟩,
    ⟨(some 7), none, .val (.mv (.tmp 24))⟩,
    ⟨(some 8), none, .val (.mv (.tmp 25))⟩] [21, 22, 23, 20, 24, 25])
  (.seq (.region [
    ⟨(some 26), none, .val (.mv (.tmp 0))⟩,
    ⟨(some 27), none, .call (.const (.func (.func F.record_Check) [] [])) [(.tmp 26)]⟩,
    ⟨(some 28), none, .val (.mv (.tmp 0))⟩,
    ⟨(some 29), none, .call (.const (.func (.func F.podiumref49_Check) [] [])) [(.tmp 28)]⟩,
    ⟨(some 30), none, .val (.bin .eql T.apiErrno (.tmp 27) (.tmp 29))⟩,
    ⟨(some 31), none, .val (.mv (.tmp 30))⟩,
    ⟨(some 32), (some (31, true)), .val (.mv (.tmp 5))⟩,
    ⟨(some 33), (some (31, true)), .val (.mv (.tmp 7))⟩,
    ⟨(some 34), (some (31, true)), .call (.const (.func (.func F.podiumref49_Same) [] [])) [(.tmp 32), (.tmp 33)]⟩,
    ⟨(some 35), none, .val (.pick (.tmp 31) (.tmp 34) (.const (.bool false)))⟩,
    ⟨(some 36), none, .val (.mv (.tmp 35))⟩,
    ⟨(some 37), (some (36, true)), .val (.mv (.tmp 6))⟩,
    ⟨(some 38), (some (36, true)), .val (.mv (.tmp 8))⟩,
    ⟨(some 39), (some (36, true)), .val (.bin .eql T.apiErrno (.tmp 37) (.tmp 38))⟩,
    ⟨(some 40), none, .val (.pick (.tmp 36) (.tmp 39) (.const (.bool false)))⟩,
    ⟨(some 4), none, .val (.mv (.tmp 40))⟩] [26, 27, 28, 29, 30, 31, 32, 33, 34, 35, 36, 37, 38, 39, 40])
  .ret))))))⟩
theorem H.podiumlaw49_RecordSpec : Has P F.podiumlaw49_RecordSpec C.podiumlaw49_RecordSpec := ⟨Try.f3, Try.func3, by kernel_rfl, by kernel_rfl⟩

/-- podium/podiumlaw49.RecordStandingSpec -/
noncomputable def C.podiumlaw49_RecordStandingSpec : MFunc := ⟨38, 3, [.tmp 6],
  (.seq (.region [
    ⟨(some 6), none, .val (.mv (.const (.bool false)))⟩] [])
  (.seq (.seq (.region [
    ⟨(some 11), none, .call (.const (.func (.func F.podiumlaw49_sane) [] [])) []⟩,
    ⟨(some 12), none, .val (.un .not (.tmp 11))⟩] [11])
  (.cond (.tmp 12)
  (.seq (.region [
    ⟨(some 6), none, .val (.mv (.const (.bool false)))⟩] [])
  .ret)
  .skip))
  (.seq (.seq (.region [
    ⟨(some 13), none, .val (.mv (.tmp 0))⟩,
    ⟨(some 14), none, .call (.const (.func (.func F.podiumref49_Few) [] [])) [(.tmp 13)]⟩,
    ⟨(some 15), none, .val (.un .not (.tmp 14))⟩] [13, 14])
  (.cond (.tmp 15)
  (.seq (.region [
    ⟨(some 6), none, .val (.mv (.const (.bool true)))⟩] [])
  .ret)
  .skip))
  (.seq (.region [
    ⟨(some 17), none, .val (.mv (.tmp 0))⟩,
    ⟨(some 18), none, .val (.mv (.tmp 1))⟩,
    ⟨(some 19), none, .val (.mv (.tmp 2))⟩,
    ⟨(some 20), none, .call (.const (.func (.func F.record_Standing) [] [])) [(.tmp 17), (.tmp 18), (.tmp 19)]⟩,
    ⟨(some 16), none, .val (.mv (.tmp 20))⟩,
    ⟨(some 21), none, .val (.extract 0 (.tmp 16))⟩,
    ⟨(some 22), none, .val (.extract 1 (.tmp 16))⟩,
    ⟨(some 7), none, .val (.mv (.tmp 21))⟩,
    ⟨(some 8), none, .val (.mv (.tmp 22))⟩] [17, 18, 19, 20, 16, 21, 22])
  (.seq (.region [
    ⟨(some 24), none, .val (.mv (.tmp 0))⟩,
    ⟨(some 25), none, .val (.mv (.tmp 1))⟩,
    ⟨(some 26), none, .val (.mv (.tmp 2))⟩,
    ⟨(some 27), none, .call (.const (.func (.func F.podiumref49_Standing) [] [])) [(.tmp 24), (.tmp 25), (.tmp 26)]⟩,
    ⟨(some 23), none, .val (.mv (.tmp 27))⟩,
    ⟨(some 28), none, .val (.extract 0 (.tmp 23))⟩,
    ⟨(some 29), none, .val (.extract 1 (.tmp 23))⟩,
    ⟨(some 9), none, .val (.mv (.tmp 28))⟩,
    ⟨(some 10), none, .val (.mv (.tmp 29))⟩] [24, 25, 26, 27, 23, 28, 29])
  (.seq (.region [
    ⟨(some 30), none, .val (.mv (.tmp 7))⟩,
    ⟨(some 31), none, .val (.mv (.tmp 9))⟩,
    ⟨(some 32), none, .call (.const (.func (.func F.podiumref49_Same) [] [])) [(.tmp 30), (.tmp 31)]⟩,
    ⟨(some 33), none, .val (.mv (.tmp 32))⟩,
    ⟨(some 34), (some (33, true)), .val (.mv (.tmp 8))⟩,
    ⟨(some 35), (some (33, true)), .val (.mv (.tmp 10))⟩,
    ⟨(some 36), (some (33, true)), .val (.bin .eql T.apiErrno (.tmp 34) (.tmp 35))⟩,
    ⟨(some 37), none, .val (.pick (.tmp 33) (.tmp 36) (.const (.bool false)))⟩,
    ⟨(some 6), none, .val (.mv (.tmp 37))⟩] [30, 31, 32, 33, 34, 35, 36, 37])
  .ret))))))⟩
theorem H.podiumlaw49_RecordStandingSpec : Has P F.podiumlaw49_RecordStandingSpec C.podiumlaw49_RecordStandingSpec := ⟨Try.f4, Try.func4, by kernel_rfl, by kernel_rfl⟩

/-- podium/podiumlaw49.RecordOne -/
noncomputable def C.podiumlaw49_RecordOne : MFunc := ⟨122, 3, [.tmp 6],
  (.seq (.region [
    ⟨(some 6), none, .val (.mv (.const (.bool false)))⟩] [])
  (.seq (.seq (.region [
    ⟨(some 18), none, .call (.const (.func (.func F.podiumlaw49_sane) [] [])) []⟩,
    ⟨(some 19), none, .val (.un .not (.tmp 18))⟩] [18])
  (.cond (.tmp 19)
  (.seq (.region [
    ⟨(some 6), none, .val (.mv (.const (.bool false)))⟩] [])
  .ret)
  .skip))
  (.seq (.seq (.region [
    ⟨(some 20), none, .val (.mv (.tmp 0))⟩,
    ⟨(some 21), none, .val (.len (.tmp 20))⟩,
    ⟨(some 22), none, .val (.bin .gtr T.int (.tmp 21) (.const (.int 60)))⟩] [20, 21])
  (.cond (.tmp 22)
  (.seq (.region [
    ⟨(some 6), none, .val (.mv (.const (.bool true)))⟩] [])
  .ret)
  .skip))
  (.seq (.region [
    ⟨(some 24), none, .val (.mv (.tmp 0))⟩,
    ⟨(some 25), none, .val (.mv (.tmp 1))⟩,
    ⟨(some 26), none, .val (.mv (.tmp 2))⟩,
    ⟨(some 27), none, .call (.const (.func (.func F.record_Standing) [] [])) [(.tmp 24), (.tmp 25), (.tmp 26)]⟩,
    ⟨(some 23), none, .val (.mv (.tmp 27))⟩,
    ⟨(some 28), none, .val (.extract 0 (.tmp 23))⟩,
    ⟨(some 29), none, .val (.extract 1 (.tmp 23))⟩,
    ⟨(some 7), none, .val (.mv (.tmp 28))⟩,
    ⟨(some 8), none, .val (.mv (.tmp 29))⟩] [24, 25, 26, 27, 23, 28, 29])
  (.seq (.seq (.region [
    ⟨(some 30), none, .val (.mv (.tmp 8))⟩,
    ⟨(some 31), none, .val (.bin .neq T.apiErrno (.tmp 30) (.const (.int 0)))⟩] [30])
  (.cond (.tmp 31)
  (.seq (.region [
    ⟨(some 32), none, .val (.mv (.tmp 7))⟩,
    ⟨(some 33), none, .val (.len (.tmp 32))⟩,
    ⟨(some 34), none, .val (.bin .eql T.int (.tmp 33) (.const (.int 0)))⟩,
    ⟨(some 6), none, .val (.mv (.tmp 34))⟩] [32, 33, 34])
  .ret)
  .skip))
  (.seq (.region [
    ⟨(some 9), none, .val (.mv (.const (.int 0)))⟩] [])
  (.seq (.seq (.region [
    ⟨(some 35), none, .val (.mv (.tmp 7))⟩,
    ⟨(some 36), none, .val (.len (.tmp 35))⟩,
    ⟨(some 37), none, .val (.mv (.const (.int 0)))⟩] [])
  (.block 0 (.loop (.seq (.region [
    ⟨(some 38), none, .val (.bin .lss T.int (.tmp 37) (.tmp 36))⟩] [])
  (.seq (.cond (.tmp 38)
  .skip
  (.exit 0))
  (.seq (.block 1 (.seq (.region [
    ⟨(some 39), none, .val (.mv (.tmp 37))⟩,
    ⟨(some 40), none, .val (.indexAddr 9 (.tmp 35) (.tmp 37))⟩,
    ⟨(some 41), none, .val (.load 9 true (.tmp 40))⟩,
    ⟨(some 11), none, .alloc T.apiEvent [(.int 0), (.int 0), (.int 0), (.int 0), (.int 0), (.int 0), (.int 0), (.int 0), (.int 0)]⟩,
    ⟨(some 10), none, .val (.mv (.tmp 39))⟩,
    ⟨none, none, .store 9 (.tmp 11) (.tmp 41)⟩] [39, 40, 41])
  (.seq (.block 2 (.loop (.seq (.seq (.draw false [
    (.early, ⟨(some 42), none, .val (.mv (.tmp 9))⟩),
    (.early, ⟨(some 43), none, .val (.mv (.tmp 0))⟩),
    (.early, ⟨(some 44), none, .val (.len (.tmp 43))⟩),
    (.early, ⟨(some 45), none, .val (.bin .lss T.int (.tmp 42) (.tmp 44))⟩),
    (.early, ⟨(some 46), none, .val (.mv (.tmp 45))⟩),
    (.early, ⟨(some 47), (some (46, true)), .val (.mv (.tmp 0))⟩),
    (.early, ⟨(some 48), (some (46, true)), .val (.mv (.tmp 9))⟩),
    (.early, ⟨(some 49), (some (46, true)), .val (.indexAddr 9 (.tmp 47) (.tmp 48))⟩),
    (.early, ⟨(some 50), (some (46, true)), .val (.load 9 true (.tmp 49))⟩),
    (.early, ⟨(some 51), (some (46, true)), .val (.load 9 true (.tmp 11))⟩),
    (.early, ⟨(some 52), (some (46, true)), .val (.eqAgg true [.int, .int, .int, .int, .int, .int, .int, .int, .int] (.tmp 50) (.tmp 51))⟩),
    (.early, ⟨(some 53), none, .val (.pick (.tmp 46) (.tmp 52) (.const (.bool false)))⟩)] [42, 43, 44, 45, 46, 47, 48, 49, 50, 51, 52])
  (.cond (.tmp 53)
  .skip
  (.exit 2)))
  (.block 3 (.region [
    ⟨(some 54), none, .val (.mv (.tmp 9))⟩,
    ⟨(some 55), none, .val (.bin .add T.int (.tmp 54) (.const (.int 1)))⟩,
    ⟨(some 9), none, .val (.mv (.tmp 55))⟩] [54, 55])))))
  (.seq (.seq (.region [
    ⟨(some 56), none, .val (.mv (.tmp 9))⟩,
    ⟨(some 57), none, .val (.mv (.tmp 0))⟩,
    ⟨(some 58), none, .val (.len (.tmp 57))⟩,
    ⟨(some 59), none, .val (.bin .eql T.int (.tmp 56) (.tmp 58))⟩,
    ⟨(some 60), none, .val (.mv (.tmp 59))⟩,
    ⟨(some 61), (some (60, false)), .val (.load 9 true (.tmp 11))⟩,
    ⟨(some 62), (some (60, false)), .val (.mv (.tmp 1))⟩,
    ⟨(some 63), (some (60, false)), .val (.mv (.tmp 2))⟩,
    ⟨(some 64), (some (60, false)), .call (.const (.func (.func F.podiumref49_Counts) [] [])) [(.tmp 61), (.tmp 62), (.tmp 63)]⟩,
    ⟨(some 65), (some (60, false)), .val (.un .not (.tmp 64))⟩,
    ⟨(some 66), none, .val (.pick (.tmp 60) (.const (.bool true)) (.tmp 65))⟩] [56, 57, 58, 59, 60, 61, 62, 63, 64, 65])
  (.cond (.tmp 66)
  (.seq (.region [
    ⟨(some 6), none, .val (.mv (.const (.bool false)))⟩] [])
  .ret)
  .skip))
  (.seq (.region [
    ⟨(some 67), none, .val (.mv (.tmp 9))⟩,
    ⟨(some 68), none, .val (.bin .add T.int (.tmp 67) (.const (.int 1)))⟩,
    ⟨(some 9), none, .val (.mv (.tmp 68))⟩] [67, 68])
  (.seq (.region [
    ⟨(some 69), none, .val (.mv (.tmp 10))⟩,
    ⟨(some 70), none, .val (.mv (.const (.int 0)))⟩] [])
  (.block 4 (.loop (.seq (.region [
    ⟨(some 71), none, .val (.bin .lss T.int (.tmp 70) (.tmp 69))⟩] [])
  (.seq (.cond (.tmp 71)
  .skip
  (.exit 4))
  (.seq (.block 5 (.seq (.region [
    ⟨(some 72), none, .val (.mv (.tmp 70))⟩,
    ⟨(some 12), none, .val (.mv (.tmp 72))⟩] [72])
  (.seq (.draw false [
    (.early, ⟨(some 73), none, .val (.mv (.tmp 7))⟩),
    (.early, ⟨(some 74), none, .val (.mv (.tmp 12))⟩),
    (.early, ⟨(some 75), none, .val (.indexAddr 9 (.tmp 73) (.tmp 74))⟩),
    (.early, ⟨(some 76), none, .val (.load 9 true (.tmp 75))⟩),
    (.early, ⟨(some 77), none, .val (.load 9 true (.tmp 11))⟩),
    (.hard, ⟨(some 78), none, .call (.const (.func (.func F.podiumref49_Slot) [] [])) [(.tmp 76), (.tmp 77)]⟩)] [73, 74, 75, 76, 77])
  (.cond (.tmp 78)
  (.seq (.region [
    ⟨(some 6), none, .val (.mv (.const (.bool false)))⟩] [])
  .ret)
  .skip))))
  (.region [
    ⟨(some 79), none, .val (.bin .add T.int (.tmp 70) (.const (.int 1)))⟩,
    ⟨(some 70), none, .val (.mv (.tmp 79))⟩] [79]))))))))))))
  (.region [
    ⟨(some 80), none, .val (.bin .add T.int (.tmp 37) (.const (.int 1)))⟩,
    ⟨(some 37), none, .val (.mv (.tmp 80))⟩] [80])))))))
  (.seq (.seq (.region [
    ⟨(some 81), none, .val (.mv (.tmp 0))⟩,
    ⟨(some 82), none, .val (.len (.tmp 81))⟩,
    ⟨(some 83), none, .val (.mv (.const (.int 0)))⟩] [])
  (.block 6 (.loop (.seq (.region [
    ⟨(some 84), none, .val (.bin .lss T.int (.tmp 83) (.tmp 82))⟩] [])
  (.seq (.cond (.tmp 84)
  .skip
  (.exit 6))
  (.seq (.block 7 (.seq (.region [
    ⟨(some 85), none, .val (.indexAddr 9 (.tmp 81) (.tmp 83))⟩,
    ⟨(some 86), none, .val (.load 9 true (.tmp 85))⟩,
    ⟨(some 14), none, .alloc T.apiEvent [(.int 0), (.int 0), (.int 0), (.int 0), (.int 0), (.int 0), (.int 0), (.int 0), (.int 0)]⟩,
    ⟨none, none, .store 9 (.tmp 14) (.tmp 86)⟩] [85, 86])
  (.seq (.seq (.region [
    ⟨(some 87), none, .val (.load 9 true (.tmp 14))⟩,
    ⟨(some 88), none, .val (.mv (.tmp 1))⟩,
    ⟨(some 89), none, .val (.mv (.tmp 2))⟩,
    ⟨(some 90), none, .call (.const (.func (.func F.podiumref49_Counts) [] [])) [(.tmp 87), (.tmp 88), (.tmp 89)]⟩,
    ⟨(some 91), none, .val (.un .not (.tmp 90))⟩] [87, 88, 89, 90])
  (.cond (.tmp 91)
  (.exit 7)
  .skip))
  (.seq (.region [
    ⟨(some 15), none, .val (.mv (.const (.bool false)))⟩] [])
  (.seq (.seq (.region [
    ⟨(some 92), none, .val (.mv (.tmp 7))⟩,
    ⟨(some 93), none, .val (.len (.tmp 92))⟩,
    ⟨(some 94), none, .val (.mv (.const (.int 0)))⟩] [])
  (.block 8 (.loop (.seq (.region [
    ⟨(some 95), none, .val (.bin .lss T.int (.tmp 94) (.tmp 93))⟩] [])
  (.seq (.cond (.tmp 95)
  .skip
  (.exit 8))
  (.seq (.block 9 (.seq (.region [
    ⟨(some 96), none, .val (.indexAddr 9 (.tmp 92) (.tmp 94))⟩,
    ⟨(some 97), none, .val (.load 9 true (.tmp 96))⟩,
    ⟨(some 17), none, .alloc T.apiEvent [(.int 0), (.int 0), (.int 0), (.int 0), (.int 0), (.int 0), (.int 0), (.int 0), (.int 0)]⟩,
    ⟨none, none, .store 9 (.tmp 17) (.tmp 97)⟩] [96, 97])
  (.region [
    ⟨(some 98), none, .val (.mv (.tmp 15))⟩,
    ⟨(some 99), none, .val (.mv (.tmp 98))⟩,
    ⟨(some 100), (some (99, false)), .val (.load 9 true (.tmp 14))⟩,
    ⟨(some 101), (some (99, false)), .val (.load 9 true (.tmp 17))⟩,
    ⟨(some 102), (some (99, false)), .call (.const (.func (.func F.podiumref49_Slot) [] [])) [(.tmp 100), (.tmp 101)]⟩,
    ⟨(some 103), (some (99, false)), .val (.mv (.tmp 102))⟩,
    ⟨(some 104), (some (103, true)), .val (.load 9 true (.tmp 14))⟩,
    ⟨(some 105), (some (103, true)), .val (.load 9 true (.tmp 17))⟩,
    ⟨(some 106), (some (103, true)), .call (.const (.func (.func F.podiumref49_Later) [] [])) [(.tmp 104), (.tmp 105)]⟩,
    ⟨(some 107), (some (103, true)), .val (.un .not (.tmp 106))⟩,
    ⟨(some 108), (some (99, false)), .val (.pick (.tmp 103) (.tmp 107) (.const (.bool false)))⟩,
    ⟨(some 109), none, .val (.pick (.tmp 99) (.const (.bool true)) (.tmp 108))⟩,
    ⟨(some 15), none, .val (.mv (.tmp 109))⟩] [98, 99, 100, 101, 102, 103, 104, 105, 106, 107, 108, 109])))
  (.region [
    ⟨(some 110), none, .val (.bin .add T.int (.tmp 94) (.const (.int 1)))⟩,
    ⟨(some 94), none, .val (.mv (.tmp 110))⟩] [110])))))))
  (.seq (.region [
    ⟨(some 111), none, .val (.mv (.tmp 15))⟩,
    ⟨(some 112), none, .val (.un .not (.tmp 111))⟩] [111])
  (.cond (.tmp 112)
  (.seq (.region [
    ⟨(some 6), none, .val (.mv (.const (.bool false)))⟩] [])
  .ret)
  .skip)))))))
  (.region [
    ⟨(some 113), none, .val (.bin .add T.int (.tmp 83) (.const (.int 1)))⟩,
    ⟨(some 83), none, .val (.mv (.tmp 113))⟩] [113])))))))
  (.seq (.region [
    ⟨(some 114), none, .val (.mv (.tmp 0))⟩,
    ⟨(some 115), none, .call (.const (.func (.func F.record_Check) [] [])) [(.tmp 114)]⟩,
    ⟨(some 116), none, .val (.bin .eql T.apiErrno (.tmp 115) (.const (.int 0)))⟩,
    ⟨(some 117), none, .val (.mv (.tmp 116))⟩,
    ⟨(some 118), (some (117, true)), .val (.mv (.tmp 7))⟩,
    ⟨(some 119), (some (117, true)), .call (.const (.func (.func F.record_Check) [] [])) [(.tmp 118)]⟩,
    ⟨(some 120), (some (117, true)), .val (.bin .eql T.apiErrno (.tmp 119) (.const (.int 0)))⟩,
    ⟨(some 121), none, .val (.pick (.tmp 117) (.tmp 120) (.const (.bool false)))⟩,
    ⟨(some 6), none, .val (.mv (.tmp 121))⟩] [114, 115, 116, 117, 118, 119, 120, 121])
  .ret)))))))))⟩
theorem H.podiumlaw49_RecordOne : Has P F.podiumlaw49_RecordOne C.podiumlaw49_RecordOne := ⟨Try.f5, Try.func5, by kernel_rfl, by kernel_rfl⟩

/-- podium/podiumlaw49.RecordOrder -/
noncomputable def C.podiumlaw49_RecordOrder : MFunc := ⟨104, 3, [.tmp 6],
  (.seq (.region [
    ⟨(some 4), none, .box T.apiEvent (.tmp 1)⟩,
    ⟨(some 5), none, .box T.apiEvent (.tmp 2)⟩,
    ⟨(some 6), none, .val (.mv (.const (.bool false)))⟩] [])
  (.seq (.seq (.region [
    ⟨(some 19), none, .call (.const (.func (.func F.podiumlaw49_sane) [] [])) []⟩,
    ⟨(some 20), none, .val (.un .not (.tmp 19))⟩] [19])
  (.cond (.tmp 20)
  (.seq (.region [
    ⟨(some 6), none, .val (.mv (.const (.bool false)))⟩] [])
  .ret)
  .skip))
  (.seq (.seq (.region [
    ⟨(some 21), none, .val (.mv (.tmp 0))⟩,
    ⟨(some 22), none, .val (.len (.tmp 21))⟩,
    ⟨(some 23), none, .val (.bin .gtr T.int (.tmp 22) (.const (.int 60)))⟩] [21, 22])
  (.cond (.tmp 23)
  (.seq (.region [
    ⟨(some 6), none, .val (.mv (.const (.bool true)))⟩] [])
  .ret)
  .skip))
  (.seq (.region [
    ⟨(some 25), none, .val (.mv (.tmp 0))⟩,
    ⟨(some 26), none, .val (.load 9 true (.tmp 4))⟩,
    ⟨(some 27), none, .call (.const (.func (.func F.record_Add) [] [])) [(.tmp 25), (.tmp 26)]⟩,
    ⟨(some 24), none, .val (.mv (.tmp 27))⟩,
    ⟨(some 28), none, .val (.extract 0 (.tmp 24))⟩,
    ⟨(some 29), none, .val (.extract 1 (.tmp 24))⟩,
    ⟨(some 7), none, .val (.mv (.tmp 28))⟩,
    ⟨(some 8), none, .val (.mv (.tmp 29))⟩] [25, 26, 27, 24, 28, 29])
  (.seq (.seq (.region [
    ⟨(some 30), none, .val (.mv (.tmp 8))⟩,
    ⟨(some 31), none, .val (.bin .neq T.apiErrno (.tmp 30) (.const (.int 0)))⟩] [30])
  (.cond (.tmp 31)
  (.seq (.region [
    ⟨(some 32), none, .val (.mv (.tmp 7))⟩,
    ⟨(some 33), none, .val (.len (.tmp 32))⟩,
    ⟨(some 34), none, .val (.bin .eql T.int (.tmp 33) (.const (.int 0)))⟩,
    ⟨(some 6), none, .val (.mv (.tmp 34))⟩] [32, 33, 34])
  .ret)
  .skip))
  (.seq (.region [
    ⟨(some 9), none, .val (.mv (.const (.int 0)))⟩] [])
  (.seq (.region [
    ⟨(some 10), none, .val (.mv (.const .nil))⟩] [])
  (.seq (.seq (.region [
    ⟨(some 35), none, .val (.mv (.tmp 7))⟩,
    ⟨(some 36), none, .val (.len (.tmp 35))⟩,
    ⟨(some 37), none, .val (.mv (.const (.int 0)))⟩] [])
  (.block 0 (.loop (.seq (.region [
    ⟨(some 38), none, .val (.bin .lss T.int (.tmp 37) (.tmp 36))⟩] [])
  (.seq (.cond (.tmp 38)
  .skip
  (.exit 0))
  (.seq (.block 1 (.seq (.region [
    ⟨(some 39), none, .val (.indexAddr 9 (.tmp 35) (.tmp 37))⟩,
    ⟨(some 40), none, .val (.load 9 true (.tmp 39))⟩,
    ⟨(some 12), none, .alloc T.apiEvent [(.int 0), (.int 0), (.int 0), (.int 0), (.int 0), (.int 0), (.int 0), (.int 0), (.int 0)]⟩,
    ⟨none, none, .store 9 (.tmp 12) (.tmp 40)⟩] [39, 40])
  (.seq (.region [
    ⟨(some 41), none, .val (.load 9 true (.tmp 12))⟩,
    ⟨(some 42), none, .val (.load 9 true (.tmp 4))⟩,
    ⟨(some 43), none, .val (.eqAgg false [.int, .int, .int, .int, .int, .int, .int, .int, .int] (.tmp 41) (.tmp 42))⟩] [41, 42])
  (.cond (.tmp 43)
  (.region [
    ⟨(some 44), none, .val (.mv (.tmp 9))⟩,
    ⟨(some 45), none, .val (.bin .add T.int (.tmp 44) (.const (.int 1)))⟩,
    ⟨(some 9), none, .val (.mv (.tmp 45))⟩] [44, 45])
  (.region [
    ⟨(some 46), none, .val (.mv (.tmp 10))⟩,
    ⟨(some 47), none, .val (.load 9 true (.tmp 12))⟩,
    ⟨(some 48), none, .val (.buildSlice T.apiEvent 1 [(.int 0), (.int 0), (.int 0), (.int 0), (.int 0), (.int 0), (.int 0), (.int 0), (.int 0)] [(0, 9, (.tmp 47))])⟩,
    ⟨(some 49), none, .append T.apiEvent 72 9 (.tmp 46) (.tmp 48)⟩,
    ⟨(some 10), none, .val (.mv (.tmp 49))⟩] [46, 47, 48, 49])))))
  (.region [
    ⟨(some 50), none, .val (.bin .add T.int (.tmp 37) (.const (.int 1)))⟩,
    ⟨(some 37), none, .val (.mv (.tmp 50))⟩] [50])))))))
  (.seq (.seq (.region [
    ⟨(some 51), none, .val (.mv (.tmp 9))⟩,
    ⟨(some 52), none, .val (.bin .neq T.int (.tmp 51) (.const (.int 1)))⟩,
    ⟨(some 53), none, .val (.mv (.tmp 52))⟩,
    ⟨(some 54), (some (53, false)), .val (.mv (.tmp 10))⟩,
    ⟨(some 55), (some (53, false)), .val (.mv (.tmp 0))⟩,
    ⟨(some 56), (some (53, false)), .call (.const (.func (.func F.podiumref49_Same) [] [])) [(.tmp 54), (.tmp 55)]⟩,
    ⟨(some 57), (some (53, false)), .val (.un .not (.tmp 56))⟩,
    ⟨(some 58), none, .val (.pick (.tmp 53) (.const (.bool true)) (.tmp 57))⟩,
    ⟨(some 59), none, .val (.mv (.tmp 58))⟩,
    ⟨(some 60), (some (59, false)), .val (.mv (.tmp 7))⟩,
    ⟨(some 61), (some (59, false)), .call (.const (.func (.func F.record_Check) [] [])) [(.tmp 60)]⟩,
    ⟨(some 62), (some (59, false)), .val (.bin .neq T.apiErrno (.tmp 61) (.const (.int 0)))⟩,
    ⟨(some 63), none, .val (.pick (.tmp 59) (.const (.bool true)) (.tmp 62))⟩] [51, 52, 53, 54, 55, 56, 57, 58, 59, 60, 61, 62])
  (.cond (.tmp 63)
  (.seq (.region [
    ⟨(some 6), none, .val (.mv (.const (.bool false)))⟩] [])
  .ret)
  .skip))
  (.seq (.region [
    ⟨(some 65), none, .val (.mv (.tmp 7))⟩,
    ⟨(some 66), none, .val (.load 9 true (.tmp 5))⟩,
    ⟨(some 67), none, .call (.const (.func (.func F.record_Add) [] [])) [(.tmp 65), (.tmp 66)]⟩,
    ⟨(some 64), none, .val (.mv (.tmp 67))⟩,
    ⟨(some 68), none, .val (.extract 0 (.tmp 64))⟩,
    ⟨(some 69), none, .val (.extract 1 (.tmp 64))⟩,
    ⟨(some 13), none, .val (.mv (.tmp 68))⟩,
    ⟨(some 14), none, .val (.mv (.tmp 69))⟩] [65, 66, 67, 64, 68, 69])
  (.seq (.region [
    ⟨(some 71), none, .val (.mv (.tmp 0))⟩,
    ⟨(some 72), none, .val (.load 9 true (.tmp 5))⟩,
    ⟨(some 73), none, .call (.const (.func (.func F.record_Add) [] [])) [(.tmp 71), (.tmp 72)]⟩,
    ⟨(some 70), none, .val (.mv (.tmp 73))⟩,
    ⟨(some 74), none, .val (.extract 0 (.tmp 70))⟩,
    ⟨(some 75), none, .val (.extract 1 (.tmp 70))⟩,
    ⟨(some 15), none, .val (.mv (.tmp 74))⟩,
    ⟨(some 16), none, .val (.mv (.tmp 75))⟩] [71, 72, 73, 70, 74, 75])
  (.seq (.seq (.region [
    ⟨(some 76), none, .val (.mv (.tmp 14))⟩,
    ⟨(some 77), none, .val (.bin .neq T.apiErrno (.tmp 76) (.const (.int 0)))⟩] [76])
  (.cond (.tmp 77)
  (.seq (.region [
    ⟨(some 78), none, .val (.mv (.tmp 16))⟩,
    ⟨(some 79), none, .val (.bin .neq T.apiErrno (.tmp 78) (.const (.int 0)))⟩,
    ⟨(some 80), none, .val (.mv (.tmp 79))⟩,
    ⟨(some 81), (some (80, false)), .val (.fieldAddr 0 (.tmp 4))⟩,
    ⟨(some 82), (some (80, false)), .val (.load 1 false (.tmp 81))⟩,
    ⟨(some 83), (some (80, false)), .val (.fieldAddr 0 (.tmp 5))⟩,
    ⟨(some 84), (some (80, false)), .val (.load 1 false (.tmp 83))⟩,
    ⟨(some 85), (some (80, false)), .val (.bin .eql T.int (.tmp 82) (.tmp 84))⟩,
    ⟨(some 86), none, .val (.pick (.tmp 80) (.const (.bool true)) (.tmp 85))⟩,
    ⟨(some 6), none, .val (.mv (.tmp 86))⟩] [78, 79, 80, 81, 82, 83, 84, 85, 86])
  .ret)
  .skip))
  (.seq (.region [
    ⟨(some 88), none, .val (.mv (.tmp 15))⟩,
    ⟨(some 89), none, .val (.load 9 true (.tmp 4))⟩,
    ⟨(some 90), none, .call (.const (.func (.func F.record_Add) [] [])) [(.tmp 88), (.tmp 89)]⟩,
    ⟨(some 87), none, .val (.mv (.tmp 90))⟩,
    ⟨(some 91), none, .val (.extract 0 (.tmp 87))⟩,
    ⟨(some 92), none, .val (.extract 1 (.tmp 87))⟩,
    ⟨(some 17), none, .val (.mv (.tmp 91))⟩,
    ⟨(some 18), none, .val (.mv (.tmp 92))⟩] [88, 89, 90, 87, 91, 92])
  (.seq (.region [
    ⟨(some 93), none, .val (.mv (.tmp 16))⟩,
    ⟨(some 94), none, .val (.bin .eql T.apiErrno (.tmp 93) (.const (.int 0)))⟩,
    ⟨(some 95), none, .val (.mv (.tmp 94))⟩,
    ⟨(some 96), (some (95, true)), .val (.mv (.tmp 18))⟩,
    ⟨(some 97), (some (95, true)), .val (.bin .eql T.apiErrno (.tmp 96) (.const (.int 0)))⟩,
    ⟨(some 98), none, .val (.pick (.tmp 95) (.tmp 97) (.const (.bool false)))⟩,
    ⟨(some 99), none, .val (.mv (.tmp 98))⟩,
    ⟨(some 100), (some (99, true)), .val (.mv (.tmp 13))⟩,
    ⟨(some 101), (some (99, true)), .val (.mv (.tmp 17))⟩,
    ⟨(some 102), (some (99, true)), .call (.const (.func (.func F.podiumref49_Same) [] [])) [(.tmp 100), (.tmp 101)]⟩,
    ⟨(some 103), none, .val (.pick (.tmp 99) (.tmp 102) (.const (.bool false)))⟩,
    ⟨(some 6), none, .val (.mv (.tmp 103))⟩] [93, 94, 95, 96, 97, 98, 99, 100, 101, 102, 103])
  .ret))))))))))))))⟩
theorem H.podiumlaw49_RecordOrder : Has P F.podiumlaw49_RecordOrder C.podiumlaw49_RecordOrder := ⟨Try.f6, Try.func6, by kernel_rfl, by kernel_rfl⟩

/-- podium/podiumlaw49.RecordLater -/
noncomputable def C.podiumlaw49_RecordLater : MFunc := ⟨91, 3, [.tmp 6],
  (.seq (.region [
    ⟨(some 6), none, .val (.mv (.const (.bool false)))⟩] [])
  (.seq (.seq (.region [
    ⟨(some 18), none, .call (.const (.func (.func F.podiumlaw49_sane) [] [])) []⟩,
    ⟨(some 19), none, .val (.un .not (.tmp 18))⟩] [18])
  (.cond (.tmp 19)
  (.seq (.region [
    ⟨(some 6), none, .val (.mv (.const (.bool false)))⟩] [])
  .ret)
  .skip))
  (.seq (.seq (.region [
    ⟨(some 20), none, .val (.mv (.tmp 0))⟩,
    ⟨(some 21), none, .val (.len (.tmp 20))⟩,
    ⟨(some 22), none, .val (.bin .gtr T.int (.tmp 21) (.const (.int 60)))⟩] [20, 21])
  (.cond (.tmp 22)
  (.seq (.region [
    ⟨(some 6), none, .val (.mv (.const (.bool true)))⟩] [])
  .ret)
  .skip))
  (.seq (.region [
    ⟨(some 24), none, .val (.mv (.tmp 0))⟩,
    ⟨(some 25), none, .val (.mv (.tmp 1))⟩,
    ⟨(some 26), none, .val (.mv (.tmp 2))⟩,
    ⟨(some 27), none, .call (.const (.func (.func F.record_Standing) [] [])) [(.tmp 24), (.tmp 25), (.tmp 26)]⟩,
    ⟨(some 23), none, .val (.mv (.tmp 27))⟩,
    ⟨(some 28), none, .val (.extract 0 (.tmp 23))⟩,
    ⟨(some 29), none, .val (.extract 1 (.tmp 23))⟩,
    ⟨(some 7), none, .val (.mv (.tmp 28))⟩,
    ⟨(some 8), none, .val (.mv (.tmp 29))⟩] [24, 25, 26, 27, 23, 28, 29])
  (.seq (.seq (.region [
    ⟨(some 30), none, .val (.mv (.tmp 8))⟩,
    ⟨(some 31), none, .val (.bin .neq T.apiErrno (.tmp 30) (.const (.int 0)))⟩] [30])
  (.cond (.tmp 31)
  (.seq (.region [
    ⟨(some 6), none, .val (.mv (.const (.bool true)))⟩] [])
  .ret)
  .skip))
  (.seq (.region [
    ⟨(some 9), none, .val (.mv (.const .nil))⟩] [])
  (.seq (.seq (.region [
    ⟨(some 32), none, .val (.mv (.tmp 0))⟩,
    ⟨(some 33), none, .val (.len (.tmp 32))⟩,
    ⟨(some 34), none, .val (.mv (.const (.int 0)))⟩] [])
  (.block 0 (.loop (.seq (.region [
    ⟨(some 35), none, .val (.bin .lss T.int (.tmp 34) (.tmp 33))⟩] [])
  (.seq (.cond (.tmp 35)
  .skip
  (.exit 0))
  (.seq (.block 1 (.seq (.region [
    ⟨(some 36), none, .val (.indexAddr 9 (.tmp 32) (.tmp 34))⟩,
    ⟨(some 37), none, .val (.load 9 true (.tmp 36))⟩,
    ⟨(some 11), none, .alloc T.apiEvent [(.int 0), (.int 0), (.int 0), (.int 0), (.int 0), (.int 0), (.int 0), (.int 0), (.int 0)]⟩,
    ⟨none, none, .store 9 (.tmp 11) (.tmp 37)⟩] [36, 37])
  (.seq (.region [
    ⟨(some 38), none, .val (.load 9 true (.tmp 11))⟩,
    ⟨(some 39), none, .val (.mv (.tmp 1))⟩,
    ⟨(some 40), none, .val (.mv (.tmp 2))⟩,
    ⟨(some 41), none, .call (.const (.func (.func F.podiumref49_Counts) [] [])) [(.tmp 38), (.tmp 39), (.tmp 40)]⟩] [38, 39, 40])
  (.cond (.tmp 41)
  (.region [
    ⟨(some 42), none, .val (.mv (.tmp 9))⟩,
    ⟨(some 43), none, .val (.load 9 true (.tmp 11))⟩,
    ⟨(some 44), none, .val (.buildSlice T.apiEvent 1 [(.int 0), (.int 0), (.int 0), (.int 0), (.int 0), (.int 0), (.int 0), (.int 0), (.int 0)] [(0, 9, (.tmp 43))])⟩,
    ⟨(some 45), none, .append T.apiEvent 72 9 (.tmp 42) (.tmp 44)⟩,
    ⟨(some 9), none, .val (.mv (.tmp 45))⟩] [42, 43, 44, 45])
  .skip))))
  (.region [
    ⟨(some 46), none, .val (.bin .add T.int (.tmp 34) (.const (.int 1)))⟩,
    ⟨(some 34), none, .val (.mv (.tmp 46))⟩] [46])))))))
  (.seq (.region [
    ⟨(some 48), none, .val (.mv (.tmp 9))⟩,
    ⟨(some 49), none, .val (.mv (.tmp 1))⟩,
    ⟨(some 50), none, .val (.mv (.tmp 2))⟩,
    ⟨(some 51), none, .call (.const (.func (.func F.record_Standing) [] [])) [(.tmp 48), (.tmp 49), (.tmp 50)]⟩,
    ⟨(some 47), none, .val (.mv (.tmp 51))⟩,
    ⟨(some 52), none, .val (.extract 0 (.tmp 47))⟩,
    ⟨(some 53), none, .val (.extract 1 (.tmp 47))⟩,
    ⟨(some 12), none, .val (.mv (.tmp 52))⟩,
    ⟨(some 13), none, .val (.mv (.tmp 53))⟩] [48, 49, 50, 51, 47, 52, 53])
  (.seq (.region [
    ⟨(some 55), none, .val (.mv (.tmp 7))⟩,
    ⟨(some 56), none, .val (.mv (.tmp 1))⟩,
    ⟨(some 57), none, .val (.mv (.tmp 2))⟩,
    ⟨(some 58), none, .call (.const (.func (.func F.record_Standing) [] [])) [(.tmp 55), (.tmp 56), (.tmp 57)]⟩,
    ⟨(some 54), none, .val (.mv (.tmp 58))⟩,
    ⟨(some 59), none, .val (.extract 0 (.tmp 54))⟩,
    ⟨(some 60), none, .val (.extract 1 (.tmp 54))⟩,
    ⟨(some 14), none, .val (.mv (.tmp 59))⟩,
    ⟨(some 15), none, .val (.mv (.tmp 60))⟩] [55, 56, 57, 58, 54, 59, 60])
  (.seq (.region [
    ⟨(some 62), none, .val (.mv (.tmp 9))⟩,
    ⟨(some 63), none, .call (.const (.func (.func F.record_Standing) [] [])) [(.tmp 62), (.const (.int 2097151)), (.const (.int 2097151))]⟩,
    ⟨(some 61), none, .val (.mv (.tmp 63))⟩,
    ⟨(some 64), none, .val (.extract 0 (.tmp 61))⟩,
    ⟨(some 65), none, .val (.extract 1 (.tmp 61))⟩,
    ⟨(some 16), none, .val (.mv (.tmp 64))⟩,
    ⟨(some 17), none, .val (.mv (.tmp 65))⟩] [62, 63, 61, 64, 65])
  (.seq (.region [
    ⟨(some 66), none, .val (.mv (.tmp 13))⟩,
    ⟨(some 67), none, .val (.bin .eql T.apiErrno (.tmp 66) (.const (.int 0)))⟩,
    ⟨(some 68), none, .val (.mv (.tmp 67))⟩,
    ⟨(some 69), (some (68, true)), .val (.mv (.tmp 15))⟩,
    ⟨(some 70), (some (68, true)), .val (.bin .eql T.apiErrno (.tmp 69) (.const (.int 0)))⟩,
    ⟨(some 71), none, .val (.pick (.tmp 68) (.tmp 70) (.const (.bool false)))⟩,
    ⟨(some 72), none, .val (.mv (.tmp 71))⟩,
    ⟨(some 73), (some (72, true)), .val (.mv (.tmp 17))⟩,
    ⟨(some 74), (some (72, true)), .val (.bin .eql T.apiErrno (.tmp 73) (.const (.int 0)))⟩,
    ⟨(some 75), none, .val (.pick (.tmp 72) (.tmp 74) (.const (.bool false)))⟩,
    ⟨(some 76), none, .val (.mv (.tmp 75))⟩,
    ⟨(some 77), (some (76, true)), .val (.mv (.tmp 12))⟩,
    ⟨(some 78), (some (76, true)), .val (.mv (.tmp 7))⟩,
    ⟨(some 79), (some (76, true)), .call (.const (.func (.func F.podiumref49_Same) [] [])) [(.tmp 77), (.tmp 78)]⟩,
    ⟨(some 80), none, .val (.pick (.tmp 76) (.tmp 79) (.const (.bool false)))⟩,
    ⟨(some 81), none, .val (.mv (.tmp 80))⟩,
    ⟨(some 82), (some (81, true)), .val (.mv (.tmp 14))⟩,
    ⟨(some 83), (some (81, true)), .val (.mv (.tmp 7))⟩,
    ⟨(some 84), (some (81, true)), .call (.const (.func (.func F.podiumref49_Same) [] [])) [(.tmp 82), (.tmp 83)]⟩,
    ⟨(some 85), none, .val (.pick (.tmp 81) (.tmp 84) (.const (.bool false)))⟩,
    ⟨(some 86), none, .val (.mv (.tmp 85))⟩,
    ⟨(some 87), (some (86, true)), .val (.mv (.tmp 16))⟩,
    ⟨(some 88), (some (86, true)), .val (.mv (.tmp 7))⟩,
    ⟨(some 89), (some (86, true)), .call (.const (.func (.func F.podiumref49_Same) [] [])) [(.tmp 87), (.tmp 88)]⟩,
    ⟨(some 90), none, .val (.pick (.tmp 86) (.tmp 89) (.const (.bool false)))⟩,
    ⟨(some 6), none, .val (.mv (.tmp 90))⟩] [66, 67, 68, 69, 70, 71, 72, 73, 74, 75, 76, 77, 78, 79, 80, 81, 82, 83, 84, 85, 86, 87, 88, 89, 90])
  .ret)))))))))))⟩
theorem H.podiumlaw49_RecordLater : Has P F.podiumlaw49_RecordLater C.podiumlaw49_RecordLater := ⟨Try.f7, Try.func7, by kernel_rfl, by kernel_rfl⟩

/-- podium/podiumlaw49.RecordSlots -/
noncomputable def C.podiumlaw49_RecordSlots : MFunc := ⟨122, 4, [.tmp 8],
  (.seq (.region [
    ⟨(some 5), none, .box T.apiEvent (.tmp 1)⟩,
    ⟨(some 8), none, .val (.mv (.const (.bool false)))⟩] [])
  (.seq (.seq (.region [
    ⟨(some 24), none, .call (.const (.func (.func F.podiumlaw49_sane) [] [])) []⟩,
    ⟨(some 25), none, .val (.un .not (.tmp 24))⟩] [24])
  (.cond (.tmp 25)
  (.seq (.region [
    ⟨(some 8), none, .val (.mv (.const (.bool false)))⟩] [])
  .ret)
  .skip))
  (.seq (.seq (.region [
    ⟨(some 26), none, .val (.mv (.tmp 0))⟩,
    ⟨(some 27), none, .val (.len (.tmp 26))⟩,
    ⟨(some 28), none, .val (.bin .gtr T.int (.tmp 27) (.const (.int 60)))⟩] [26, 27])
  (.cond (.tmp 28)
  (.seq (.region [
    ⟨(some 8), none, .val (.mv (.const (.bool true)))⟩] [])
  .ret)
  .skip))
  (.seq (.region [
    ⟨(some 30), none, .val (.mv (.tmp 0))⟩,
    ⟨(some 31), none, .val (.load 9 true (.tmp 5))⟩,
    ⟨(some 32), none, .call (.const (.func (.func F.record_Add) [] [])) [(.tmp 30), (.tmp 31)]⟩,
    ⟨(some 29), none, .val (.mv (.tmp 32))⟩,
    ⟨(some 33), none, .val (.extract 0 (.tmp 29))⟩,
    ⟨(some 34), none, .val (.extract 1 (.tmp 29))⟩,
    ⟨(some 9), none, .val (.mv (.tmp 33))⟩,
    ⟨(some 10), none, .val (.mv (.tmp 34))⟩] [30, 31, 32, 29, 33, 34])
  (.seq (.region [
    ⟨(some 36), none, .val (.mv (.tmp 0))⟩,
    ⟨(some 37), none, .val (.mv (.tmp 2))⟩,
    ⟨(some 38), none, .val (.mv (.tmp 3))⟩,
    ⟨(some 39), none, .call (.const (.func (.func F.record_Standing) [] [])) [(.tmp 36), (.tmp 37), (.tmp 38)]⟩,
    ⟨(some 35), none, .val (.mv (.tmp 39))⟩,
    ⟨(some 40), none, .val (.extract 0 (.tmp 35))⟩,
    ⟨(some 41), none, .val (.extract 1 (.tmp 35))⟩,
    ⟨(some 11), none, .val (.mv (.tmp 40))⟩,
    ⟨(some 12), none, .val (.mv (.tmp 41))⟩] [36, 37, 38, 39, 35, 40, 41])
  (.seq (.region [
    ⟨(some 43), none, .val (.mv (.tmp 9))⟩,
    ⟨(some 44), none, .val (.mv (.tmp 2))⟩,
    ⟨(some 45), none, .val (.mv (.tmp 3))⟩,
    ⟨(some 46), none, .call (.const (.func (.func F.record_Standing) [] [])) [(.tmp 43), (.tmp 44), (.tmp 45)]⟩,
    ⟨(some 42), none, .val (.mv (.tmp 46))⟩,
    ⟨(some 47), none, .val (.extract 0 (.tmp 42))⟩,
    ⟨(some 48), none, .val (.extract 1 (.tmp 42))⟩,
    ⟨(some 13), none, .val (.mv (.tmp 47))⟩,
    ⟨(some 14), none, .val (.mv (.tmp 48))⟩] [43, 44, 45, 46, 42, 47, 48])
  (.seq (.seq (.region [
    ⟨(some 49), none, .val (.mv (.tmp 10))⟩,
    ⟨(some 50), none, .val (.bin .neq T.apiErrno (.tmp 49) (.const (.int 0)))⟩,
    ⟨(some 51), none, .val (.mv (.tmp 50))⟩,
    ⟨(some 52), (some (51, false)), .val (.mv (.tmp 12))⟩,
    ⟨(some 53), (some (51, false)), .val (.bin .neq T.apiErrno (.tmp 52) (.const (.int 0)))⟩,
    ⟨(some 54), none, .val (.pick (.tmp 51) (.const (.bool true)) (.tmp 53))⟩] [49, 50, 51, 52, 53])
  (.cond (.tmp 54)
  (.seq (.region [
    ⟨(some 8), none, .val (.mv (.const (.bool true)))⟩] [])
  .ret)
  .skip))
  (.seq (.region [
    ⟨(some 15), none, .val (.mv (.const .nil))⟩,
    ⟨(some 16), none, .val (.mv (.const .nil))⟩] [])
  (.seq (.region [
    ⟨(some 17), none, .val (.mv (.const (.int 0)))⟩,
    ⟨(some 18), none, .val (.mv (.const (.int 0)))⟩] [])
  (.seq (.region [
    ⟨(some 19), none, .val (.mv (.const (.bool false)))⟩] [])
  (.seq (.seq (.region [
    ⟨(some 55), none, .val (.mv (.tmp 11))⟩,
    ⟨(some 56), none, .val (.len (.tmp 55))⟩,
    ⟨(some 57), none, .val (.mv (.const (.int 0)))⟩] [])
  (.block 0 (.loop (.seq (.region [
    ⟨(some 58), none, .val (.bin .lss T.int (.tmp 57) (.tmp 56))⟩] [])
  (.seq (.cond (.tmp 58)
  .skip
  (.exit 0))
  (.seq (.block 1 (.seq (.region [
    ⟨(some 59), none, .val (.indexAddr 9 (.tmp 55) (.tmp 57))⟩,
    ⟨(some 60), none, .val (.load 9 true (.tmp 59))⟩,
    ⟨(some 21), none, .alloc T.apiEvent [(.int 0), (.int 0), (.int 0), (.int 0), (.int 0), (.int 0), (.int 0), (.int 0), (.int 0)]⟩,
    ⟨none, none, .store 9 (.tmp 21) (.tmp 60)⟩] [59, 60])
  (.seq (.region [
    ⟨(some 61), none, .val (.load 9 true (.tmp 21))⟩,
    ⟨(some 62), none, .val (.load 9 true (.tmp 5))⟩,
    ⟨(some 63), none, .call (.const (.func (.func F.podiumref49_Slot) [] [])) [(.tmp 61), (.tmp 62)]⟩] [61, 62])
  (.cond (.tmp 63)
  (.seq (.region [
    ⟨(some 64), none, .val (.mv (.tmp 18))⟩,
    ⟨(some 65), none, .val (.bin .add T.int (.tmp 64) (.const (.int 1)))⟩,
    ⟨(some 18), none, .val (.mv (.tmp 65))⟩] [64, 65])
  (.region [
    ⟨(some 66), none, .val (.mv (.tmp 19))⟩,
    ⟨(some 67), none, .val (.mv (.tmp 66))⟩,
    ⟨(some 68), (some (67, false)), .val (.load 9 true (.tmp 21))⟩,
    ⟨(some 69), (some (67, false)), .val (.load 9 true (.tmp 5))⟩,
    ⟨(some 70), (some (67, false)), .call (.const (.func (.func F.podiumref49_Later) [] [])) [(.tmp 68), (.tmp 69)]⟩,
    ⟨(some 71), none, .val (.pick (.tmp 67) (.const (.bool true)) (.tmp 70))⟩,
    ⟨(some 19), none, .val (.mv (.tmp 71))⟩] [66, 67, 68, 69, 70, 71]))
  (.region [
    ⟨(some 72), none, .val (.mv (.tmp 15))⟩,
    ⟨(some 73), none, .val (.load 9 true (.tmp 21))⟩,
    ⟨(some 74), none, .val (.buildSlice T.apiEvent 1 [(.int 0), (.int 0), (.int 0), (.int 0), (.int 0), (.int 0), (.int 0), (.int 0), (.int 0)] [(0, 9, (.tmp 73))])⟩,
    ⟨(some 75), none, .append T.apiEvent 72 9 (.tmp 72) (.tmp 74)⟩,
    ⟨(some 15), none, .val (.mv (.tmp 75))⟩] [72, 73, 74, 75])))))
  (.region [
    ⟨(some 76), none, .val (.bin .add T.int (.tmp 57) (.const (.int 1)))⟩,
    ⟨(some 57), none, .val (.mv (.tmp 76))⟩] [76])))))))
  (.seq (.seq (.region [
    ⟨(some 77), none, .val (.mv (.tmp 13))⟩,
    ⟨(some 78), none, .val (.len (.tmp 77))⟩,
    ⟨(some 79), none, .val (.mv (.const (.int 0)))⟩] [])
  (.block 2 (.loop (.seq (.region [
    ⟨(some 80), none, .val (.bin .lss T.int (.tmp 79) (.tmp 78))⟩] [])
  (.seq (.cond (.tmp 80)
  .skip
  (.exit 2))
  (.seq (.block 3 (.seq (.region [
    ⟨(some 81), none, .val (.indexAddr 9 (.tmp 77) (.tmp 79))⟩,
    ⟨(some 82), none, .val (.load 9 true (.tmp 81))⟩,
    ⟨(some 23), none, .alloc T.apiEvent [(.int 0), (.int 0), (.int 0), (.int 0), (.int 0), (.int 0), (.int 0), (.int 0), (.int 0)]⟩,
    ⟨none, none, .store 9 (.tmp 23) (.tmp 82)⟩] [81, 82])
  (.seq (.region [
    ⟨(some 83), none, .val (.load 9 true (.tmp 23))⟩,
    ⟨(some 84), none, .val (.load 9 true (.tmp 5))⟩,
    ⟨(some 85), none, .call (.const (.func (.func F.podiumref49_Slot) [] [])) [(.tmp 83), (.tmp 84)]⟩] [83, 84])
  (.cond (.tmp 85)
  (.seq (.region [
    ⟨(some 86), none, .val (.mv (.tmp 17))⟩,
    ⟨(some 87), none, .val (.bin .add T.int (.tmp 86) (.const (.int 1)))⟩,
    ⟨(some 17), none, .val (.mv (.tmp 87))⟩] [86, 87])
  (.seq (.draw true [
    (.late, ⟨(some 88), none, .val (.load 9 true (.tmp 23))⟩),
    (.late, ⟨(some 89), none, .val (.load 9 true (.tmp 5))⟩),
    (.late, ⟨(some 90), none, .val (.eqAgg false [.int, .int, .int, .int, .int, .int, .int, .int, .int] (.tmp 88) (.tmp 89))⟩),
    (.early, ⟨(some 91), none, .val (.mv (.tmp 19))⟩),
    (.early, ⟨(some 92), none, .val (.mv (.tmp 91))⟩),
    (.early, ⟨(some 93), (some (92, false)), .val (.load 9 true (.tmp 5))⟩),
    (.early, ⟨(some 94), (some (92, false)), .val (.mv (.tmp 2))⟩),
    (.early, ⟨(some 95), (some (92, false)), .val (.mv (.tmp 3))⟩),
    (.hard, ⟨(some 96), (some (92, false)), .call (.const (.func (.func F.podiumref49_Counts) [] [])) [(.tmp 93), (.tmp 94), (.tmp 95)]⟩),
    (.late, ⟨(some 97), (some (92, false)), .val (.un .not (.tmp 96))⟩),
    (.late, ⟨(some 98), none, .val (.pick (.tmp 92) (.const (.bool true)) (.tmp 97))⟩),
    (.late, ⟨(some 99), none, .val (.eqBool false (.tmp 90) (.tmp 98))⟩)] [88, 89, 90, 91, 92, 93, 94, 95, 96, 97, 98])
  (.cond (.tmp 99)
  (.seq (.region [
    ⟨(some 8), none, .val (.mv (.const (.bool false)))⟩] [])
  .ret)
  .skip)))
  (.region [
    ⟨(some 100), none, .val (.mv (.tmp 16))⟩,
    ⟨(some 101), none, .val (.load 9 true (.tmp 23))⟩,
    ⟨(some 102), none, .val (.buildSlice T.apiEvent 1 [(.int 0), (.int 0), (.int 0), (.int 0), (.int 0), (.int 0), (.int 0), (.int 0), (.int 0)] [(0, 9, (.tmp 101))])⟩,
    ⟨(some 103), none, .append T.apiEvent 72 9 (.tmp 100) (.tmp 102)⟩,
    ⟨(some 16), none, .val (.mv (.tmp 103))⟩] [100, 101, 102, 103])))))
  (.region [
    ⟨(some 104), none, .val (.bin .add T.int (.tmp 79) (.const (.int 1)))⟩,
    ⟨(some 79), none, .val (.mv (.tmp 104))⟩] [104])))))))
  (.seq (.seq (.region [
    ⟨(some 105), none, .val (.mv (.tmp 14))⟩,
    ⟨(some 106), none, .val (.bin .neq T.apiErrno (.tmp 105) (.const (.int 0)))⟩,
    ⟨(some 107), none, .val (.mv (.tmp 106))⟩,
    ⟨(some 108), (some (107, false)), .val (.mv (.tmp 15))⟩,
    ⟨(some 109), (some (107, false)), .val (.mv (.tmp 16))⟩,
    ⟨(some 110), (some (107, false)), .call (.const (.func (.func F.podiumref49_Same) [] [])) [(.tmp 108), (.tmp 109)]⟩,
    ⟨(some 111), (some (107, false)), .val (.un .not (.tmp 110))⟩,
    ⟨(some 112), none, .val (.pick (.tmp 107) (.const (.bool true)) (.tmp 111))⟩] [105, 106, 107, 108, 109, 110, 111])
  (.cond (.tmp 112)
  (.seq (.region [
    ⟨(some 8), none, .val (.mv (.const (.bool false)))⟩] [])
  .ret)
  .skip))
  (.seq (.seq (.region [
    ⟨(some 113), none, .val (.load 9 true (.tmp 5))⟩,
    ⟨(some 114), none, .val (.mv (.tmp 2))⟩,
    ⟨(some 115), none, .val (.mv (.tmp 3))⟩,
    ⟨(some 116), none, .call (.const (.func (.func F.podiumref49_Counts) [] [])) [(.tmp 113), (.tmp 114), (.tmp 115)]⟩] [113, 114, 115])
  (.cond (.tmp 116)
  (.seq (.region [
    ⟨(some 117), none, .val (.mv (.tmp 17))⟩,
    ⟨(some 118), none, .val (.bin .eql T.int (.tmp 117) (.const (.int 1)))⟩,
    ⟨(some 8), none, .val (.mv (.tmp 118))⟩] [117, 118])
  .ret)
  .skip))
  (.seq (.region [
    ⟨(some 119), none, .val (.mv (.tmp 17))⟩,
    ⟨(some 120), none, .val (.mv (.tmp 18))⟩,
    ⟨(some 121), none, .val (.bin .eql T.int (.tmp 119) (.tmp 120))⟩,
    ⟨(some 8), none, .val (.mv (.tmp 121))⟩] [119, 120, 121])
  .ret)))))))))))))))⟩
theorem H.podiumlaw49_RecordSlots : Has P F.podiumlaw49_RecordSlots C.podiumlaw49_RecordSlots := ⟨Try.f8, Try.func8, by kernel_rfl, by kernel_rfl⟩

/-- podium/podiumlaw49.sane -/
noncomputable def C.podiumlaw49_sane : MFunc := ⟨139, 0, [.tmp 0],
  (.seq (.region [
    ⟨(some 0), none, .val (.mv (.const (.bool false)))⟩] [])
  (.seq (.region [
    ⟨(some 19), none, .call (.const (.func (.func F.podiumlaw49_mark) [] [])) [(.const (.int 1)), (.const (.int 5)), (.const (.int 3)), (.const (.int 3))]⟩,
    ⟨(some 20), none, .call (.const (.func (.func F.podiumlaw49_mark) [] [])) [(.const (.int 4)), (.const (.int 7)), (.const (.int 4)), (.const (.int 9))]⟩,
    ⟨(some 1), none, .alloc T.apiEvent [(.int 0), (.int 0), (.int 0), (.int 0), (.int 0), (.int 0), (.int 0), (.int 0), (.int 0)]⟩,
    ⟨(some 2), none, .alloc T.apiEvent [(.int 0), (.int 0), (.int 0), (.int 0), (.int 0), (.int 0), (.int 0), (.int 0), (.int 0)]⟩,
    ⟨none, none, .store 9 (.tmp 1) (.tmp 19)⟩,
    ⟨none, none, .store 9 (.tmp 2) (.tmp 20)⟩] [19, 20])
  (.seq (.region [
    ⟨(some 21), none, .call (.const (.func (.func F.podiumlaw49_mark) [] [])) [(.const (.int 2)), (.const (.int 9)), (.const (.int 0)), (.const (.int 0))]⟩,
    ⟨(some 3), none, .alloc T.apiEvent [(.int 0), (.int 0), (.int 0), (.int 0), (.int 0), (.int 0), (.int 0), (.int 0), (.int 0)]⟩,
    ⟨none, none, .store 9 (.tmp 3) (.tmp 21)⟩] [21])
  (.seq (.region [
    ⟨(some 22), none, .val (.fieldAddr 4 (.tmp 3))⟩,
    ⟨none, none, .store 1 (.tmp 22) (.const (.int 3))⟩] [22])
  (.seq (.region [
    ⟨(some 23), none, .val (.load 9 true (.tmp 1))⟩,
    ⟨(some 24), none, .val (.load 9 true (.tmp 3))⟩,
    ⟨(some 25), none, .val (.load 9 true (.tmp 2))⟩,
    ⟨(some 26), none, .val (.buildSlice T.apiEvent 3 [(.int 0), (.int 0), (.int 0), (.int 0), (.int 0), (.int 0), (.int 0), (.int 0), (.int 0), (.int 0), (.int 0), (.int 0), (.int 0), (.int 0), (.int 0), (.int 0), (.int 0), (.int 0), (.int 0), (.int 0), (.int 0), (.int 0), (.int 0), (.int 0), (.int 0), (.int 0), (.int 0)] [(0, 9, (.tmp 23)), (9, 9, (.tmp 24)), (18, 9, (.tmp 25))])⟩,
    ⟨(some 4), none, .val (.mv (.tmp 26))⟩] [23, 24, 25, 26])
  (.seq (.seq (.region [
    ⟨(some 27), none, .val (.load 9 true (.tmp 1))⟩,
    ⟨(some 28), none, .val (.load 9 true (.tmp 3))⟩,
    ⟨(some 29), none, .val (.buildSlice T.apiEvent 2 [(.int 0), (.int 0), (.int 0), (.int 0), (.int 0), (.int 0), (.int 0), (.int 0), (.int 0), (.int 0), (.int 0), (.int 0), (.int 0), (.int 0), (.int 0), (.int 0), (.int 0), (.int 0)] [(0, 9, (.tmp 27)), (9, 9, (.tmp 28))])⟩,
    ⟨(some 30), none, .val (.build [(.int 0), (.int 0), .nil] [(0, 1, (.const (.int 6))), (1, 1, (.const (.int 8))), (2, 1, (.tmp 29))])⟩,
    ⟨(some 31), none, .val (.load 9 true (.tmp 3))⟩,
    ⟨(some 32), none, .val (.load 9 true (.tmp 2))⟩,
    ⟨(some 33), none, .val (.buildSlice T.apiEvent 2 [(.int 0), (.int 0), (.int 0), (.int 0), (.int 0), (.int 0), (.int 0), (.int 0), (.int 0), (.int 0), (.int 0), (.int 0), (.int 0), (.int 0), (.int 0), (.int 0), (.int 0), (.int 0)] [(0, 9, (.tmp 31)), (9, 9, (.tmp 32))])⟩,
    ⟨(some 34), none, .val (.build [(.int 0), (.int 0), .nil] [(0, 1, (.const (.int 6))), (1, 1, (.const (.int 9))), (2, 1, (.tmp 33))])⟩,
    ⟨(some 35), none, .val (.load 9 true (.tmp 1))⟩,
    ⟨(some 36), none, .val (.load 9 true (.tmp 3))⟩,
    ⟨(some 37), none, .val (.buildSlice T.apiEvent 2 [(.int 0), (.int 0), (.int 0), (.int 0), (.int 0), (.int 0), (.int 0), (.int 0), (.int 0), (.int 0), (.int 0), (.int 0), (.int 0), (.int 0), (.int 0), (.int 0), (.int 0), (.int 0)] [(0, 9, (.tmp 35)), (9, 9, (.tmp 36))])⟩,
    ⟨(some 38), none, .val (.build [(.int 0), (.int 0), .nil] [(0, 1, (.const (.int 3))), (1, 1, (.const (.int 9))), (2, 1, (.tmp 37))])⟩,
    ⟨(some 39), none, .val (.load 9 true (.tmp 3))⟩,
    ⟨(some 40), none, .val (.buildSlice T.apiEvent 1 [(.int 0), (.int 0), (.int 0), (.int 0), (.int 0), (.int 0), (.int 0), (.int 0), (.int 0)] [(0, 9, (.tmp 39))])⟩,
    ⟨(some 41), none, .val (.build [(.int 0), (.int 0), .nil] [(0, 1, (.const (.int 2))), (1, 1, (.const (.int 9))), (2, 1, (.tmp 40))])⟩,
    ⟨(some 42), none, .val (.buildSlice T.structdayinttimeintwantLapiEvent 4 [(.int 0), (.int 0), .nil, (.int 0), (.int 0), .nil, (.int 0), (.int 0), .nil, (.int 0), (.int 0), .nil] [(0, 3, (.tmp 30)), (3, 3, (.tmp 34)), (6, 3, (.tmp 38)), (9, 3, (.tmp 41))])⟩,
    ⟨(some 43), none, .val (.len (.tmp 42))⟩,
    ⟨(some 44), none, .val (.mv (.const (.int 0)))⟩] [27, 28, 29, 30, 31, 32, 33, 34, 35, 36, 37, 38, 39, 40, 41])
  (.block 0 (.loop (.seq (.region [
    ⟨(some 45), none, .val (.bin .lss T.int (.tmp 44) (.tmp 43))⟩] [])
  (.seq (.cond (.tmp 45)
  .skip
  (.exit 0))
  (.seq (.block 1 (.seq (.region [
    ⟨(some 46), none, .val (.indexAddr 3 (.tmp 42) (.tmp 44))⟩,
    ⟨(some 47), none, .val (.load 3 true (.tmp 46))⟩,
    ⟨(some 6), none, .alloc T.structdayinttimeintwantLapiEvent [(.int 0), (.int 0), .nil]⟩,
    ⟨none, none, .store 3 (.tmp 6) (.tmp 47)⟩] [46, 47])
  (.seq (.region [
    ⟨(some 49), none, .val (.mv (.tmp 4))⟩,
    ⟨(some 50), none, .val (.fieldAddr 0 (.tmp 6))⟩,
    ⟨(some 51), none, .val (.load 1 false (.tmp 50))⟩,
    ⟨(some 52), none, .val (.fieldAddr 1 (.tmp 6))⟩,
    ⟨(some 53), none, .val (.load 1 false (.tmp 52))⟩,
    ⟨(some 54), none, .call (.const (.func (.func F.record_Standing) [] [])) [(.tmp 49), (.tmp 51), (.tmp 53)]⟩,
    ⟨(some 48), none, .val (.mv (.tmp 54))⟩,
    ⟨(some 55), none, .val (.extract 0 (.tmp 48))⟩,
    ⟨(some 56), none, .val (.extract 1 (.tmp 48))⟩,
    ⟨(some 7), none, .val (.mv (.tmp 55))⟩,
    ⟨(some 8), none, .val (.mv (.tmp 56))⟩] [49, 50, 51, 52, 53, 54, 48, 55, 56])
  (.seq (.region [
    ⟨(some 57), none, .val (.mv (.tmp 8))⟩,
    ⟨(some 58), none, .val (.bin .neq T.apiErrno (.tmp 57) (.const (.int 0)))⟩,
    ⟨(some 59), none, .val (.mv (.tmp 58))⟩,
    ⟨(some 60), (some (59, false)), .val (.mv (.tmp 7))⟩,
    ⟨(some 61), (some (59, false)), .val (.fieldAddr 2 (.tmp 6))⟩,
    ⟨(some 62), (some (59, false)), .val (.load 1 false (.tmp 61))⟩,
    ⟨(some 63), (some (59, false)), .call (.const (.func (.func F.podiumref49_Same) [] [])) [(.tmp 60), (.tmp 62)]⟩,
    ⟨(some 64), (some (59, false)), .val (.un .not (.tmp 63))⟩,
    ⟨(some 65), none, .val (.pick (.tmp 59) (.const (.bool true)) (.tmp 64))⟩] [57, 58, 59, 60, 61, 62, 63, 64])
  (.cond (.tmp 65)
  (.seq (.region [
    ⟨(some 0), none, .val (.mv (.const (.bool false)))⟩] [])
  .ret)
  .skip)))))
  (.region [
    ⟨(some 66), none, .val (.bin .add T.int (.tmp 44) (.const (.int 1)))⟩,
    ⟨(some 44), none, .val (.mv (.tmp 66))⟩] [66])))))))
  (.seq (.region [
    ⟨(some 68), none, .call (.const (.func (.func F.record_Standing) [] [])) [(.const .nil), (.const (.int 0)), (.const (.int 0))]⟩,
    ⟨(some 67), none, .val (.mv (.tmp 68))⟩,
    ⟨(some 69), none, .val (.extract 0 (.tmp 67))⟩,
    ⟨(some 70), none, .val (.extract 1 (.tmp 67))⟩,
    ⟨(some 9), none, .val (.mv (.tmp 69))⟩,
    ⟨(some 10), none, .val (.mv (.tmp 70))⟩] [68, 67, 69, 70])
  (.seq (.region [
    ⟨(some 72), none, .val (.mv (.tmp 4))⟩,
    ⟨(some 73), none, .call (.const (.func (.func F.record_Standing) [] [])) [(.tmp 72), (.const (.int (-1))), (.const (.int 0))]⟩,
    ⟨(some 71), none, .val (.mv (.tmp 73))⟩,
    ⟨(some 74), none, .val (.extract 0 (.tmp 71))⟩,
    ⟨(some 75), none, .val (.extract 1 (.tmp 71))⟩,
    ⟨(some 11), none, .val (.mv (.tmp 74))⟩,
    ⟨(some 12), none, .val (.mv (.tmp 75))⟩] [72, 73, 71, 74, 75, 11])
  (.seq (.region [
    ⟨(some 77), none, .val (.load 9 true (.tmp 1))⟩,
    ⟨(some 78), none, .val (.load 9 true (.tmp 2))⟩,
    ⟨(some 79), none, .val (.buildSlice T.apiEvent 2 [(.int 0), (.int 0), (.int 0), (.int 0), (.int 0), (.int 0), (.int 0), (.int 0), (.int 0), (.int 0), (.int 0), (.int 0), (.int 0), (.int 0), (.int 0), (.int 0), (.int 0), (.int 0)] [(0, 9, (.tmp 77)), (9, 9, (.tmp 78))])⟩,
    ⟨(some 80), none, .val (.load 9 true (.tmp 3))⟩,
    ⟨(some 81), none, .call (.const (.func (.func F.record_Add) [] [])) [(.tmp 79), (.tmp 80)]⟩,
    ⟨(some 76), none, .val (.mv (.tmp 81))⟩,
    ⟨(some 82), none, .val (.extract 0 (.tmp 76))⟩,
    ⟨(some 83), none, .val (.extract 1 (.tmp 76))⟩,
    ⟨(some 13), none, .val (.mv (.tmp 82))⟩,
    ⟨(some 14), none, .val (.mv (.tmp 83))⟩] [77, 78, 79, 80, 81, 76, 82, 83])
  (.seq (.region [
    ⟨(some 85), none, .val (.mv (.tmp 4))⟩,
    ⟨(some 86), none, .val (.load 9 true (.tmp 1))⟩,
    ⟨(some 87), none, .call (.const (.func (.func F.record_Add) [] [])) [(.tmp 85), (.tmp 86)]⟩,
    ⟨(some 84), none, .val (.mv (.tmp 87))⟩,
    ⟨(some 88), none, .val (.extract 0 (.tmp 84))⟩,
    ⟨(some 89), none, .val (.extract 1 (.tmp 84))⟩,
    ⟨(some 15), none, .val (.mv (.tmp 88))⟩,
    ⟨(some 16), none, .val (.mv (.tmp 89))⟩] [85, 86, 87, 84, 88, 89, 15])
  (.seq (.region [
    ⟨(some 91), none, .call (.const (.func (.func F.podiumlaw49_mark) [] [])) [(.const (.int 1)), (.const (.int 1001)), (.const (.int 0)), (.const (.int 0))]⟩,
    ⟨(some 92), none, .call (.const (.func (.func F.record_Add) [] [])) [(.const .nil), (.tmp 91)]⟩,
    ⟨(some 90), none, .val (.mv (.tmp 92))⟩,
    ⟨(some 93), none, .val (.extract 0 (.tmp 90))⟩,
    ⟨(some 94), none, .val (.extract 1 (.tmp 90))⟩,
    ⟨(some 17), none, .val (.mv (.tmp 93))⟩,
    ⟨(some 18), none, .val (.mv (.tmp 94))⟩] [91, 92, 90, 93, 94, 17])
  (.seq (.seq (.region [
    ⟨(some 95), none, .val (.mv (.tmp 10))⟩,
    ⟨(some 96), none, .val (.bin .neq T.apiErrno (.tmp 95) (.const (.int 0)))⟩,
    ⟨(some 97), none, .val (.mv (.tmp 96))⟩,
    ⟨(some 98), (some (97, false)), .val (.mv (.tmp 12))⟩,
    ⟨(some 99), (some (97, false)), .val (.bin .neq T.apiErrno (.tmp 98) (.const (.int 1)))⟩,
    ⟨(some 100), none, .val (.pick (.tmp 97) (.const (.bool true)) (.tmp 99))⟩,
    ⟨(some 101), none, .val (.mv (.tmp 100))⟩,
    ⟨(some 102), (some (101, false)), .val (.mv (.tmp 14))⟩,
    ⟨(some 103), (some (101, false)), .val (.bin .neq T.apiErrno (.tmp 102) (.const (.int 0)))⟩,
    ⟨(some 104), none, .val (.pick (.tmp 101) (.const (.bool true)) (.tmp 103))⟩,
    ⟨(some 105), none, .val (.mv (.tmp 104))⟩,
    ⟨(some 106), (some (105, false)), .val (.mv (.tmp 16))⟩,
    ⟨(some 107), (some (105, false)), .val (.bin .neq T.apiErrno (.tmp 106) (.const (.int 141)))⟩,
    ⟨(some 108), none, .val (.pick (.tmp 105) (.const (.bool true)) (.tmp 107))⟩,
    ⟨(some 109), none, .val (.mv (.tmp 108))⟩,
    ⟨(some 110), (some (109, false)), .val (.mv (.tmp 18))⟩,
    ⟨(some 111), (some (109, false)), .val (.bin .neq T.apiErrno (.tmp 110) (.const (.int 490)))⟩,
    ⟨(some 112), none, .val (.pick (.tmp 109) (.const (.bool true)) (.tmp 111))⟩] [95, 96, 97, 98, 99, 100, 101, 102, 103, 104, 105, 106, 107, 108, 109, 110, 111])
  (.cond (.tmp 112)
  (.seq (.region [
    ⟨(some 0), none, .val (.mv (.const (.bool false)))⟩] [])
  .ret)
  .skip))
  (.seq (.region [
    ⟨(some 113), none, .val (.mv (.tmp 9))⟩,
    ⟨(some 114), none, .val (.len (.tmp 113))⟩,
    ⟨(some 115), none, .val (.bin .eql T.int (.tmp 114) (.const (.int 0)))⟩,
    ⟨(some 116), none, .val (.mv (.tmp 115))⟩,
    ⟨(some 117), (some (116, true)), .val (.mv (.tmp 13))⟩,
    ⟨(some 118), (some (116, true)), .val (.mv (.tmp 4))⟩,
    ⟨(some 119), (some (116, true)), .call (.const (.func (.func F.podiumref49_Same) [] [])) [(.tmp 117), (.tmp 118)]⟩,
    ⟨(some 120), none, .val (.pick (.tmp 116) (.tmp 119) (.const (.bool false)))⟩,
    ⟨(some 121), none, .val (.mv (.tmp 120))⟩,
    ⟨(some 122), (some (121, true)), .val (.mv (.tmp 4))⟩,
    ⟨(some 123), (some (121, true)), .call (.const (.func (.func F.record_Check) [] [])) [(.tmp 122)]⟩,
    ⟨(some 124), (some (121, true)), .val (.bin .eql T.apiErrno (.tmp 123) (.const (.int 0)))⟩,
    ⟨(some 125), none, .val (.pick (.tmp 121) (.tmp 124) (.const (.bool false)))⟩,
    ⟨(some 126), none, .val (.mv (.tmp 125))⟩,
    ⟨(some 127), (some (126, true)), .val (.build [(.int 0), (.int 0), (.int 0), (.int 0), (.int 0), (.int 0), (.int 0), (.int 0), (.int 0)] [])⟩,
    ⟨(some 128), (some (126, true)), .val (.buildSlice T.apiEvent 1 [(.int 0), (.int 0), (.int 0), (.int 0), (.int 0), (.int 0), (.int 0), (.int 0), (.int 0)] [(0, 9, (.tmp 127))])⟩,
    ⟨(some 129), (some (126, true)), .call (.const (.func (.func F.record_Check) [] [])) [(.tmp 128)]⟩,
    ⟨(some 130), (some (126, true)), .val (.bin .eql T.apiErrno (.tmp 129) (.const (.int 490)))⟩,
    ⟨(some 131), none, .val (.pick (.tmp 126) (.tmp 130) (.const (.bool false)))⟩,
    ⟨(some 132), none, .val (.mv (.tmp 131))⟩,
    ⟨(some 133), (some (132, true)), .val (.load 9 true (.tmp 2))⟩,
    ⟨(some 134), (some (132, true)), .val (.load 9 true (.tmp 1))⟩,
    ⟨(some 135), (some (132, true)), .val (.buildSlice T.apiEvent 2 [(.int 0), (.int 0), (.int 0), (.int 0), (.int 0), (.int 0), (.int 0), (.int 0), (.int 0), (.int 0), (.int 0), (.int 0), (.int 0), (.int 0), (.int 0), (.int 0), (.int 0), (.int 0)] [(0, 9, (.tmp 133)), (9, 9, (.tmp 134))])⟩,
    ⟨(some 136), (some (132, true)), .call (.const (.func (.func F.record_Check) [] [])) [(.tmp 135)]⟩,
    ⟨(some 137), (some (132, true)), .val (.bin .eql T.apiErrno (.tmp 136) (.const (.int 490)))⟩,
    ⟨(some 138), none, .val (.pick (.tmp 132) (.tmp 137) (.const (.bool false)))⟩,
    ⟨(some 0), none, .val (.mv (.tmp 138))⟩] [113, 114, 115, 116, 117, 118, 119, 120, 121, 122, 123, 124, 125, 126, 127, 128, 129, 130, 131, 132, 133, 134, 135, 136, 137, 138])
  .ret)))))))))))))⟩
theorem H.podiumlaw49_sane : Has P F.podiumlaw49_sane C.podiumlaw49_sane := ⟨Try.f9, Try.func9, by kernel_rfl, by kernel_rfl⟩

/-- podium/podiumref49.Few -/
noncomputable def C.podiumref49_Few : MFunc := ⟨16, 1, [.tmp 2],
  (.seq (.region [
    ⟨(some 2), none, .val (.mv (.const (.bool false)))⟩] [])
  (.seq (.region [
    ⟨(some 3), none, .val (.mv (.tmp 0))⟩,
    ⟨(some 4), none, .val (.len (.tmp 3))⟩,
    ⟨(some 5), none, .val (.bin .leq T.int (.tmp 4) (.const (.int 60)))⟩,
    ⟨(some 6), none, .val (.mv (.tmp 5))⟩,
    ⟨(some 7), (some (6, false)), .val (.mv (.tmp 0))⟩,
    ⟨(some 8), (some (6, false)), .val (.len (.tmp 7))⟩,
    ⟨(some 9), (some (6, false)), .val (.bin .gtr T.int (.tmp 8) (.const (.int 4096)))⟩,
    ⟨(some 10), (some (6, false)), .val (.mv (.tmp 9))⟩,
    ⟨(some 11), (some (10, true)), .val (.mv (.tmp 0))⟩,
    ⟨(some 12), (some (10, true)), .val (.len (.tmp 11))⟩,
    ⟨(some 13), (some (10, true)), .val (.bin .leq T.int (.tmp 12) (.const (.int 5000)))⟩,
    ⟨(some 14), (some (6, false)), .val (.pick (.tmp 10) (.tmp 13) (.const (.bool false)))⟩,
    ⟨(some 15), none, .val (.pick (.tmp 6) (.const (.bool true)) (.tmp 14))⟩,
    ⟨(some 2), none, .val (.mv (.tmp 15))⟩] [3, 4, 5, 6, 7, 8, 9, 10, 11, 12, 13, 14, 15])
  .ret))⟩
theorem H.podiumref49_Few : Has P F.podiumref49_Few C.podiumref49_Few := ⟨Try.f10, Try.func10, by kernel_rfl, by kernel_rfl⟩

/-- podium/record.Add -/
noncomputable def C.record_Add : MFunc := ⟨39, 2, [.tmp 4, .tmp 5],
  (.seq (.region [
    ⟨(some 3), none, .box T.apiEvent (.tmp 1)⟩,
    ⟨(some 4), none, .val (.mv (.const .nil))⟩,
    ⟨(some 5), none, .val (.mv (.const (.int 0)))⟩] [])
  (.seq (.seq (.region [
    ⟨(some 9), none, .val (.mv (.tmp 0))⟩,
    ⟨(some 10), none, .call (.const (.func (.func F.record_Check) [] [])) [(.tmp 9)]⟩,
    ⟨(some 6), none, .val (.mv (.tmp 10))⟩] [9, 10])
  (.seq (.region [
    ⟨(some 11), none, .val (.mv (.tmp 6))⟩,
    ⟨(some 12), none, .val (.bin .neq T.apiErrno (.tmp 11) (.const (.int 0)))⟩] [11])
  (.cond (.tmp 12)
  (.seq (.region [
    ⟨(some 13), none, .val (.mv (.tmp 6))⟩,
    ⟨(some 4), none, .val (.mv (.const .nil))⟩,
    ⟨(some 5), none, .val (.mv (.tmp 13))⟩] [13])
  .ret)
  .skip)))
  (.seq (.seq (.draw true [
    (.late, ⟨(some 14), none, .val (.load 9 true (.tmp 3))⟩),
    (.hard, ⟨(some 15), none, .call (.const (.func (.func F.record_kinds) [] [])) []⟩),
    (.hard, ⟨(some 16), none, .call (.const (.func (.func F.record_right) [] [])) [(.tmp 14), (.tmp 15)]⟩),
    (.late, ⟨(some 17), none, .val (.un .not (.tmp 16))⟩)] [14, 15, 16])
  (.cond (.tmp 17)
  (.seq (.region [
    ⟨(some 4), none, .val (.mv (.const .nil))⟩,
    ⟨(some 5), none, .val (.mv (.const (.int 490)))⟩] [])
  .ret)
  .skip))
  (.seq (.region [
    ⟨(some 19), none, .val (.mv (.tmp 0))⟩,
    ⟨(some 20), none, .val (.build [] [])⟩,
    ⟨(some 21), none, .val (.fieldAddr 0 (.tmp 3))⟩,
    ⟨(some 22), none, .val (.load 1 false (.tmp 21))⟩,
    ⟨(some 23), none, .val (.mkFunc (.func F.record_number_compare) [(.tmp 22)] [])⟩,
    ⟨(some 24), none, .call (.const (.func (.func F.slices_BinarySearchFunc__LapiEvent_apiEvent_struct) [] [])) [(.tmp 19), (.tmp 20), (.tmp 23)]⟩,
    ⟨(some 18), none, .val (.mv (.tmp 24))⟩,
    ⟨(some 25), none, .val (.extract 0 (.tmp 18))⟩,
    ⟨(some 26), none, .val (.extract 1 (.tmp 18))⟩,
    ⟨(some 7), none, .val (.mv (.tmp 25))⟩,
    ⟨(some 8), none, .val (.mv (.tmp 26))⟩] [19, 20, 21, 22, 23, 24, 18, 25, 26])
  (.seq (.block 0 (.seq (.region [
    ⟨(some 28), none, .val (.mv (.tmp 8))⟩,
    ⟨(some 27), none, .val (.mv (.tmp 28))⟩] [28])
  (.cond (.tmp 27)
  (.seq (.region [
    ⟨(some 4), none, .val (.mv (.const .nil))⟩,
    ⟨(some 5), none, .val (.mv (.const (.int 141)))⟩] [])
  .ret)
  (.seq (.region [
    ⟨(some 30), none, .val (.mv (.tmp 0))⟩,
    ⟨(some 31), none, .val (.len (.tmp 30))⟩,
    ⟨(some 32), none, .val (.bin .eql T.int (.tmp 31) (.const (.int 4096)))⟩,
    ⟨(some 29), none, .val (.mv (.tmp 32))⟩] [30, 31, 32])
  (.cond (.tmp 29)
  (.seq (.region [
    ⟨(some 4), none, .val (.mv (.const .nil))⟩,
    ⟨(some 5), none, .val (.mv (.const (.int 2)))⟩] [])
  .ret)
  .skip)))))
  (.seq (.draw true [
    (.early, ⟨(some 33), none, .val (.mv (.tmp 0))⟩),
    (.late, ⟨(some 35), none, .val (.mv (.tmp 7))⟩),
    (.late, ⟨(some 36), none, .val (.load 9 true (.tmp 3))⟩),
    (.late, ⟨(some 37), none, .val (.buildSlice T.apiEvent 1 [(.int 0), (.int 0), (.int 0), (.int 0), (.int 0), (.int 0), (.int 0), (.int 0), (.int 0)] [(0, 9, (.tmp 36))])⟩),
    (.hard, ⟨(some 34), none, .call (.const (.func (.func F.slices_Clone__LapiEvent_apiEvent) [] [])) [(.tmp 33)]⟩),
    (.hard, ⟨(some 38), none, .call (.const (.func (.func F.slices_Insert__LapiEvent_apiEvent) [] [])) [(.tmp 34), (.tmp 35), (.tmp 37)]⟩),
    (.late, ⟨(some 4), none, .val (.mv (.tmp 38))⟩),
    (.late, ⟨(some 5), none, .val (.mv (.const (.int 0)))⟩)] [33, 34, 35, 36, 37, 38])
  .ret))))))⟩
theorem H.record_Add : Has P F.record_Add C.record_Add := ⟨Try.f11, Try.func11, by kernel_rfl, by kernel_rfl⟩

/-- podium/podiumref49.Add -/
noncomputable def C.podiumref49_Add : MFunc := ⟨65, 2, [.tmp 4, .tmp 5],
  (.seq (.region [
    ⟨(some 3), none, .box T.apiEvent (.tmp 1)⟩,
    ⟨(some 4), none, .val (.mv (.const .nil))⟩,
    ⟨(some 5), none, .val (.mv (.const (.int 0)))⟩] [])
  (.seq (.region [
    ⟨(some 10), none, .val (.mv (.tmp 0))⟩,
    ⟨(some 11), none, .call (.const (.func (.func F.podiumref49_Check) [] [])) [(.tmp 10)]⟩,
    ⟨(some 6), none, .val (.mv (.tmp 11))⟩] [10, 11])
  (.seq (.seq (.region [
    ⟨(some 12), none, .val (.mv (.tmp 6))⟩,
    ⟨(some 13), none, .val (.bin .neq T.apiErrno (.tmp 12) (.const (.int 0)))⟩] [12])
  (.cond (.tmp 13)
  (.seq (.region [
    ⟨(some 14), none, .val (.mv (.tmp 6))⟩,
    ⟨(some 4), none, .val (.mv (.const .nil))⟩,
    ⟨(some 5), none, .val (.mv (.tmp 14))⟩] [14])
  .ret)
  .skip))
  (.seq (.seq (.region [
    ⟨(some 15), none, .val (.load 9 true (.tmp 3))⟩,
    ⟨(some 16), none, .call (.const (.func (.func F.podiumref49_Right) [] [])) [(.tmp 15)]⟩,
    ⟨(some 17), none, .val (.un .not (.tmp 16))⟩] [15, 16])
  (.cond (.tmp 17)
  (.seq (.region [
    ⟨(some 4), none, .val (.mv (.const .nil))⟩,
    ⟨(some 5), none, .val (.mv (.const (.int 490)))⟩] [])
  .ret)
  .skip))
  (.seq (.region [
    ⟨(some 18), none, .val (.buildSlice T.apiEvent 0 [] [])⟩,
    ⟨(some 7), none, .val (.mv (.tmp 18))⟩] [18])
  (.seq (.region [
    ⟨(some 19), none, .val (.buildSlice T.apiEvent 0 [] [])⟩,
    ⟨(some 8), none, .val (.mv (.tmp 19))⟩] [19])
  (.seq (.seq (.region [
    ⟨(some 9), none, .val (.mv (.const (.int 0)))⟩] [])
  (.block 0 (.loop (.seq (.seq (.region [
    ⟨(some 20), none, .val (.mv (.tmp 9))⟩,
    ⟨(some 21), none, .val (.mv (.tmp 0))⟩,
    ⟨(some 22), none, .val (.len (.tmp 21))⟩,
    ⟨(some 23), none, .val (.bin .lss T.int (.tmp 20) (.tmp 22))⟩] [20, 21, 22])
  (.cond (.tmp 23)
  .skip
  (.exit 0)))
  (.seq (.block 1 (.seq (.seq (.draw false [
    (.early, ⟨(some 26), none, .val (.mv (.tmp 0))⟩),
    (.early, ⟨(some 27), none, .val (.mv (.tmp 9))⟩),
    (.early, ⟨(some 28), none, .val (.indexAddr 9 (.tmp 26) (.tmp 27))⟩),
    (.early, ⟨(some 29), none, .val (.fieldAddr 0 (.tmp 28))⟩),
    (.early, ⟨(some 30), none, .val (.load 1 false (.tmp 29))⟩),
    (.early, ⟨(some 31), none, .val (.fieldAddr 0 (.tmp 3))⟩),
    (.early, ⟨(some 32), none, .val (.load 1 false (.tmp 31))⟩),
    (.early, ⟨(some 33), none, .val (.bin .eql T.int (.tmp 30) (.tmp 32))⟩)] [26, 27, 28, 29, 30, 31, 32])
  (.cond (.tmp 33)
  (.seq (.region [
    ⟨(some 4), none, .val (.mv (.const .nil))⟩,
    ⟨(some 5), none, .val (.mv (.const (.int 141)))⟩] [])
  .ret)
  .skip))
  (.seq (.draw false [
    (.early, ⟨(some 34), none, .val (.mv (.tmp 0))⟩),
    (.early, ⟨(some 35), none, .val (.mv (.tmp 9))⟩),
    (.early, ⟨(some 36), none, .val (.indexAddr 9 (.tmp 34) (.tmp 35))⟩),
    (.early, ⟨(some 37), none, .val (.fieldAddr 0 (.tmp 36))⟩),
    (.early, ⟨(some 38), none, .val (.load 1 false (.tmp 37))⟩),
    (.early, ⟨(some 39), none, .val (.fieldAddr 0 (.tmp 3))⟩),
    (.early, ⟨(some 40), none, .val (.load 1 false (.tmp 39))⟩),
    (.early, ⟨(some 41), none, .val (.bin .lss T.int (.tmp 38) (.tmp 40))⟩)] [34, 35, 36, 37, 38, 39, 40])
  (.cond (.tmp 41)
  (.region [
    ⟨(some 42), none, .val (.mv (.tmp 7))⟩,
    ⟨(some 43), none, .val (.mv (.tmp 0))⟩,
    ⟨(some 44), none, .val (.mv (.tmp 9))⟩,
    ⟨(some 45), none, .val (.indexAddr 9 (.tmp 43) (.tmp 44))⟩,
    ⟨(some 46), none, .val (.load 9 true (.tmp 45))⟩,
    ⟨(some 47), none, .val (.buildSlice T.apiEvent 1 [(.int 0), (.int 0), (.int 0), (.int 0), (.int 0), (.int 0), (.int 0), (.int 0), (.int 0)] [(0, 9, (.tmp 46))])⟩,
    ⟨(some 48), none, .append T.apiEvent 72 9 (.tmp 42) (.tmp 47)⟩,
    ⟨(some 7), none, .val (.mv (.tmp 48))⟩] [42, 43, 44, 45, 46, 47, 48])
  (.region [
    ⟨(some 49), none, .val (.mv (.tmp 8))⟩,
    ⟨(some 50), none, .val (.mv (.tmp 0))⟩,
    ⟨(some 51), none, .val (.mv (.tmp 9))⟩,
    ⟨(some 52), none, .val (.indexAddr 9 (.tmp 50) (.tmp 51))⟩,
    ⟨(some 53), none, .val (.load 9 true (.tmp 52))⟩,
    ⟨(some 54), none, .val (.buildSlice T.apiEvent 1 [(.int 0), (.int 0), (.int 0), (.int 0), (.int 0), (.int 0), (.int 0), (.int 0), (.int 0)] [(0, 9, (.tmp 53))])⟩,
    ⟨(some 55), none, .append T.apiEvent 72 9 (.tmp 49) (.tmp 54)⟩,
    ⟨(some 8), none, .val (.mv (.tmp 55))⟩] [49, 50, 51, 52, 53, 54, 55])))))
  (.region [
    ⟨(some 24), none, .val (.mv (.tmp 9))⟩,
    ⟨(some 25), none, .val (.bin .add T.int (.tmp 24) (.const (.int 1)))⟩,
    ⟨(some 9), none, .val (.mv (.tmp 25))⟩] [24, 25]))))))
  (.seq (.seq (.region [
    ⟨(some 56), none, .val (.mv (.tmp 0))⟩,
    ⟨(some 57), none, .val (.len (.tmp 56))⟩,
    ⟨(some 58), none, .val (.bin .eql T.int (.tmp 57) (.const (.int 4096)))⟩] [56, 57])
  (.cond (.tmp 58)
  (.seq (.region [
    ⟨(some 4), none, .val (.mv (.const .nil))⟩,
    ⟨(some 5), none, .val (.mv (.const (.int 2)))⟩] [])
  .ret)
  .skip))
  (.seq (.region [
    ⟨(some 59), none, .val (.mv (.tmp 7))⟩,
    ⟨(some 60), none, .val (.load 9 true (.tmp 3))⟩,
    ⟨(some 61), none, .val (.buildSlice T.apiEvent 1 [(.int 0), (.int 0), (.int 0), (.int 0), (.int 0), (.int 0), (.int 0), (.int 0), (.int 0)] [(0, 9, (.tmp 60))])⟩,
    ⟨(some 62), none, .append T.apiEvent 72 9 (.tmp 59) (.tmp 61)⟩,
    ⟨(some 63), none, .val (.mv (.tmp 8))⟩,
    ⟨(some 64), none, .append T.apiEvent 72 9 (.tmp 62) (.tmp 63)⟩,
    ⟨(some 4), none, .val (.mv (.tmp 64))⟩,
    ⟨(some 5), none, .val (.mv (.const (.int 0)))⟩] [59, 60, 61, 62, 63, 64])
  .ret)))))))))⟩
theorem H.podiumref49_Add : Has P F.podiumref49_Add C.podiumref49_Add := ⟨Try.f12, Try.func12, by kernel_rfl, by kernel_rfl⟩

/-- podium/record.Check -/
noncomputable def C.record_Check : MFunc := ⟨37, 1, [.tmp 2],
  (.seq (.region [
    ⟨(some 2), none, .val (.mv (.const (.int 0)))⟩] [])
  (.seq (.seq (.region [
    ⟨(some 6), none, .val (.mv (.tmp 0))⟩,
    ⟨(some 7), none, .val (.len (.tmp 6))⟩,
    ⟨(some 8), none, .val (.bin .gtr T.int (.tmp 7) (.const (.int 4096)))⟩] [6, 7])
  (.cond (.tmp 8)
  (.seq (.region [
    ⟨(some 2), none, .val (.mv (.const (.int 2)))⟩] [])
  .ret)
  .skip))
  (.seq (.region [
    ⟨(some 9), none, .call (.const (.func (.func F.record_kinds) [] [])) []⟩,
    ⟨(some 3), none, .val (.mv (.tmp 9))⟩] [9])
  (.seq (.seq (.region [
    ⟨(some 10), none, .val (.mv (.tmp 0))⟩,
    ⟨(some 11), none, .val (.len (.tmp 10))⟩,
    ⟨(some 12), none, .val (.mv (.const (.int 0)))⟩] [])
  (.block 0 (.loop (.seq (.region [
    ⟨(some 13), none, .val (.bin .lss T.int (.tmp 12) (.tmp 11))⟩] [])
  (.seq (.cond (.tmp 13)
  .skip
  (.exit 0))
  (.seq (.block 1 (.seq (.region [
    ⟨(some 14), none, .val (.mv (.tmp 12))⟩,
    ⟨(some 15), none, .val (.indexAddr 9 (.tmp 10) (.tmp 12))⟩,
    ⟨(some 16), none, .val (.load 9 true (.tmp 15))⟩,
    ⟨(some 5), none, .alloc T.apiEvent [(.int 0), (.int 0), (.int 0), (.int 0), (.int 0), (.int 0), (.int 0), (.int 0), (.int 0)]⟩,
    ⟨(some 4), none, .val (.mv (.tmp 14))⟩,
    ⟨none, none, .store 9 (.tmp 5) (.tmp 16)⟩] [14, 15, 16])
  (.seq (.draw true [
    (.early, ⟨(some 17), none, .val (.load 9 true (.tmp 5))⟩),
    (.early, ⟨(some 18), none, .val (.mv (.tmp 3))⟩),
    (.hard, ⟨(some 19), none, .call (.const (.func (.func F.record_right) [] [])) [(.tmp 17), (.tmp 18)]⟩),
    (.late, ⟨(some 20), none, .val (.un .not (.tmp 19))⟩),
    (.late, ⟨(some 21), none, .val (.mv (.tmp 20))⟩),
    (.late, ⟨(some 22), (some (21, false)), .val (.mv (.tmp 4))⟩),
    (.late, ⟨(some 23), (some (21, false)), .val (.bin .gtr T.int (.tmp 22) (.const (.int 0)))⟩),
    (.late, ⟨(some 24), (some (21, false)), .val (.mv (.tmp 23))⟩),
    (.late, ⟨(some 25), (some (24, true)), .val (.mv (.tmp 0))⟩),
    (.late, ⟨(some 26), (some (24, true)), .val (.mv (.tmp 4))⟩),
    (.late, ⟨(some 27), (some (24, true)), .val (.bin .sub T.int (.tmp 26) (.const (.int 1)))⟩),
    (.late, ⟨(some 28), (some (24, true)), .val (.indexAddr 9 (.tmp 25) (.tmp 27))⟩),
    (.late, ⟨(some 29), (some (24, true)), .val (.fieldAddr 0 (.tmp 28))⟩),
    (.late, ⟨(some 30), (some (24, true)), .val (.load 1 false (.tmp 29))⟩),
    (.late, ⟨(some 31), (some (24, true)), .val (.fieldAddr 0 (.tmp 5))⟩),
    (.late, ⟨(some 32), (some (24, true)), .val (.load 1 false (.tmp 31))⟩),
    (.late, ⟨(some 33), (some (24, true)), .val (.bin .geq T.int (.tmp 30) (.tmp 32))⟩),
    (.late, ⟨(some 34), (some (21, false)), .val (.pick (.tmp 24) (.tmp 33) (.const (.bool false)))⟩),
    (.late, ⟨(some 35), none, .val (.pick (.tmp 21) (.const (.bool true)) (.tmp 34))⟩)] [17, 18, 19, 20, 21, 22, 23, 24, 25, 26, 27, 28, 29, 30, 31, 32, 33, 34])
  (.cond (.tmp 35)
  (.seq (.region [
    ⟨(some 2), none, .val (.mv (.const (.int 490)))⟩] [])
  .ret)
  .skip))))
  (.region [
    ⟨(some 36), none, .val (.bin .add T.int (.tmp 12) (.const (.int 1)))⟩,
    ⟨(some 12), none, .val (.mv (.tmp 36))⟩] [36])))))))
  (.seq (.region [
    ⟨(some 2), none, .val (.mv (.const (.int 0)))⟩] [])
  .ret)))))⟩
theorem H.record_Check : Has P F.record_Check C.record_Check := ⟨Try.f13, Try.func13, by kernel_rfl, by kernel_rfl⟩

/-- podium/podiumref49.Check -/
noncomputable def C.podiumref49_Check : MFunc := ⟨37, 1, [.tmp 2],
  (.seq (.region [
    ⟨(some 2), none, .val (.mv (.const (.int 0)))⟩] [])
  (.seq (.seq (.region [
    ⟨(some 4), none, .val (.mv (.tmp 0))⟩,
    ⟨(some 5), none, .val (.len (.tmp 4))⟩,
    ⟨(some 6), none, .val (.bin .gtr T.int (.tmp 5) (.const (.int 4096)))⟩] [4, 5])
  (.cond (.tmp 6)
  (.seq (.region [
    ⟨(some 2), none, .val (.mv (.const (.int 2)))⟩] [])
  .ret)
  .skip))
  (.seq (.seq (.region [
    ⟨(some 3), none, .val (.mv (.const (.int 0)))⟩] [])
  (.block 0 (.loop (.seq (.seq (.region [
    ⟨(some 7), none, .val (.mv (.tmp 3))⟩,
    ⟨(some 8), none, .val (.mv (.tmp 0))⟩,
    ⟨(some 9), none, .val (.len (.tmp 8))⟩,
    ⟨(some 10), none, .val (.bin .lss T.int (.tmp 7) (.tmp 9))⟩] [7, 8, 9])
  (.cond (.tmp 10)
  .skip
  (.exit 0)))
  (.seq (.block 1 (.seq (.draw true [
    (.early, ⟨(some 13), none, .val (.mv (.tmp 0))⟩),
    (.early, ⟨(some 14), none, .val (.mv (.tmp 3))⟩),
    (.early, ⟨(some 15), none, .val (.indexAddr 9 (.tmp 13) (.tmp 14))⟩),
    (.early, ⟨(some 16), none, .val (.load 9 true (.tmp 15))⟩),
    (.hard, ⟨(some 17), none, .call (.const (.func (.func F.podiumref49_Right) [] [])) [(.tmp 16)]⟩),
    (.late, ⟨(some 18), none, .val (.un .not (.tmp 17))⟩),
    (.late, ⟨(some 19), none, .val (.mv (.tmp 18))⟩),
    (.late, ⟨(some 20), (some (19, false)), .val (.mv (.tmp 3))⟩),
    (.late, ⟨(some 21), (some (19, false)), .val (.bin .gtr T.int (.tmp 20) (.const (.int 0)))⟩),
    (.late, ⟨(some 22), (some (19, false)), .val (.mv (.tmp 21))⟩),
    (.late, ⟨(some 23), (some (22, true)), .val (.mv (.tmp 0))⟩),
    (.late, ⟨(some 24), (some (22, true)), .val (.mv (.tmp 3))⟩),
    (.late, ⟨(some 25), (some (22, true)), .val (.indexAddr 9 (.tmp 23) (.tmp 24))⟩),
    (.late, ⟨(some 26), (some (22, true)), .val (.fieldAddr 0 (.tmp 25))⟩),
    (.late, ⟨(some 27), (some (22, true)), .val (.load 1 false (.tmp 26))⟩),
    (.late, ⟨(some 28), (some (22, true)), .val (.mv (.tmp 0))⟩),
    (.late, ⟨(some 29), (some (22, true)), .val (.mv (.tmp 3))⟩),
    (.late, ⟨(some 30), (some (22, true)), .val (.bin .sub T.int (.tmp 29) (.const (.int 1)))⟩),
    (.late, ⟨(some 31), (some (22, true)), .val (.indexAddr 9 (.tmp 28) (.tmp 30))⟩),
    (.late, ⟨(some 32), (some (22, true)), .val (.fieldAddr 0 (.tmp 31))⟩),
    (.late, ⟨(some 33), (some (22, true)), .val (.load 1 false (.tmp 32))⟩),
    (.late, ⟨(some 34), (some (22, true)), .val (.bin .leq T.int (.tmp 27) (.tmp 33))⟩),
    (.late, ⟨(some 35), (some (19, false)), .val (.pick (.tmp 22) (.tmp 34) (.const (.bool false)))⟩),
    (.late, ⟨(some 36), none, .val (.pick (.tmp 19) (.const (.bool true)) (.tmp 35))⟩)] [13, 14, 15, 16, 17, 18, 19, 20, 21, 22, 23, 24, 25, 26, 27, 28, 29, 30, 31, 32, 33, 34, 35])
  (.cond (.tmp 36)
  (.seq (.region [
    ⟨(some 2), none, .val (.mv (.const (.int 490)))⟩] [])
  .ret)
  .skip)))
  (.region [
    ⟨(some 11), none, .val (.mv (.tmp 3))⟩,
    ⟨(some 12), none, .val (.bin .add T.int (.tmp 11) (.const (.int 1)))⟩,
    ⟨(some 3), none, .val (.mv (.tmp 12))⟩] [11, 12]))))))
  (.seq (.region [
    ⟨(some 2), none, .val (.mv (.const (.int 0)))⟩] [])
  .ret))))⟩
theorem H.podiumref49_Check : Has P F.podiumref49_Check C.podiumref49_Check := ⟨Try.f14, Try.func14, by kernel_rfl, by kernel_rfl⟩

/-- podium/podiumref49.Same -/
noncomputable def C.podiumref49_Same : MFunc := ⟨26, 2, [.tmp 4],
  (.seq (.region [
    ⟨(some 4), none, .val (.mv (.const (.bool false)))⟩] [])
  (.seq (.seq (.region [
    ⟨(some 6), none, .val (.mv (.tmp 0))⟩,
    ⟨(some 7), none, .val (.len (.tmp 6))⟩,
    ⟨(some 8), none, .val (.mv (.tmp 1))⟩,
    ⟨(some 9), none, .val (.len (.tmp 8))⟩,
    ⟨(some 10), none, .val (.bin .neq T.int (.tmp 7) (.tmp 9))⟩] [6, 7, 8, 9])
  (.cond (.tmp 10)
  (.seq (.region [
    ⟨(some 4), none, .val (.mv (.const (.bool false)))⟩] [])
  .ret)
  .skip))
  (.seq (.seq (.region [
    ⟨(some 5), none, .val (.mv (.const (.int 0)))⟩] [])
  (.block 0 (.loop (.seq (.seq (.region [
    ⟨(some 11), none, .val (.mv (.tmp 5))⟩,
    ⟨(some 12), none, .val (.mv (.tmp 0))⟩,
    ⟨(some 13), none, .val (.len (.tmp 12))⟩,
    ⟨(some 14), none, .val (.bin .lss T.int (.tmp 11) (.tmp 13))⟩] [11, 12, 13])
  (.cond (.tmp 14)
  .skip
  (.exit 0)))
  (.seq (.block 1 (.seq (.draw false [
    (.early, ⟨(some 17), none, .val (.mv (.tmp 0))⟩),
    (.early, ⟨(some 18), none, .val (.mv (.tmp 5))⟩),
    (.early, ⟨(some 19), none, .val (.indexAddr 9 (.tmp 17) (.tmp 18))⟩),
    (.early, ⟨(some 20), none, .val (.load 9 true (.tmp 19))⟩),
    (.early, ⟨(some 21), none, .val (.mv (.tmp 1))⟩),
    (.early, ⟨(some 22), none, .val (.mv (.tmp 5))⟩),
    (.early, ⟨(some 23), none, .val (.indexAddr 9 (.tmp 21) (.tmp 22))⟩),
    (.early, ⟨(some 24), none, .val (.load 9 true (.tmp 23))⟩),
    (.early, ⟨(some 25), none, .val (.eqAgg true [.int, .int, .int, .int, .int, .int, .int, .int, .int] (.tmp 20) (.tmp 24))⟩)] [17, 18, 19, 20, 21, 22, 23, 24])
  (.cond (.tmp 25)
  (.seq (.region [
    ⟨(some 4), none, .val (.mv (.const (.bool false)))⟩] [])
  .ret)
  .skip)))
  (.region [
    ⟨(some 15), none, .val (.mv (.tmp 5))⟩,
    ⟨(some 16), none, .val (.bin .add T.int (.tmp 15) (.const (.int 1)))⟩,
    ⟨(some 5), none, .val (.mv (.tmp 16))⟩] [15, 16]))))))
  (.seq (.region [
    ⟨(some 4), none, .val (.mv (.const (.bool true)))⟩] [])
  .ret))))⟩
theorem H.podiumref49_Same : Has P F.podiumref49_Same C.podiumref49_Same := ⟨Try.f15, Try.func15, by kernel_rfl, by kernel_rfl⟩

/-- podium/record.Standing -/
noncomputable def C.record_Standing : MFunc := ⟨85, 3, [.tmp 6, .tmp 7],
  (.seq (.region [
    ⟨(some 6), none, .val (.mv (.const .nil))⟩,
    ⟨(some 7), none, .val (.mv (.const (.int 0)))⟩] [])
  (.seq (.seq (.region [
    ⟨(some 16), none, .val (.mv (.tmp 0))⟩,
    ⟨(some 17), none, .call (.const (.func (.func F.record_Check) [] [])) [(.tmp 16)]⟩,
    ⟨(some 8), none, .val (.mv (.tmp 17))⟩] [16, 17])
  (.seq (.region [
    ⟨(some 18), none, .val (.mv (.tmp 8))⟩,
    ⟨(some 19), none, .val (.bin .neq T.apiErrno (.tmp 18) (.const (.int 0)))⟩] [18])
  (.cond (.tmp 19)
  (.seq (.region [
    ⟨(some 20), none, .val (.mv (.tmp 8))⟩,
    ⟨(some 6), none, .val (.mv (.const .nil))⟩,
    ⟨(some 7), none, .val (.mv (.tmp 20))⟩] [20])
  .ret)
  .skip)))
  (.seq (.seq (.region [
    ⟨(some 21), none, .val (.mv (.tmp 1))⟩,
    ⟨(some 22), none, .call (.const (.func (.func F.record_between) [] [])) [(.tmp 21), (.const (.int 0)), (.const (.int 2097151))]⟩,
    ⟨(some 23), none, .val (.un .not (.tmp 22))⟩,
    ⟨(some 24), none, .val (.mv (.tmp 23))⟩,
    ⟨(some 25), (some (24, false)), .val (.mv (.tmp 2))⟩,
    ⟨(some 26), (some (24, false)), .call (.const (.func (.func F.record_between) [] [])) [(.tmp 25), (.const (.int 0)), (.const (.int 2097151))]⟩,
    ⟨(some 27), (some (24, false)), .val (.un .not (.tmp 26))⟩,
    ⟨(some 28), none, .val (.pick (.tmp 24) (.const (.bool true)) (.tmp 27))⟩] [21, 22, 23, 24, 25, 26, 27])
  (.cond (.tmp 28)
  (.seq (.region [
    ⟨(some 6), none, .val (.mv (.const .nil))⟩,
    ⟨(some 7), none, .val (.mv (.const (.int 1)))⟩] [])
  .ret)
  .skip))
  (.seq (.region [
    ⟨(some 29), none, .mkMap⟩,
    ⟨(some 9), none, .val (.mv (.tmp 29))⟩] [29])
  (.seq (.seq (.region [
    ⟨(some 30), none, .val (.mv (.tmp 0))⟩,
    ⟨(some 31), none, .val (.len (.tmp 30))⟩,
    ⟨(some 32), none, .val (.mv (.const (.int 0)))⟩] [])
  (.block 0 (.loop (.seq (.region [
    ⟨(some 33), none, .val (.bin .lss T.int (.tmp 32) (.tmp 31))⟩] [])
  (.seq (.cond (.tmp 33)
  .skip
  (.exit 0))
  (.seq (.block 1 (.seq (.region [
    ⟨(some 34), none, .val (.indexAddr 9 (.tmp 30) (.tmp 32))⟩,
    ⟨(some 35), none, .val (.load 9 true (.tmp 34))⟩,
    ⟨(some 11), none, .alloc T.apiEvent [(.int 0), (.int 0), (.int 0), (.int 0), (.int 0), (.int 0), (.int 0), (.int 0), (.int 0)]⟩,
    ⟨none, none, .store 9 (.tmp 11) (.tmp 35)⟩] [34, 35])
  (.seq (.seq (.region [
    ⟨(some 36), none, .val (.fieldAddr 7 (.tmp 11))⟩,
    ⟨(some 37), none, .val (.load 1 false (.tmp 36))⟩,
    ⟨(some 38), none, .val (.mv (.tmp 1))⟩,
    ⟨(some 39), none, .val (.bin .gtr T.int (.tmp 37) (.tmp 38))⟩,
    ⟨(some 40), none, .val (.mv (.tmp 39))⟩,
    ⟨(some 41), (some (40, false)), .val (.fieldAddr 8 (.tmp 11))⟩,
    ⟨(some 42), (some (40, false)), .val (.load 1 false (.tmp 41))⟩,
    ⟨(some 43), (some (40, false)), .val (.mv (.tmp 2))⟩,
    ⟨(some 44), (some (40, false)), .val (.bin .gtr T.int (.tmp 42) (.tmp 43))⟩,
    ⟨(some 45), none, .val (.pick (.tmp 40) (.const (.bool true)) (.tmp 44))⟩] [36, 37, 38, 39, 40, 41, 42, 43, 44])
  (.cond (.tmp 45)
  (.exit 1)
  .skip))
  (.seq (.region [
    ⟨(some 47), none, .val (.mv (.tmp 9))⟩,
    ⟨(some 48), none, .val (.load 9 true (.tmp 11))⟩,
    ⟨(some 49), none, .call (.const (.func (.func F.record_of) [] [])) [(.tmp 48)]⟩,
    ⟨(some 50), none, .val (.lookup (true, [.int, .int, .int, .int, .int]) (.agg [(.int 0), (.int 0), (.int 0), (.int 0), (.int 0), (.int 0), (.int 0), (.int 0), (.int 0)]) true (.tmp 47) (.tmp 49))⟩,
    ⟨(some 46), none, .val (.mv (.tmp 50))⟩,
    ⟨(some 51), none, .val (.extract 0 (.tmp 46))⟩,
    ⟨(some 52), none, .val (.extract 1 (.tmp 46))⟩,
    ⟨(some 12), none, .alloc T.apiEvent [(.int 0), (.int 0), (.int 0), (.int 0), (.int 0), (.int 0), (.int 0), (.int 0), (.int 0)]⟩,
    ⟨none, none, .store 9 (.tmp 12) (.tmp 51)⟩,
    ⟨(some 13), none, .val (.mv (.tmp 52))⟩] [47, 48, 49, 50, 46, 51, 52])
  (.seq (.region [
    ⟨(some 53), none, .val (.mv (.tmp 13))⟩,
    ⟨(some 54), none, .val (.un .not (.tmp 53))⟩,
    ⟨(some 55), none, .val (.mv (.tmp 54))⟩,
    ⟨(some 56), (some (55, false)), .val (.fieldAddr 7 (.tmp 11))⟩,
    ⟨(some 57), (some (55, false)), .val (.load 1 false (.tmp 56))⟩,
    ⟨(some 58), (some (55, false)), .val (.fieldAddr 7 (.tmp 12))⟩,
    ⟨(some 59), (some (55, false)), .val (.load 1 false (.tmp 58))⟩,
    ⟨(some 60), (some (55, false)), .val (.bin .geq T.int (.tmp 57) (.tmp 59))⟩,
    ⟨(some 61), none, .val (.pick (.tmp 55) (.const (.bool true)) (.tmp 60))⟩] [53, 54, 55, 56, 57, 58, 59, 60])
  (.cond (.tmp 61)
  (.draw true [
    (.late, ⟨(some 62), none, .val (.mv (.tmp 9))⟩),
    (.early, ⟨(some 63), none, .val (.load 9 true (.tmp 11))⟩),
    (.late, ⟨(some 65), none, .val (.load 9 true (.tmp 11))⟩),
    (.hard, ⟨(some 64), none, .call (.const (.func (.func F.record_of) [] [])) [(.tmp 63)]⟩),
    (.hard, ⟨none, none, .mapSet (true, [.int, .int, .int, .int, .int]) (.tmp 62) (.tmp 64) (.tmp 65)⟩)] [62, 63, 64, 65])
  .skip))))))
  (.region [
    ⟨(some 66), none, .val (.bin .add T.int (.tmp 32) (.const (.int 1)))⟩,
    ⟨(some 32), none, .val (.mv (.tmp 66))⟩] [66])))))))
  (.seq (.seq (.region [
    ⟨(some 67), none, .val (.mv (.tmp 0))⟩,
    ⟨(some 68), none, .val (.len (.tmp 67))⟩,
    ⟨(some 69), none, .val (.mv (.const (.int 0)))⟩] [])
  (.block 2 (.loop (.seq (.region [
    ⟨(some 70), none, .val (.bin .lss T.int (.tmp 69) (.tmp 68))⟩] [])
  (.seq (.cond (.tmp 70)
  .skip
  (.exit 2))
  (.seq (.block 3 (.seq (.region [
    ⟨(some 71), none, .val (.indexAddr 9 (.tmp 67) (.tmp 69))⟩,
    ⟨(some 72), none, .val (.load 9 true (.tmp 71))⟩,
    ⟨(some 15), none, .alloc T.apiEvent [(.int 0), (.int 0), (.int 0), (.int 0), (.int 0), (.int 0), (.int 0), (.int 0), (.int 0)]⟩,
    ⟨none, none, .store 9 (.tmp 15) (.tmp 72)⟩] [71, 72])
  (.seq (.draw true [
    (.late, ⟨(some 73), none, .val (.mv (.tmp 9))⟩),
    (.early, ⟨(some 74), none, .val (.load 9 true (.tmp 15))⟩),
    (.late, ⟨(some 77), none, .val (.load 9 true (.tmp 15))⟩),
    (.hard, ⟨(some 75), none, .call (.const (.func (.func F.record_of) [] [])) [(.tmp 74)]⟩),
    (.late, ⟨(some 76), none, .val (.lookup (true, [.int, .int, .int, .int, .int]) (.agg [(.int 0), (.int 0), (.int 0), (.int 0), (.int 0), (.int 0), (.int 0), (.int 0), (.int 0)]) false (.tmp 73) (.tmp 75))⟩),
    (.late, ⟨(some 78), none, .val (.eqAgg false [.int, .int, .int, .int, .int, .int, .int, .int, .int] (.tmp 76) (.tmp 77))⟩)] [73, 74, 75, 76, 77])
  (.cond (.tmp 78)
  (.region [
    ⟨(some 79), none, .val (.mv (.tmp 6))⟩,
    ⟨(some 80), none, .val (.load 9 true (.tmp 15))⟩,
    ⟨(some 81), none, .val (.buildSlice T.apiEvent 1 [(.int 0), (.int 0), (.int 0), (.int 0), (.int 0), (.int 0), (.int 0), (.int 0), (.int 0)] [(0, 9, (.tmp 80))])⟩,
    ⟨(some 82), none, .append T.apiEvent 72 9 (.tmp 79) (.tmp 81)⟩,
    ⟨(some 6), none, .val (.mv (.tmp 82))⟩] [79, 80, 81, 82])
  .skip))))
  (.region [
    ⟨(some 83), none, .val (.bin .add T.int (.tmp 69) (.const (.int 1)))⟩,
    ⟨(some 69), none, .val (.mv (.tmp 83))⟩] [83])))))))
  (.seq (.region [
    ⟨(some 84), none, .val (.mv (.tmp 6))⟩,
    ⟨(some 6), none, .val (.mv (.tmp 84))⟩,
    ⟨(some 7), none, .val (.mv (.const (.int 0)))⟩] [84])
  .ret)))))))⟩
theorem H.record_Standing : Has P F.record_Standing C.record_Standing := ⟨Try.f16, Try.func16, by kernel_rfl, by kernel_rfl⟩

/-- podium/podiumref49.Standing -/
noncomputable def C.podiumref49_Standing : MFunc := ⟨53, 3, [.tmp 6, .tmp 7],
  (.seq (.region [
    ⟨(some 6), none, .val (.mv (.const .nil))⟩,
    ⟨(some 7), none, .val (.mv (.const (.int 0)))⟩] [])
  (.seq (.region [
    ⟨(some 11), none, .val (.mv (.tmp 0))⟩,
    ⟨(some 12), none, .call (.const (.func (.func F.podiumref49_Check) [] [])) [(.tmp 11)]⟩,
    ⟨(some 8), none, .val (.mv (.tmp 12))⟩] [11, 12])
  (.seq (.seq (.region [
    ⟨(some 13), none, .val (.mv (.tmp 8))⟩,
    ⟨(some 14), none, .val (.bin .neq T.apiErrno (.tmp 13) (.const (.int 0)))⟩] [13])
  (.cond (.tmp 14)
  (.seq (.region [
    ⟨(some 15), none, .val (.mv (.tmp 8))⟩,
    ⟨(some 6), none, .val (.mv (.const .nil))⟩,
    ⟨(some 7), none, .val (.mv (.tmp 15))⟩] [15])
  .ret)
  .skip))
  (.seq (.seq (.region [
    ⟨(some 16), none, .val (.mv (.tmp 1))⟩,
    ⟨(some 17), none, .val (.bin .lss T.int (.tmp 16) (.const (.int 0)))⟩,
    ⟨(some 18), none, .val (.mv (.tmp 17))⟩,
    ⟨(some 19), (some (18, false)), .val (.mv (.tmp 1))⟩,
    ⟨(some 20), (some (18, false)), .val (.bin .geq T.int (.tmp 19) (.const (.int 2097152)))⟩,
    ⟨(some 21), none, .val (.pick (.tmp 18) (.const (.bool true)) (.tmp 20))⟩,
    ⟨(some 22), none, .val (.mv (.tmp 21))⟩,
    ⟨(some 23), (some (22, false)), .val (.mv (.tmp 2))⟩,
    ⟨(some 24), (some (22, false)), .val (.bin .lss T.int (.tmp 23) (.const (.int 0)))⟩,
    ⟨(some 25), none, .val (.pick (.tmp 22) (.const (.bool true)) (.tmp 24))⟩,
    ⟨(some 26), none, .val (.mv (.tmp 25))⟩,
    ⟨(some 27), (some (26, false)), .val (.mv (.tmp 2))⟩,
    ⟨(some 28), (some (26, false)), .val (.bin .geq T.int (.tmp 27) (.const (.int 2097152)))⟩,
    ⟨(some 29), none, .val (.pick (.tmp 26) (.const (.bool true)) (.tmp 28))⟩] [16, 17, 18, 19, 20, 21, 22, 23, 24, 25, 26, 27, 28])
  (.cond (.tmp 29)
  (.seq (.region [
    ⟨(some 6), none, .val (.mv (.const .nil))⟩,
    ⟨(some 7), none, .val (.mv (.const (.int 1)))⟩] [])
  .ret)
  .skip))
  (.seq (.region [
    ⟨(some 30), none, .val (.buildSlice T.apiEvent 0 [] [])⟩,
    ⟨(some 9), none, .val (.mv (.tmp 30))⟩] [30])
  (.seq (.seq (.region [
    ⟨(some 10), none, .val (.mv (.const (.int 0)))⟩] [])
  (.block 0 (.loop (.seq (.seq (.region [
    ⟨(some 31), none, .val (.mv (.tmp 10))⟩,
    ⟨(some 32), none, .val (.mv (.tmp 0))⟩,
    ⟨(some 33), none, .val (.len (.tmp 32))⟩,
    ⟨(some 34), none, .val (.bin .lss T.int (.tmp 31) (.tmp 33))⟩] [31, 32, 33])
  (.cond (.tmp 34)
  .skip
  (.exit 0)))
  (.seq (.block 1 (.seq (.region [
    ⟨(some 37), none, .val (.mv (.tmp 0))⟩,
    ⟨(some 38), none, .val (.mv (.tmp 0))⟩,
    ⟨(some 39), none, .val (.mv (.tmp 10))⟩,
    ⟨(some 40), none, .val (.indexAddr 9 (.tmp 38) (.tmp 39))⟩,
    ⟨(some 41), none, .val (.load 9 true (.tmp 40))⟩,
    ⟨(some 42), none, .val (.mv (.tmp 1))⟩,
    ⟨(some 43), none, .val (.mv (.tmp 2))⟩,
    ⟨(some 44), none, .call (.const (.func (.func F.podiumref49_Stands) [] [])) [(.tmp 37), (.tmp 41), (.tmp 42), (.tmp 43)]⟩] [37, 38, 39, 40, 41, 42, 43])
  (.cond (.tmp 44)
  (.region [
    ⟨(some 45), none, .val (.mv (.tmp 9))⟩,
    ⟨(some 46), none, .val (.mv (.tmp 0))⟩,
    ⟨(some 47), none, .val (.mv (.tmp 10))⟩,
    ⟨(some 48), none, .val (.indexAddr 9 (.tmp 46) (.tmp 47))⟩,
    ⟨(some 49), none, .val (.load 9 true (.tmp 48))⟩,
    ⟨(some 50), none, .val (.buildSlice T.apiEvent 1 [(.int 0), (.int 0), (.int 0), (.int 0), (.int 0), (.int 0), (.int 0), (.int 0), (.int 0)] [(0, 9, (.tmp 49))])⟩,
    ⟨(some 51), none, .append T.apiEvent 72 9 (.tmp 45) (.tmp 50)⟩,
    ⟨(some 9), none, .val (.mv (.tmp 51))⟩] [45, 46, 47, 48, 49, 50, 51])
  .skip)))
  (.region [
    ⟨(some 35), none, .val (.mv (.tmp 10))⟩,
    ⟨(some 36), none, .val (.bin .add T.int (.tmp 35) (.const (.int 1)))⟩,
    ⟨(some 10), none, .val (.mv (.tmp 36))⟩] [35, 36]))))))
  (.seq (.region [
    ⟨(some 52), none, .val (.mv (.tmp 9))⟩,
    ⟨(some 6), none, .val (.mv (.tmp 52))⟩,
    ⟨(some 7), none, .val (.mv (.const (.int 0)))⟩] [52])
  .ret)))))))⟩
theorem H.podiumref49_Standing : Has P F.podiumref49_Standing C.podiumref49_Standing := ⟨Try.f17, Try.func17, by kernel_rfl, by kernel_rfl⟩

/-- podium/podiumref49.Counts -/
noncomputable def C.podiumref49_Counts : MFunc := ⟨17, 3, [.tmp 6],
  (.seq (.region [
    ⟨(some 3), none, .box T.apiEvent (.tmp 0)⟩,
    ⟨(some 6), none, .val (.mv (.const (.bool false)))⟩] [])
  (.seq (.region [
    ⟨(some 7), none, .val (.fieldAddr 7 (.tmp 3))⟩,
    ⟨(some 8), none, .val (.load 1 false (.tmp 7))⟩,
    ⟨(some 9), none, .val (.mv (.tmp 1))⟩,
    ⟨(some 10), none, .val (.bin .leq T.int (.tmp 8) (.tmp 9))⟩,
    ⟨(some 11), none, .val (.mv (.tmp 10))⟩,
    ⟨(some 12), (some (11, true)), .val (.fieldAddr 8 (.tmp 3))⟩,
    ⟨(some 13), (some (11, true)), .val (.load 1 false (.tmp 12))⟩,
    ⟨(some 14), (some (11, true)), .val (.mv (.tmp 2))⟩,
    ⟨(some 15), (some (11, true)), .val (.bin .leq T.int (.tmp 13) (.tmp 14))⟩,
    ⟨(some 16), none, .val (.pick (.tmp 11) (.tmp 15) (.const (.bool false)))⟩,
    ⟨(some 6), none, .val (.mv (.tmp 16))⟩] [7, 8, 9, 10, 11, 12, 13, 14, 15, 16])
  .ret))⟩
theorem H.podiumref49_Counts : Has P F.podiumref49_Counts C.podiumref49_Counts := ⟨Try.f18, Try.func18, by kernel_rfl, by kernel_rfl⟩

/-- podium/podiumref49.Slot -/
noncomputable def C.podiumref49_Slot : MFunc := ⟨38, 2, [.tmp 4],
  (.seq (.region [
    ⟨(some 2), none, .box T.apiEvent (.tmp 0)⟩,
    ⟨(some 3), none, .box T.apiEvent (.tmp 1)⟩,
    ⟨(some 4), none, .val (.mv (.const (.bool false)))⟩] [])
  (.seq (.region (
    ⟨(some 5), none, .val (.fieldAddr 1 (.tmp 2))⟩ ::
    ⟨(some 6), none, .val (.load 1 false (.tmp 5))⟩ ::
    ⟨(some 7), none, .val (.fieldAddr 1 (.tmp 3))⟩ ::
    ⟨(some 8), none, .val (.load 1 false (.tmp 7))⟩ ::
    ⟨(some 9), none, .val (.bin .eql T.int (.tmp 6) (.tmp 8))⟩ ::
    ⟨(some 10), none, .val (.mv (.tmp 9))⟩ ::
    ⟨(some 11), (some (10, true)), .val (.fieldAddr 2 (.tmp 2))⟩ ::
    ⟨(some 12), (some (10, true)), .val (.load 1 false (.tmp 11))⟩ ::
    ⟨(some 13), (some (10, true)), .val (.fieldAddr 2 (.tmp 3))⟩ ::
    ⟨(some 14), (some (10, true)), .val (.load 1 false (.tmp 13))⟩ ::
    ⟨(some 15), (some (10, true)), .val (.bin .eql T.int (.tmp 12) (.tmp 14))⟩ ::
    ⟨(some 16), none, .val (.pick (.tmp 10) (.tmp 15) (.const (.bool false)))⟩ ::
    ⟨(some 17), none, .val (.mv (.tmp 16))⟩ ::
    ⟨(some 18), (some (17, true)), .val (.fieldAddr 3 (.tmp 2))⟩ ::
    ⟨(some 19), (some (17, true)), .val (.load 1 false (.tmp 18))⟩ ::
    ⟨(some 20), (some (17, true)), .val (.fieldAddr 3 (.tmp 3))⟩ ::
    ⟨(some 21), (some (17, true)), .val (.load 1 false (.tmp 20))⟩ ::
    ⟨(some 22), (some (17, true)), .val (.bin .eql T.int (.tmp 19) (.tmp 21))⟩ ::
    ⟨(some 23), none, .val (.pick (.tmp 17) (.tmp 22) (.const (.bool false)))⟩ ::
    ⟨(some 24), none, .val (.mv (.tmp 23))⟩ ::
    ⟨(some 25), (some (24, true)), .val (.fieldAddr 4 (.tmp 2))⟩ ::
    ⟨(some 26), (some (24, true)), .val (.load 1 false (.tmp 25))⟩ ::
    ⟨(some 27), (some (24, true)), .val (.fieldAddr 4 (.tmp 3))⟩ ::
    ⟨(some 28), (some (24, true)), .val (.load 1 false (.tmp 27))⟩ ::
    ⟨(some 29), (some (24, true)), .val (.bin .eql T.int (.tmp 26) (.tmp 28))⟩ ::
    ⟨(some 30), none, .val (.pick (.tmp 24) (.tmp 29) (.const (.bool false)))⟩ ::
    ⟨(some 31), none, .val (.mv (.tmp 30))⟩ ::
    ⟨(some 32), (some (31, true)), .val (.fieldAddr 5 (.tmp 2))⟩ ::
    ⟨(some 33), (some (31, true)), .val (.load 1 false (.tmp 32))⟩ ::
    ⟨(some 34), (some (31, true)), .val (.fieldAddr 5 (.tmp 3))⟩ ::
    ⟨(some 35), (some (31, true)), .val (.load 1 false (.tmp 34))⟩ ::
    ⟨(some 36), (some (31, true)), .val (.bin .eql T.int (.tmp 33) (.tmp 35))⟩ ::
    ⟨(some 37), none, .val (.pick (.tmp 31) (.tmp 36) (.const (.bool false)))⟩ ::
    ⟨(some 4), none, .val (.mv (.tmp 37))⟩ :: []) (5 :: 6 :: 7 :: 8 :: 9 :: 10 :: 11 :: 12 :: 13 :: 14 :: 15 :: 16 :: 17 :: 18 :: 19 :: 20 :: 21 :: 22 :: 23 :: 24 :: 25 :: 26 :: 27 :: 28 :: 29 :: 30 :: 31 :: 32 :: 33 :: 34 :: 35 :: 36 :: 37 :: []))
  .ret))⟩
theorem H.podiumref49_Slot : Has P F.podiumref49_Slot C.podiumref49_Slot := ⟨Try.f19, Try.func19, by kernel_rfl, by kernel_rfl⟩

/-- podium/podiumref49.Later -/
noncomputable def C.podiumref49_Later : MFunc := ⟨24, 2, [.tmp 4],
  (.seq (.region [
    ⟨(some 2), none, .box T.apiEvent (.tmp 0)⟩,
    ⟨(some 3), none, .box T.apiEvent (.tmp 1)⟩,
    ⟨(some 4), none, .val (.mv (.const (.bool false)))⟩] [])
  (.seq (.region [
    ⟨(some 5), none, .val (.fieldAddr 7 (.tmp 2))⟩,
    ⟨(some 6), none, .val (.load 1 false (.tmp 5))⟩,
    ⟨(some 7), none, .val (.fieldAddr 7 (.tmp 3))⟩,
    ⟨(some 8), none, .val (.load 1 false (.tmp 7))⟩,
    ⟨(some 9), none, .val (.bin .gtr T.int (.tmp 6) (.tmp 8))⟩,
    ⟨(some 10), none, .val (.mv (.tmp 9))⟩,
    ⟨(some 11), (some (10, false)), .val (.fieldAddr 7 (.tmp 2))⟩,
    ⟨(some 12), (some (10, false)), .val (.load 1 false (.tmp 11))⟩,
    ⟨(some 13), (some (10, false)), .val (.fieldAddr 7 (.tmp 3))⟩,
    ⟨(some 14), (some (10, false)), .val (.load 1 false (.tmp 13))⟩,
    ⟨(some 15), (some (10, false)), .val (.bin .eql T.int (.tmp 12) (.tmp 14))⟩,
    ⟨(some 16), (some (10, false)), .val (.mv (.tmp 15))⟩,
    ⟨(some 17), (some (16, true)), .val (.fieldAddr 0 (.tmp 2))⟩,
    ⟨(some 18), (some (16, true)), .val (.load 1 false (.tmp 17))⟩,
    ⟨(some 19), (some (16, true)), .val (.fieldAddr 0 (.tmp 3))⟩,
    ⟨(some 20), (some (16, true)), .val (.load 1 false (.tmp 19))⟩,
    ⟨(some 21), (some (16, true)), .val (.bin .gtr T.int (.tmp 18) (.tmp 20))⟩,
    ⟨(some 22), (some (10, false)), .val (.pick (.tmp 16) (.tmp 21) (.const (.bool false)))⟩,
    ⟨(some 23), none, .val (.pick (.tmp 10) (.const (.bool true)) (.tmp 22))⟩,
    ⟨(some 4), none, .val (.mv (.tmp 23))⟩] [5, 6, 7, 8, 9, 10, 11, 12, 13, 14, 15, 16, 17, 18, 19, 20, 21, 22, 23])
  .ret))⟩
theorem H.podiumref49_Later : Has P F.podiumref49_Later C.podiumref49_Later := ⟨Try.f20, Try.func20, by kernel_rfl, by kernel_rfl⟩

/-- podium/podiumlaw49.mark -/
noncomputable def C.podiumlaw49_mark : MFunc := ⟨14, 4, [.cell 8 9 true],
  (.seq (.region [
    ⟨(some 8), none, .alloc T.apiEvent [(.int 0), (.int 0), (.int 0), (.int 0), (.int 0), (.int 0), (.int 0), (.int 0), (.int 0)]⟩] [])
  (.seq (.region [
    ⟨(some 9), none, .val (.mv (.tmp 0))⟩,
    ⟨(some 10), none, .val (.mv (.tmp 1))⟩,
    ⟨(some 11), none, .val (.mv (.tmp 2))⟩,
    ⟨(some 12), none, .val (.mv (.tmp 3))⟩,
    ⟨(some 13), none, .val (.build [(.int 0), (.int 0), (.int 0), (.int 0), (.int 0), (.int 0), (.int 0), (.int 0), (.int 0)] [(0, 1, (.tmp 9)), (1, 1, (.const (.int 1))), (2, 1, (.const (.int 1))), (3, 1, (.const (.int 2))), (4, 1, (.const (.int 1))), (6, 1, (.tmp 10)), (7, 1, (.tmp 11)), (8, 1, (.tmp 12))])⟩,
    ⟨none, none, .store 9 (.tmp 8) (.tmp 13)⟩] [9, 10, 11, 12, 13])
  .ret))⟩
theorem H.podiumlaw49_mark : Has P F.podiumlaw49_mark C.podiumlaw49_mark := ⟨Try.f21, Try.func21, by kernel_rfl, by kernel_rfl⟩

/-- podium/record.right -/
noncomputable def C.record_right : MFunc := ⟨50, 2, [.tmp 4],
  (.seq (.region [
    ⟨(some 2), none, .box T.apiEvent (.tmp 0)⟩,
    ⟨(some 4), none, .val (.mv (.const (.bool false)))⟩] [])
  (.seq (.region [
    ⟨(some 9), none, .val (.fieldAddr 0 (.tmp 2))⟩,
    ⟨(some 10), none, .val (.load 1 false (.tmp 9))⟩,
    ⟨(some 11), none, .call (.const (.func (.func F.record_between) [] [])) [(.tmp 10), (.const (.int 0)), (.const (.int 1048576))]⟩,
    ⟨(some 12), none, .val (.mv (.tmp 11))⟩,
    ⟨(some 13), (some (12, true)), .val (.fieldAddr 2 (.tmp 2))⟩,
    ⟨(some 14), (some (12, true)), .val (.load 1 false (.tmp 13))⟩,
    ⟨(some 15), (some (12, true)), .call (.const (.func (.func F.record_between) [] [])) [(.tmp 14), (.const (.int 0)), (.const (.int 7))]⟩,
    ⟨(some 16), none, .val (.pick (.tmp 12) (.tmp 15) (.const (.bool false)))⟩,
    ⟨(some 17), none, .val (.mv (.tmp 16))⟩,
    ⟨(some 18), (some (17, true)), .val (.fieldAddr 3 (.tmp 2))⟩,
    ⟨(some 19), (some (17, true)), .val (.load 1 false (.tmp 18))⟩,
    ⟨(some 20), (some (17, true)), .call (.const (.func (.func F.record_between) [] [])) [(.tmp 19), (.const (.int 0)), (.const (.int 4095))]⟩,
    ⟨(some 21), none, .val (.pick (.tmp 17) (.tmp 20) (.const (.bool false)))⟩,
    ⟨(some 5), none, .val (.mv (.tmp 21))⟩] [9, 10, 11, 12, 13, 14, 15, 16, 17, 18, 19, 20, 21])
  (.seq (.region [
    ⟨(some 22), none, .val (.fieldAddr 7 (.tmp 2))⟩,
    ⟨(some 23), none, .val (.load 1 false (.tmp 22))⟩,
    ⟨(some 24), none, .call (.const (.func (.func F.record_between) [] [])) [(.tmp 23), (.const (.int 0)), (.const (.int 2097151))]⟩,
    ⟨(some 25), none, .val (.mv (.tmp 24))⟩,
    ⟨(some 26), (some (25, true)), .val (.fieldAddr 8 (.tmp 2))⟩,
    ⟨(some 27), (some (25, true)), .val (.load 1 false (.tmp 26))⟩,
    ⟨(some 28), (some (25, true)), .call (.const (.func (.func F.record_between) [] [])) [(.tmp 27), (.const (.int 0)), (.const (.int 2097151))]⟩,
    ⟨(some 29), none, .val (.pick (.tmp 25) (.tmp 28) (.const (.bool false)))⟩,
    ⟨(some 6), none, .val (.mv (.tmp 29))⟩] [22, 23, 24, 25, 26, 27, 28, 29])
  (.seq (.region [
    ⟨(some 31), none, .val (.mv (.tmp 1))⟩,
    ⟨(some 32), none, .val (.fieldAddr 1 (.tmp 2))⟩,
    ⟨(some 33), none, .val (.load 1 false (.tmp 32))⟩,
    ⟨(some 34), none, .val (.lookup (false, [.int]) (.agg [(.val .nilFunc)]) true (.tmp 31) (.tmp 33))⟩,
    ⟨(some 30), none, .val (.mv (.tmp 34))⟩,
    ⟨(some 35), none, .val (.extract 0 (.tmp 30))⟩,
    ⟨(some 36), none, .val (.extract 1 (.tmp 30))⟩,
    ⟨(some 7), none, .alloc T.recordkind [(.val .nilFunc)]⟩,
    ⟨none, none, .store 1 (.tmp 7) (.tmp 35)⟩,
    ⟨(some 8), none, .val (.mv (.tmp 36))⟩] [31, 32, 33, 34, 30, 35, 36])
  (.seq (.region [
    ⟨(some 37), none, .val (.mv (.tmp 5))⟩,
    ⟨(some 38), none, .val (.mv (.tmp 37))⟩,
    ⟨(some 39), (some (38, true)), .val (.mv (.tmp 6))⟩,
    ⟨(some 40), none, .val (.pick (.tmp 38) (.tmp 39) (.const (.bool false)))⟩,
    ⟨(some 41), none, .val (.mv (.tmp 40))⟩,
    ⟨(some 42), (some (41, true)), .val (.mv (.tmp 8))⟩,
    ⟨(some 43), none, .val (.pick (.tmp 41) (.tmp 42) (.const (.bool false)))⟩,
    ⟨(some 44), none, .val (.mv (.tmp 43))⟩,
    ⟨(some 45), (some (44, true)), .val (.fieldAddr 0 (.tmp 7))⟩,
    ⟨(some 46), (some (44, true)), .val (.load 1 false (.tmp 45))⟩,
    ⟨(some 47), (some (44, true)), .val (.load 9 true (.tmp 2))⟩,
    ⟨(some 48), (some (44, true)), .call (.tmp 46) [(.tmp 47)]⟩,
    ⟨(some 49), none, .val (.pick (.tmp 44) (.tmp 48) (.const (.bool false)))⟩,
    ⟨(some 4), none, .val (.mv (.tmp 49))⟩] [37, 38, 39, 40, 41, 42, 43, 44, 45, 46, 47, 48, 49])
  .ret)))))⟩
theorem H.record_right : Has P F.record_right C.record_right := ⟨Try.f22, Try.func22, by kernel_rfl, by kernel_rfl⟩

/-- podium/record.kinds -/
noncomputable def C.record_kinds : MFunc := ⟨12, 0, [.tmp 0],
  (.seq (.region [
    ⟨(some 0), none, .val (.mv (.const (.val (.map none))))⟩] [])
  (.seq (.region [
    ⟨(some 1), none, .alloc T.funcapiEventbool [(.val .nilFunc)]⟩,
    ⟨none, none, .store 1 (.tmp 1) (.const (.func (.func F.record_kinds_1) [] []))⟩] [])
  (.seq (.region [
    ⟨(some 3), none, .val (.mkFunc (.func F.record_kinds_2) [] [(.tmp 1)])⟩,
    ⟨(some 4), none, .val (.build [(.val .nilFunc)] [(0, 1, (.tmp 3))])⟩,
    ⟨(some 2), none, .alloc T.recordkind [(.val .nilFunc)]⟩,
    ⟨none, none, .store 1 (.tmp 2) (.tmp 4)⟩] [3, 4])
  (.seq (.region [
    ⟨(some 5), none, .mkMap⟩,
    ⟨(some 6), none, .val (.mkFunc (.func F.record_kinds_3) [] [(.tmp 1)])⟩,
    ⟨(some 7), none, .val (.build [(.val .nilFunc)] [(0, 1, (.tmp 6))])⟩,
    ⟨none, none, .mapSet (false, [.int]) (.tmp 5) (.const (.int 1)) (.tmp 7)⟩,
    ⟨(some 8), none, .val (.load 1 true (.tmp 2))⟩,
    ⟨none, none, .mapSet (false, [.int]) (.tmp 5) (.const (.int 2)) (.tmp 8)⟩,
    ⟨(some 9), none, .val (.load 1 true (.tmp 2))⟩,
    ⟨none, none, .mapSet (false, [.int]) (.tmp 5) (.const (.int 3)) (.tmp 9)⟩,
    ⟨(some 10), none, .val (.build [(.val .nilFunc)] [(0, 1, (.const (.func (.func F.record_kinds_4) [] [])))])⟩,
    ⟨none, none, .mapSet (false, [.int]) (.tmp 5) (.const (.int 4)) (.tmp 10)⟩,
    ⟨(some 11), none, .val (.mv (.tmp 5))⟩,
    ⟨(some 0), none, .val (.mv (.tmp 11))⟩] [5, 6, 7, 8, 9, 10, 11])
  .ret))))⟩
theorem H.record_kinds : Has P F.record_kinds C.record_kinds := ⟨Try.f23, Try.func23, by kernel_rfl, by kernel_rfl⟩

/-- slices.BinarySearchFunc[[]podium/api.Event,podium/api.Event,struct{}] -/
noncomputable def C.slices_BinarySearchFunc__LapiEvent_apiEvent_struct : MFunc := ⟨49, 3, [.tmp 6, .tmp 7],
  (.seq (.region [
    ⟨(some 4), none, .box T.struct (.tmp 1)⟩,
    ⟨(some 6), none, .val (.mv (.const (.int 0)))⟩,
    ⟨(some 7), none, .val (.mv (.const (.bool false)))⟩] [])
  (.seq (.region [
    ⟨(some 12), none, .val (.mv (.tmp 0))⟩,
    ⟨(some 13), none, .val (.len (.tmp 12))⟩,
    ⟨(some 8), none, .val (.mv (.tmp 13))⟩] [12, 13])
  (.seq (.region [
    ⟨(some 14), none, .val (.mv (.tmp 8))⟩,
    ⟨(some 9), none, .val (.mv (.const (.int 0)))⟩,
    ⟨(some 10), none, .val (.mv (.tmp 14))⟩] [14])
  (.seq (.block 0 (.loop (.seq (.seq (.region [
    ⟨(some 15), none, .val (.mv (.tmp 9))⟩,
    ⟨(some 16), none, .val (.mv (.tmp 10))⟩,
    ⟨(some 17), none, .val (.bin .lss T.int (.tmp 15) (.tmp 16))⟩] [15, 16])
  (.cond (.tmp 17)
  .skip
  (.exit 0)))
  (.block 1 (.seq (.region [
    ⟨(some 18), none, .val (.mv (.tmp 9))⟩,
    ⟨(some 19), none, .val (.mv (.tmp 10))⟩,
    ⟨(some 20), none, .val (.bin .add T.int (.tmp 18) (.tmp 19))⟩,
    ⟨(some 21), none, .val (.toInt .u64 (.tmp 20))⟩,
    ⟨(some 22), none, .val (.bin .shr T.uint (.tmp 21) (.const (.val (.int .u64 1))))⟩,
    ⟨(some 23), none, .val (.toInt .i64 (.tmp 22))⟩,
    ⟨(some 11), none, .val (.mv (.tmp 23))⟩] [18, 19, 20, 21, 22, 23])
  (.seq (.draw true [
    (.early, ⟨(some 24), none, .val (.mv (.tmp 2))⟩),
    (.early, ⟨(some 25), none, .val (.mv (.tmp 0))⟩),
    (.early, ⟨(some 26), none, .val (.mv (.tmp 11))⟩),
    (.early, ⟨(some 27), none, .val (.indexAddr 9 (.tmp 25) (.tmp 26))⟩),
    (.early, ⟨(some 28), none, .val (.load 9 true (.tmp 27))⟩),
    (.early, ⟨(some 29), none, .val (.load 0 true (.tmp 4))⟩),
    (.hard, ⟨(some 30), none, .call (.tmp 24) [(.tmp 28), (.tmp 29)]⟩),
    (.late, ⟨(some 31), none, .val (.bin .lss T.int (.tmp 30) (.const (.int 0)))⟩)] [24, 25, 26, 27, 28, 29, 30])
  (.cond (.tmp 31)
  (.region [
    ⟨(some 32), none, .val (.mv (.tmp 11))⟩,
    ⟨(some 33), none, .val (.bin .add T.int (.tmp 32) (.const (.int 1)))⟩,
    ⟨(some 9), none, .val (.mv (.tmp 33))⟩] [32, 33])
  (.region [
    ⟨(some 34), none, .val (.mv (.tmp 11))⟩,
    ⟨(some 10), none, .val (.mv (.tmp 34))⟩] [34]))))))))
  (.seq (.draw true [
    (.late, ⟨(some 35), none, .val (.mv (.tmp 9))⟩),
    (.early, ⟨(some 36), none, .val (.mv (.tmp 9))⟩),
    (.early, ⟨(some 37), none, .val (.mv (.tmp 8))⟩),
    (.early, ⟨(some 38), none, .val (.bin .lss T.int (.tmp 36) (.tmp 37))⟩),
    (.early, ⟨(some 39), none, .val (.mv (.tmp 38))⟩),
    (.early, ⟨(some 40), (some (39, true)), .val (.mv (.tmp 2))⟩),
    (.early, ⟨(some 41), (some (39, true)), .val (.mv (.tmp 0))⟩),
    (.early, ⟨(some 42), (some (39, true)), .val (.mv (.tmp 9))⟩),
    (.early, ⟨(some 43), (some (39, true)), .val (.indexAddr 9 (.tmp 41) (.tmp 42))⟩),
    (.early, ⟨(some 44), (some (39, true)), .val (.load 9 true (.tmp 43))⟩),
    (.early, ⟨(some 45), (some (39, true)), .val (.load 0 true (.tmp 4))⟩),
    (.hard, ⟨(some 46), (some (39, true)), .call (.tmp 40) [(.tmp 44), (.tmp 45)]⟩),
    (.late, ⟨(some 47), (some (39, true)), .val (.bin .eql T.int (.tmp 46) (.const (.int 0)))⟩),
    (.late, ⟨(some 48), none, .val (.pick (.tmp 39) (.tmp 47) (.const (.bool false)))⟩),
    (.late, ⟨(some 6), none, .val (.mv (.tmp 35))⟩),
    (.late, ⟨(some 7), none, .val (.mv (.tmp 48))⟩)] [35, 36, 37, 38, 39, 40, 41, 42, 43, 44, 45, 46, 47, 48])
  .ret)))))⟩
theorem H.slices_BinarySearchFunc__LapiEvent_apiEvent_struct : Has P F.slices_BinarySearchFunc__LapiEvent_apiEvent_struct C.slices_BinarySearchFunc__LapiEvent_apiEvent_struct := ⟨Try.f24, Try.func24, by kernel_rfl, by kernel_rfl⟩

/-- (podium/record.number).compare -/
noncomputable def C.record_number_compare : MFunc := ⟨11, 3, [.tmp 6],
  (.seq (.region [
    ⟨(some 4), none, .box T.apiEvent (.tmp 1)⟩,
    ⟨(some 5), none, .box T.struct (.tmp 2)⟩,
    ⟨(some 6), none, .val (.mv (.const (.int 0)))⟩] [5])
  (.seq (.region [
    ⟨(some 7), none, .val (.fieldAddr 0 (.tmp 4))⟩,
    ⟨(some 8), none, .val (.load 1 false (.tmp 7))⟩,
    ⟨(some 9), none, .val (.mv (.tmp 0))⟩,
    ⟨(some 10), none, .call (.const (.func (.func F.cmp_Compare__int) [] [])) [(.tmp 8), (.tmp 9)]⟩,
    ⟨(some 6), none, .val (.mv (.tmp 10))⟩] [7, 8, 9, 10])
  .ret))⟩
theorem H.record_number_compare : Has P F.record_number_compare C.record_number_compare := ⟨Try.f25, Try.func25, by kernel_rfl, by kernel_rfl⟩

/-- slices.Insert[[]podium/api.Event,podium/api.Event] -/
noncomputable def C.slices_Insert__LapiEvent_apiEvent : MFunc := ⟨95, 3, [.tmp 6],
  (.seq (.region [
    ⟨(some 6), none, .val (.mv (.const .nil))⟩] [])
  (.seq (.region [
    ⟨(some 10), none, .val (.mv (.tmp 0))⟩,
    ⟨(some 11), none, .val (.mv (.tmp 1))⟩,
    ⟨(some 12), none, .val (.slice 9 (.tmp 10) (some (.tmp 11)) none none)⟩] [10, 11, 12])
  (.seq (.region [
    ⟨(some 13), none, .val (.mv (.tmp 2))⟩,
    ⟨(some 14), none, .val (.len (.tmp 13))⟩,
    ⟨(some 7), none, .val (.mv (.tmp 14))⟩] [13, 14])
  (.seq (.seq (.region [
    ⟨(some 15), none, .val (.mv (.tmp 7))⟩,
    ⟨(some 16), none, .val (.bin .eql T.int (.tmp 15) (.const (.int 0)))⟩] [15])
  (.cond (.tmp 16)
  (.seq (.region [
    ⟨(some 17), none, .val (.mv (.tmp 0))⟩,
    ⟨(some 6), none, .val (.mv (.tmp 17))⟩] [17])
  .ret)
  .skip))
  (.seq (.region [
    ⟨(some 18), none, .val (.mv (.tmp 0))⟩,
    ⟨(some 19), none, .val (.len (.tmp 18))⟩,
    ⟨(some 8), none, .val (.mv (.tmp 19))⟩] [18, 19])
  (.seq (.seq (.region [
    ⟨(some 20), none, .val (.mv (.tmp 1))⟩,
    ⟨(some 21), none, .val (.mv (.tmp 8))⟩,
    ⟨(some 22), none, .val (.bin .eql T.int (.tmp 20) (.tmp 21))⟩] [20, 21])
  (.cond (.tmp 22)
  (.seq (.region [
    ⟨(some 23), none, .val (.mv (.tmp 0))⟩,
    ⟨(some 24), none, .val (.mv (.tmp 2))⟩,
    ⟨(some 25), none, .append T.apiEvent 72 9 (.tmp 23) (.tmp 24)⟩,
    ⟨(some 6), none, .val (.mv (.tmp 25))⟩] [23, 24, 25])
  .ret)
  .skip))
  (.seq (.seq (.region [
    ⟨(some 26), none, .val (.mv (.tmp 8))⟩,
    ⟨(some 27), none, .val (.mv (.tmp 7))⟩,
    ⟨(some 28), none, .val (.bin .add T.int (.tmp 26) (.tmp 27))⟩,
    ⟨(some 29), none, .val (.mv (.tmp 0))⟩,
    ⟨(some 30), none, .val (.cap (.tmp 29))⟩,
    ⟨(some 31), none, .val (.bin .gtr T.int (.tmp 28) (.tmp 30))⟩] [26, 27, 28, 29, 30])
  (.cond (.tmp 31)
  (.seq (.region [
    ⟨(some 32), none, .val (.mv (.tmp 0))⟩,
    ⟨(some 33), none, .val (.mv (.tmp 1))⟩,
    ⟨(some 34), none, .val (.slice 9 (.tmp 32) none (some (.tmp 33)) none)⟩,
    ⟨(some 35), none, .val (.mv (.tmp 8))⟩,
    ⟨(some 36), none, .val (.mv (.tmp 7))⟩,
    ⟨(some 37), none, .val (.bin .add T.int (.tmp 35) (.tmp 36))⟩,
    ⟨(some 38), none, .val (.mv (.tmp 1))⟩,
    ⟨(some 39), none, .val (.bin .sub T.int (.tmp 37) (.tmp 38))⟩,
    ⟨(some 40), none, .appendZ T.apiEvent 72 9 (.tmp 34) (.tmp 39)⟩,
    ⟨(some 9), none, .val (.mv (.tmp 40))⟩] [32, 33, 34, 35, 36, 37, 38, 39, 40])
  (.seq (.region [
    ⟨(some 41), none, .val (.mv (.tmp 9))⟩,
    ⟨(some 42), none, .val (.mv (.tmp 1))⟩,
    ⟨(some 43), none, .val (.slice 9 (.tmp 41) (some (.tmp 42)) none none)⟩,
    ⟨(some 44), none, .val (.mv (.tmp 2))⟩,
    ⟨(some 45), none, .copy 9 (.tmp 43) (.tmp 44)⟩] [41, 42, 43, 44, 45])
  (.seq (.draw false [
    (.early, ⟨(some 46), none, .val (.mv (.tmp 9))⟩),
    (.early, ⟨(some 47), none, .val (.mv (.tmp 1))⟩),
    (.early, ⟨(some 48), none, .val (.mv (.tmp 7))⟩),
    (.early, ⟨(some 49), none, .val (.bin .add T.int (.tmp 47) (.tmp 48))⟩),
    (.early, ⟨(some 50), none, .val (.slice 9 (.tmp 46) (some (.tmp 49)) none none)⟩),
    (.early, ⟨(some 51), none, .val (.mv (.tmp 0))⟩),
    (.early, ⟨(some 52), none, .val (.mv (.tmp 1))⟩),
    (.early, ⟨(some 53), none, .val (.slice 9 (.tmp 51) (some (.tmp 52)) none none)⟩),
    (.hard, ⟨(some 54), none, .copy 9 (.tmp 50) (.tmp 53)⟩)] [46, 47, 48, 49, 50, 51, 52, 53, 54])
  (.seq (.region [
    ⟨(some 55), none, .val (.mv (.tmp 9))⟩,
    ⟨(some 6), none, .val (.mv (.tmp 55))⟩] [55])
  .ret))))
  .skip))
  (.seq (.region [
    ⟨(some 56), none, .val (.mv (.tmp 0))⟩,
    ⟨(some 57), none, .val (.mv (.tmp 8))⟩,
    ⟨(some 58), none, .val (.mv (.tmp 7))⟩,
    ⟨(some 59), none, .val (.bin .add T.int (.tmp 57) (.tmp 58))⟩,
    ⟨(some 60), none, .val (.slice 9 (.tmp 56) none (some (.tmp 59)) none)⟩,
    ⟨(some 0), none, .val (.mv (.tmp 60))⟩] [56, 57, 58, 59, 60])
  (.seq (.seq (.region [
    ⟨(some 61), none, .val (.mv (.tmp 2))⟩,
    ⟨(some 62), none, .val (.mv (.tmp 0))⟩,
    ⟨(some 63), none, .val (.mv (.tmp 1))⟩,
    ⟨(some 64), none, .val (.mv (.tmp 7))⟩,
    ⟨(some 65), none, .val (.bin .add T.int (.tmp 63) (.tmp 64))⟩,
    ⟨(some 66), none, .val (.slice 9 (.tmp 62) (some (.tmp 65)) none none)⟩,
    ⟨(some 67), none, .call (.const (.func (.func F.slices_overlaps__apiEvent) [] [])) [(.tmp 61), (.tmp 66)]⟩,
    ⟨(some 68), none, .val (.un .not (.tmp 67))⟩] [61, 62, 63, 64, 65, 66, 67])
  (.cond (.tmp 68)
  (.seq (.draw false [
    (.early, ⟨(some 69), none, .val (.mv (.tmp 0))⟩),
    (.early, ⟨(some 70), none, .val (.mv (.tmp 1))⟩),
    (.early, ⟨(some 71), none, .val (.mv (.tmp 7))⟩),
    (.early, ⟨(some 72), none, .val (.bin .add T.int (.tmp 70) (.tmp 71))⟩),
    (.early, ⟨(some 73), none, .val (.slice 9 (.tmp 69) (some (.tmp 72)) none none)⟩),
    (.early, ⟨(some 74), none, .val (.mv (.tmp 0))⟩),
    (.early, ⟨(some 75), none, .val (.mv (.tmp 1))⟩),
    (.early, ⟨(some 76), none, .val (.slice 9 (.tmp 74) (some (.tmp 75)) none none)⟩),
    (.hard, ⟨(some 77), none, .copy 9 (.tmp 73) (.tmp 76)⟩)] [69, 70, 71, 72, 73, 74, 75, 76, 77])
  (.seq (.region [
    ⟨(some 78), none, .val (.mv (.tmp 0))⟩,
    ⟨(some 79), none, .val (.mv (.tmp 1))⟩,
    ⟨(some 80), none, .val (.slice 9 (.tmp 78) (some (.tmp 79)) none none)⟩,
    ⟨(some 81), none, .val (.mv (.tmp 2))⟩,
    ⟨(some 82), none, .copy 9 (.tmp 80) (.tmp 81)⟩] [78, 79, 80, 81, 82])
  (.seq (.region [
    ⟨(some 83), none, .val (.mv (.tmp 0))⟩,
    ⟨(some 6), none, .val (.mv (.tmp 83))⟩] [83])
  .ret)))
  .skip))
  (.seq (.region [
    ⟨(some 84), none, .val (.mv (.tmp 0))⟩,
    ⟨(some 85), none, .val (.mv (.tmp 8))⟩,
    ⟨(some 86), none, .val (.slice 9 (.tmp 84) (some (.tmp 85)) none none)⟩,
    ⟨(some 87), none, .val (.mv (.tmp 2))⟩,
    ⟨(some 88), none, .copy 9 (.tmp 86) (.tmp 87)⟩] [84, 85, 86, 87, 88])
  (.seq (.region [
    ⟨(some 89), none, .val (.mv (.tmp 0))⟩,
    ⟨(some 90), none, .val (.mv (.tmp 1))⟩,
    ⟨(some 91), none, .val (.slice 9 (.tmp 89) (some (.tmp 90)) none none)⟩,
    ⟨(some 92), none, .val (.mv (.tmp 7))⟩,
    ⟨(some 93), none, .call (.const (.func (.func F.slices_rotateRight__apiEvent) [] [])) [(.tmp 91), (.tmp 92)]⟩] [89, 90, 91, 92, 93])
  (.seq (.region [
    ⟨(some 94), none, .val (.mv (.tmp 0))⟩,
    ⟨(some 6), none, .val (.mv (.tmp 94))⟩] [94])
  .ret))))))))))))⟩
theorem H.slices_Insert__LapiEvent_apiEvent : Has P F.slices_Insert__LapiEvent_apiEvent C.slices_Insert__LapiEvent_apiEvent := ⟨Try.f26, Try.func26, by kernel_rfl, by kernel_rfl⟩

/-- slices.Clone[[]podium/api.Event,podium/api.Event] -/
noncomputable def C.slices_Clone__LapiEvent_apiEvent : MFunc := ⟨8, 1, [.tmp 2],
  (.seq (.region [
    ⟨(some 2), none, .val (.mv (.const .nil))⟩] [])
  (.seq (.seq (.region [
    ⟨(some 3), none, .val (.mv (.tmp 0))⟩,
    ⟨(some 4), none, .eqNil false .slice (.tmp 3)⟩] [3])
  (.cond (.tmp 4)
  (.seq (.region [
    ⟨(some 2), none, .val (.mv (.const .nil))⟩] [])
  .ret)
  .skip))
  (.seq (.region [
    ⟨(some 5), none, .val (.buildSlice T.apiEvent 0 [] [])⟩,
    ⟨(some 6), none, .val (.mv (.tmp 0))⟩,
    ⟨(some 7), none, .append T.apiEvent 72 9 (.tmp 5) (.tmp 6)⟩,
    ⟨(some 2), none, .val (.mv (.tmp 7))⟩] [5, 6, 7])
  .ret)))⟩
theorem H.slices_Clone__LapiEvent_apiEvent : Has P F.slices_Clone__LapiEvent_apiEvent C.slices_Clone__LapiEvent_apiEvent := ⟨Try.f27, Try.func27, by kernel_rfl, by kernel_rfl⟩

/-- podium/podiumref49.Right -/
noncomputable def C.podiumref49_Right : MFunc := ⟨79, 1, [.tmp 2],
  (.seq (.region [
    ⟨(some 1), none, .box T.apiEvent (.tmp 0)⟩,
    ⟨(some 2), none, .val (.mv (.const (.bool false)))⟩] [])
  (.seq (.seq (.region [
    ⟨(some 3), none, .val (.fieldAddr 0 (.tmp 1))⟩,
    ⟨(some 4), none, .val (.load 1 false (.tmp 3))⟩,
    ⟨(some 5), none, .call (.const (.func (.func F.podiumref49_in) [] [])) [(.tmp 4), (.const (.int 0)), (.const (.int 1048576))]⟩,
    ⟨(some 6), none, .val (.un .not (.tmp 5))⟩,
    ⟨(some 7), none, .val (.mv (.tmp 6))⟩,
    ⟨(some 8), (some (7, false)), .val (.fieldAddr 2 (.tmp 1))⟩,
    ⟨(some 9), (some (7, false)), .val (.load 1 false (.tmp 8))⟩,
    ⟨(some 10), (some (7, false)), .call (.const (.func (.func F.podiumref49_in) [] [])) [(.tmp 9), (.const (.int 0)), (.const (.int 7))]⟩,
    ⟨(some 11), (some (7, false)), .val (.un .not (.tmp 10))⟩,
    ⟨(some 12), none, .val (.pick (.tmp 7) (.const (.bool true)) (.tmp 11))⟩,
    ⟨(some 13), none, .val (.mv (.tmp 12))⟩,
    ⟨(some 14), (some (13, false)), .val (.fieldAddr 3 (.tmp 1))⟩,
    ⟨(some 15), (some (13, false)), .val (.load 1 false (.tmp 14))⟩,
    ⟨(some 16), (some (13, false)), .call (.const (.func (.func F.podiumref49_in) [] [])) [(.tmp 15), (.const (.int 0)), (.const (.int 4095))]⟩,
    ⟨(some 17), (some (13, false)), .val (.un .not (.tmp 16))⟩,
    ⟨(some 18), none, .val (.pick (.tmp 13) (.const (.bool true)) (.tmp 17))⟩,
    ⟨(some 19), none, .val (.mv (.tmp 18))⟩,
    ⟨(some 20), (some (19, false)), .val (.fieldAddr 7 (.tmp 1))⟩,
    ⟨(some 21), (some (19, false)), .val (.load 1 false (.tmp 20))⟩,
    ⟨(some 22), (some (19, false)), .call (.const (.func (.func F.podiumref49_in) [] [])) [(.tmp 21), (.const (.int 0)), (.const (.int 2097151))]⟩,
    ⟨(some 23), (some (19, false)), .val (.un .not (.tmp 22))⟩,
    ⟨(some 24), none, .val (.pick (.tmp 19) (.const (.bool true)) (.tmp 23))⟩,
    ⟨(some 25), none, .val (.mv (.tmp 24))⟩,
    ⟨(some 26), (some (25, false)), .val (.fieldAddr 8 (.tmp 1))⟩,
    ⟨(some 27), (some (25, false)), .val (.load 1 false (.tmp 26))⟩,
    ⟨(some 28), (some (25, false)), .call (.const (.func (.func F.podiumref49_in) [] [])) [(.tmp 27), (.const (.int 0)), (.const (.int 2097151))]⟩,
    ⟨(some 29), (some (25, false)), .val (.un .not (.tmp 28))⟩,
    ⟨(some 30), none, .val (.pick (.tmp 25) (.const (.bool true)) (.tmp 29))⟩] [3, 4, 5, 6, 7, 8, 9, 10, 11, 12, 13, 14, 15, 16, 17, 18, 19, 20, 21, 22, 23, 24, 25, 26, 27, 28, 29])
  (.cond (.tmp 30)
  (.seq (.region [
    ⟨(some 2), none, .val (.mv (.const (.bool false)))⟩] [])
  .ret)
  .skip))
  (.seq (.seq (.region [
    ⟨(some 31), none, .val (.fieldAddr 1 (.tmp 1))⟩,
    ⟨(some 32), none, .val (.load 1 false (.tmp 31))⟩] [31])
  (.block 0 (.seq (.region [
    ⟨(some 34), none, .val (.bin .eql T.int (.tmp 32) (.const (.int 1)))⟩,
    ⟨(some 33), none, .val (.mv (.tmp 34))⟩] [34])
  (.cond (.tmp 33)
  (.seq (.region [
    ⟨(some 35), none, .val (.fieldAddr 4 (.tmp 1))⟩,
    ⟨(some 36), none, .val (.load 1 false (.tmp 35))⟩,
    ⟨(some 37), none, .call (.const (.func (.func F.podiumref49_in) [] [])) [(.tmp 36), (.const (.int 0)), (.const (.int 255))]⟩,
    ⟨(some 38), none, .val (.mv (.tmp 37))⟩,
    ⟨(some 39), (some (38, true)), .val (.fieldAddr 5 (.tmp 1))⟩,
    ⟨(some 40), (some (38, true)), .val (.load 1 false (.tmp 39))⟩,
    ⟨(some 41), (some (38, true)), .call (.const (.func (.func F.podiumref49_in) [] [])) [(.tmp 40), (.const (.int 0)), (.const (.int 63))]⟩,
    ⟨(some 42), none, .val (.pick (.tmp 38) (.tmp 41) (.const (.bool false)))⟩,
    ⟨(some 43), none, .val (.mv (.tmp 42))⟩,
    ⟨(some 44), (some (43, true)), .val (.fieldAddr 6 (.tmp 1))⟩,
    ⟨(some 45), (some (43, true)), .val (.load 1 false (.tmp 44))⟩,
    ⟨(some 46), (some (43, true)), .call (.const (.func (.func F.podiumref49_in) [] [])) [(.tmp 45), (.const (.int 0)), (.const (.int 1000))]⟩,
    ⟨(some 47), none, .val (.pick (.tmp 43) (.tmp 46) (.const (.bool false)))⟩,
    ⟨(some 2), none, .val (.mv (.tmp 47))⟩] [35, 36, 37, 38, 39, 40, 41, 42, 43, 44, 45, 46, 47])
  .ret)
  (.seq (.seq (.region [
    ⟨(some 49), none, .val (.bin .eql T.int (.tmp 32) (.const (.int 2)))⟩,
    ⟨(some 48), none, .val (.mv (.tmp 49))⟩] [49])
  (.cond (.tmp 48)
  .skip
  (.region [
    ⟨(some 50), none, .val (.bin .eql T.int (.tmp 32) (.const (.int 3)))⟩,
    ⟨(some 48), none, .val (.mv (.tmp 50))⟩] [50])))
  (.cond (.tmp 48)
  (.seq (.region [
    ⟨(some 51), none, .val (.fieldAddr 4 (.tmp 1))⟩,
    ⟨(some 52), none, .val (.load 1 false (.tmp 51))⟩,
    ⟨(some 53), none, .val (.bin .eql T.int (.tmp 52) (.const (.int 0)))⟩,
    ⟨(some 54), none, .val (.mv (.tmp 53))⟩,
    ⟨(some 55), (some (54, true)), .val (.fieldAddr 5 (.tmp 1))⟩,
    ⟨(some 56), (some (54, true)), .val (.load 1 false (.tmp 55))⟩,
    ⟨(some 57), (some (54, true)), .call (.const (.func (.func F.podiumref49_in) [] [])) [(.tmp 56), (.const (.int 0)), (.const (.int 63))]⟩,
    ⟨(some 58), none, .val (.pick (.tmp 54) (.tmp 57) (.const (.bool false)))⟩,
    ⟨(some 59), none, .val (.mv (.tmp 58))⟩,
    ⟨(some 60), (some (59, true)), .val (.fieldAddr 6 (.tmp 1))⟩,
    ⟨(some 61), (some (59, true)), .val (.load 1 false (.tmp 60))⟩,
    ⟨(some 62), (some (59, true)), .call (.const (.func (.func F.podiumref49_in) [] [])) [(.tmp 61), (.const (.int 0)), (.const (.int 1000))]⟩,
    ⟨(some 63), none, .val (.pick (.tmp 59) (.tmp 62) (.const (.bool false)))⟩,
    ⟨(some 2), none, .val (.mv (.tmp 63))⟩] [51, 52, 53, 54, 55, 56, 57, 58, 59, 60, 61, 62, 63])
  .ret)
  (.seq (.region [
    ⟨(some 65), none, .val (.bin .eql T.int (.tmp 32) (.const (.int 4)))⟩,
    ⟨(some 64), none, .val (.mv (.tmp 65))⟩] [65])
  (.cond (.tmp 64)
  (.seq (.region [
    ⟨(some 66), none, .val (.fieldAddr 4 (.tmp 1))⟩,
    ⟨(some 67), none, .val (.load 1 false (.tmp 66))⟩,
    ⟨(some 68), none, .val (.bin .eql T.int (.tmp 67) (.const (.int 0)))⟩,
    ⟨(some 69), none, .val (.mv (.tmp 68))⟩,
    ⟨(some 70), (some (69, true)), .val (.fieldAddr 5 (.tmp 1))⟩,
    ⟨(some 71), (some (69, true)), .val (.load 1 false (.tmp 70))⟩,
    ⟨(some 72), (some (69, true)), .val (.bin .eql T.int (.tmp 71) (.const (.int 0)))⟩,
    ⟨(some 73), none, .val (.pick (.tmp 69) (.tmp 72) (.const (.bool false)))⟩,
    ⟨(some 74), none, .val (.mv (.tmp 73))⟩,
    ⟨(some 75), (some (74, true)), .val (.fieldAddr 6 (.tmp 1))⟩,
    ⟨(some 76), (some (74, true)), .val (.load 1 false (.tmp 75))⟩,
    ⟨(some 77), (some (74, true)), .call (.const (.func (.func F.podiumref49_in) [] [])) [(.tmp 76), (.const (.int 0)), (.const (.int 1))]⟩,
    ⟨(some 78), none, .val (.pick (.tmp 74) (.tmp 77) (.const (.bool false)))⟩,
    ⟨(some 2), none, .val (.mv (.tmp 78))⟩] [66, 67, 68, 69, 70, 71, 72, 73, 74, 75, 76, 77, 78])
  .ret)
  .skip))))))))
  (.seq (.region [
    ⟨(some 2), none, .val (.mv (.const (.bool false)))⟩] [])
  .ret))))⟩
theorem H.podiumref49_Right : Has P F.podiumref49_Right C.podiumref49_Right := ⟨Try.f28, Try.func28, by kernel_rfl, by kernel_rfl⟩

/-- podium/record.between -/
noncomputable def C.record_between : MFunc := ⟨15, 3, [.tmp 6],
  (.seq (.region [
    ⟨(some 6), none, .val (.mv (.const (.bool false)))⟩] [])
  (.seq (.region [
    ⟨(some 7), none, .val (.mv (.tmp 0))⟩,
    ⟨(some 8), none, .val (.mv (.tmp 1))⟩,
    ⟨(some 9), none, .val (.bin .geq T.int (.tmp 7) (.tmp 8))⟩,
    ⟨(some 10), none, .val (.mv (.tmp 9))⟩,
    ⟨(some 11), (some (10, true)), .val (.mv (.tmp 0))⟩,
    ⟨(some 12), (some (10, true)), .val (.mv (.tmp 2))⟩,
    ⟨(some 13), (some (10, true)), .val (.bin .leq T.int (.tmp 11) (.tmp 12))⟩,
    ⟨(some 14), none, .val (.pick (.tmp 10) (.tmp 13) (.const (.bool false)))⟩,
    ⟨(some 6), none, .val (.mv (.tmp 14))⟩] [7, 8, 9, 10, 11, 12, 13, 14])
  .ret))⟩
theorem H.record_between : Has P F.record_between C.record_between := ⟨Try.f29, Try.func29, by kernel_rfl, by kernel_rfl⟩

/-- podium/record.of -/
noncomputable def C.record_of : MFunc := ⟨14, 1, [.cell 2 5 true],
  (.seq (.region [
    ⟨(some 1), none, .box T.apiEvent (.tmp 0)⟩,
    ⟨(some 2), none, .alloc T.recordslot [(.int 0), (.int 0), (.int 0), (.int 0), (.int 0)]⟩] [])
  (.seq (.region [
    ⟨(some 3), none, .val (.fieldAddr 1 (.tmp 1))⟩,
    ⟨(some 4), none, .val (.load 1 false (.tmp 3))⟩,
    ⟨(some 5), none, .val (.fieldAddr 2 (.tmp 1))⟩,
    ⟨(some 6), none, .val (.load 1 false (.tmp 5))⟩,
    ⟨(some 7), none, .val (.fieldAddr 3 (.tmp 1))⟩,
    ⟨(some 8), none, .val (.load 1 false (.tmp 7))⟩,
    ⟨(some 9), none, .val (.fieldAddr 4 (.tmp 1))⟩,
    ⟨(some 10), none, .val (.load 1 false (.tmp 9))⟩,
    ⟨(some 11), none, .val (.fieldAddr 5 (.tmp 1))⟩,
    ⟨(some 12), none, .val (.load 1 false (.tmp 11))⟩,
    ⟨(some 13), none, .val (.build [(.int 0), (.int 0), (.int 0), (.int 0), (.int 0)] [(0, 1, (.tmp 4)), (1, 1, (.tmp 6)), (2, 1, (.tmp 8)), (3, 1, (.tmp 10)), (4, 1, (.tmp 12))])⟩,
    ⟨none, none, .store 5 (.tmp 2) (.tmp 13)⟩] [3, 4, 5, 6, 7, 8, 9, 10, 11, 12, 13])
  .ret))⟩
theorem H.record_of : Has P F.record_of C.record_of := ⟨Try.f30, Try.func30, by kernel_rfl, by kernel_rfl⟩

/-- podium/podiumref49.Stands -/
noncomputable def C.podiumref49_Stands : MFunc := ⟨43, 4, [.tmp 8],
  (.seq (.region [
    ⟨(some 5), none, .box T.apiEvent (.tmp 1)⟩,
    ⟨(some 8), none, .val (.mv (.const (.bool false)))⟩] [])
  (.seq (.seq (.region [
    ⟨(some 9), none, .val (.mv (.const (.int 0)))⟩] [])
  (.block 0 (.loop (.seq (.seq (.region [
    ⟨(some 10), none, .val (.mv (.tmp 9))⟩,
    ⟨(some 11), none, .val (.mv (.tmp 0))⟩,
    ⟨(some 12), none, .val (.len (.tmp 11))⟩,
    ⟨(some 13), none, .val (.bin .lss T.int (.tmp 10) (.tmp 12))⟩] [10, 11, 12])
  (.cond (.tmp 13)
  .skip
  (.exit 0)))
  (.seq (.block 1 (.seq (.draw true [
    (.early, ⟨(some 16), none, .val (.mv (.tmp 0))⟩),
    (.early, ⟨(some 17), none, .val (.mv (.tmp 9))⟩),
    (.early, ⟨(some 18), none, .val (.indexAddr 9 (.tmp 16) (.tmp 17))⟩),
    (.early, ⟨(some 19), none, .val (.load 9 true (.tmp 18))⟩),
    (.early, ⟨(some 20), none, .val (.load 9 true (.tmp 5))⟩),
    (.hard, ⟨(some 21), none, .call (.const (.func (.func F.podiumref49_Slot) [] [])) [(.tmp 19), (.tmp 20)]⟩),
    (.late, ⟨(some 22), none, .val (.mv (.tmp 21))⟩),
    (.late, ⟨(some 23), (some (22, true)), .val (.mv (.tmp 0))⟩),
    (.late, ⟨(some 24), (some (22, true)), .val (.mv (.tmp 9))⟩),
    (.late, ⟨(some 25), (some (22, true)), .val (.indexAddr 9 (.tmp 23) (.tmp 24))⟩),
    (.late, ⟨(some 26), (some (22, true)), .val (.load 9 true (.tmp 25))⟩),
    (.late, ⟨(some 27), (some (22, true)), .val (.mv (.tmp 2))⟩),
    (.late, ⟨(some 28), (some (22, true)), .val (.mv (.tmp 3))⟩),
    (.hard, ⟨(some 29), (some (22, true)), .call (.const (.func (.func F.podiumref49_Counts) [] [])) [(.tmp 26), (.tmp 27), (.tmp 28)]⟩),
    (.late, ⟨(some 30), none, .val (.pick (.tmp 22) (.tmp 29) (.const (.bool false)))⟩),
    (.late, ⟨(some 31), none, .val (.mv (.tmp 30))⟩),
    (.late, ⟨(some 32), (some (31, true)), .val (.mv (.tmp 0))⟩),
    (.late, ⟨(some 33), (some (31, true)), .val (.mv (.tmp 9))⟩),
    (.late, ⟨(some 34), (some (31, true)), .val (.indexAddr 9 (.tmp 32) (.tmp 33))⟩),
    (.late, ⟨(some 35), (some (31, true)), .val (.load 9 true (.tmp 34))⟩),
    (.late, ⟨(some 36), (some (31, true)), .val (.load 9 true (.tmp 5))⟩),
    (.hard, ⟨(some 37), (some (31, true)), .call (.const (.func (.func F.podiumref49_Later) [] [])) [(.tmp 35), (.tmp 36)]⟩),
    (.late, ⟨(some 38), none, .val (.pick (.tmp 31) (.tmp 37) (.const (.bool false)))⟩)] [16, 17, 18, 19, 20, 21, 22, 23, 24, 25, 26, 27, 28, 29, 30, 31, 32, 33, 34, 35, 36, 37])
  (.cond (.tmp 38)
  (.seq (.region [
    ⟨(some 8), none, .val (.mv (.const (.bool false)))⟩] [])
  .ret)
  .skip)))
  (.region [
    ⟨(some 14), none, .val (.mv (.tmp 9))⟩,
    ⟨(some 15), none, .val (.bin .add T.int (.tmp 14) (.const (.int 1)))⟩,
    ⟨(some 9), none, .val (.mv (.tmp 15))⟩] [14, 15]))))))
  (.seq (.region [
    ⟨(some 39), none, .val (.load 9 true (.tmp 5))⟩,
    ⟨(some 40), none, .val (.mv (.tmp 2))⟩,
    ⟨(some 41), none, .val (.mv (.tmp 3))⟩,
    ⟨(some 42), none, .call (.const (.func (.func F.podiumref49_Counts) [] [])) [(.tmp 39), (.tmp 40), (.tmp 41)]⟩,
    ⟨(some 8), none, .val (.mv (.tmp 42))⟩] [39, 40, 41, 42])
  .ret)))⟩
theorem H.podiumref49_Stands : Has P F.podiumref49_Stands C.podiumref49_Stands := ⟨Try.f31, Try.func31, by kernel_rfl, by kernel_rfl⟩

/-- podium/record.kinds$1 -/
noncomputable def C.record_kinds_1 : MFunc := ⟨11, 1, [.tmp 2],
  (.seq (.region [
    ⟨(some 1), none, .box T.apiEvent (.tmp 0)⟩,
    ⟨(some 2), none, .val (.mv (.const (.bool false)))⟩] [])
  (.seq (.region [
    ⟨(some 3), none, .val (.fieldAddr 5 (.tmp 1))⟩,
    ⟨(some 4), none, .val (.load 1 false (.tmp 3))⟩,
    ⟨(some 5), none, .call (.const (.func (.func F.record_between) [] [])) [(.tmp 4), (.const (.int 0)), (.const (.int 63))]⟩,
    ⟨(some 6), none, .val (.mv (.tmp 5))⟩,
    ⟨(some 7), (some (6, true)), .val (.fieldAddr 6 (.tmp 1))⟩,
    ⟨(some 8), (some (6, true)), .val (.load 1 false (.tmp 7))⟩,
    ⟨(some 9), (some (6, true)), .call (.const (.func (.func F.record_between) [] [])) [(.tmp 8), (.const (.int 0)), (.const (.int 1000))]⟩,
    ⟨(some 10), none, .val (.pick (.tmp 6) (.tmp 9) (.const (.bool false)))⟩,
    ⟨(some 2), none, .val (.mv (.tmp 10))⟩] [3, 4, 5, 6, 7, 8, 9, 10])
  .ret))⟩
theorem H.record_kinds_1 : Has P F.record_kinds_1 C.record_kinds_1 := ⟨Try.f32, Try.func32, by kernel_rfl, by kernel_rfl⟩

/-- podium/record.kinds$2 -/
noncomputable def C.record_kinds_2 : MFunc := ⟨12, 2, [.tmp 3],
  (.seq (.region [
    ⟨(some 2), none, .box T.apiEvent (.tmp 0)⟩,
    ⟨(some 3), none, .val (.mv (.const (.bool false)))⟩] [])
  (.seq (.region [
    ⟨(some 4), none, .val (.fieldAddr 4 (.tmp 2))⟩,
    ⟨(some 5), none, .val (.load 1 false (.tmp 4))⟩,
    ⟨(some 6), none, .val (.bin .eql T.int (.tmp 5) (.const (.int 0)))⟩,
    ⟨(some 7), none, .val (.mv (.tmp 6))⟩,
    ⟨(some 8), (some (7, true)), .val (.load 1 false (.tmp 1))⟩,
    ⟨(some 9), (some (7, true)), .val (.load 9 true (.tmp 2))⟩,
    ⟨(some 10), (some (7, true)), .call (.tmp 8) [(.tmp 9)]⟩,
    ⟨(some 11), none, .val (.pick (.tmp 7) (.tmp 10) (.const (.bool false)))⟩,
    ⟨(some 3), none, .val (.mv (.tmp 11))⟩] [4, 5, 6, 7, 8, 9, 10, 11])
  .ret))⟩
theorem H.record_kinds_2 : Has P F.record_kinds_2 C.record_kinds_2 := ⟨Try.f33, Try.func33, by kernel_rfl, by kernel_rfl⟩

/-- podium/record.kinds$3 -/
noncomputable def C.record_kinds_3 : MFunc := ⟨12, 2, [.tmp 3],
  (.seq (.region [
    ⟨(some 2), none, .box T.apiEvent (.tmp 0)⟩,
    ⟨(some 3), none, .val (.mv (.const (.bool false)))⟩] [])
  (.seq (.region [
    ⟨(some 4), none, .val (.fieldAddr 4 (.tmp 2))⟩,
    ⟨(some 5), none, .val (.load 1 false (.tmp 4))⟩,
    ⟨(some 6), none, .call (.const (.func (.func F.record_between) [] [])) [(.tmp 5), (.const (.int 0)), (.const (.int 255))]⟩,
    ⟨(some 7), none, .val (.mv (.tmp 6))⟩,
    ⟨(some 8), (some (7, true)), .val (.load 1 false (.tmp 1))⟩,
    ⟨(some 9), (some (7, true)), .val (.load 9 true (.tmp 2))⟩,
    ⟨(some 10), (some (7, true)), .call (.tmp 8) [(.tmp 9)]⟩,
    ⟨(some 11), none, .val (.pick (.tmp 7) (.tmp 10) (.const (.bool false)))⟩,
    ⟨(some 3), none, .val (.mv (.tmp 11))⟩] [4, 5, 6, 7, 8, 9, 10, 11])
  .ret))⟩
theorem H.record_kinds_3 : Has P F.record_kinds_3 C.record_kinds_3 := ⟨Try.f34, Try.func34, by kernel_rfl, by kernel_rfl⟩

/-- podium/record.kinds$4 -/
noncomputable def C.record_kinds_4 : MFunc := ⟨16, 1, [.tmp 2],
  (.seq (.region [
    ⟨(some 1), none, .box T.apiEvent (.tmp 0)⟩,
    ⟨(some 2), none, .val (.mv (.const (.bool false)))⟩] [])
  (.seq (.region [
    ⟨(some 3), none, .val (.fieldAddr 4 (.tmp 1))⟩,
    ⟨(some 4), none, .val (.load 1 false (.tmp 3))⟩,
    ⟨(some 5), none, .val (.bin .eql T.int (.tmp 4) (.const (.int 0)))⟩,
    ⟨(some 6), none, .val (.mv (.tmp 5))⟩,
    ⟨(some 7), (some (6, true)), .val (.fieldAddr 5 (.tmp 1))⟩,
    ⟨(some 8), (some (6, true)), .val (.load 1 false (.tmp 7))⟩,
    ⟨(some 9), (some (6, true)), .val (.bin .eql T.int (.tmp 8) (.const (.int 0)))⟩,
    ⟨(some 10), none, .val (.pick (.tmp 6) (.tmp 9) (.const (.bool false)))⟩,
    ⟨(some 11), none, .val (.mv (.tmp 10))⟩,
    ⟨(some 12), (some (11, true)), .val (.fieldAddr 6 (.tmp 1))⟩,
    ⟨(some 13), (some (11, true)), .val (.load 1 false (.tmp 12))⟩,
    ⟨(some 14), (some (11, true)), .call (.const (.func (.func F.record_between) [] [])) [(.tmp 13), (.const (.int 0)), (.const (.int 1))]⟩,
    ⟨(some 15), none, .val (.pick (.tmp 11) (.tmp 14) (.const (.bool false)))⟩,
    ⟨(some 2), none, .val (.mv (.tmp 15))⟩] [3, 4, 5, 6, 7, 8, 9, 10, 11, 12, 13, 14, 15])
  .ret))⟩
theorem H.record_kinds_4 : Has P F.record_kinds_4 C.record_kinds_4 := ⟨Try.f35, Try.func35, by kernel_rfl, by kernel_rfl⟩

/-- cmp.Compare[int] -/
noncomputable def C.cmp_Compare__int : MFunc := ⟨20, 2, [.tmp 4],
  (.seq (.region [
    ⟨(some 4), none, .val (.mv (.const (.int 0)))⟩] [])
  (.seq (.region [
    ⟨(some 7), none, .val (.mv (.tmp 0))⟩,
    ⟨(some 8), none, .call (.const (.func (.func F.cmp_isNaN__int) [] [])) [(.tmp 7)]⟩,
    ⟨(some 5), none, .val (.mv (.tmp 8))⟩] [7, 8])
  (.seq (.region [
    ⟨(some 9), none, .val (.mv (.tmp 1))⟩,
    ⟨(some 10), none, .call (.const (.func (.func F.cmp_isNaN__int) [] [])) [(.tmp 9)]⟩,
    ⟨(some 6), none, .val (.mv (.tmp 10))⟩] [9, 10])
  (.seq (.seq (.region [
    ⟨(some 11), none, .val (.mv (.tmp 5))⟩] [])
  (.cond (.tmp 11)
  (.seq (.seq (.region [
    ⟨(some 12), none, .val (.mv (.tmp 6))⟩] [])
  (.cond (.tmp 12)
  (.seq (.region [
    ⟨(some 4), none, .val (.mv (.const (.int 0)))⟩] [])
  .ret)
  .skip))
  (.seq (.region [
    ⟨(some 4), none, .val (.mv (.const (.int (-1))))⟩] [])
  .ret))
  .skip))
  (.seq (.seq (.region [
    ⟨(some 13), none, .val (.mv (.tmp 6))⟩] [])
  (.cond (.tmp 13)
  (.seq (.region [
    ⟨(some 4), none, .val (.mv (.const (.int 1)))⟩] [])
  .ret)
  .skip))
  (.seq (.seq (.region [
    ⟨(some 14), none, .val (.mv (.tmp 0))⟩,
    ⟨(some 15), none, .val (.mv (.tmp 1))⟩,
    ⟨(some 16), none, .val (.bin .lss T.int (.tmp 14) (.tmp 15))⟩] [14, 15])
  (.cond (.tmp 16)
  (.seq (.region [
    ⟨(some 4), none, .val (.mv (.const (.int (-1))))⟩] [])
  .ret)
  .skip))
  (.seq (.seq (.region [
    ⟨(some 17), none, .val (.mv (.tmp 0))⟩,
    ⟨(some 18), none, .val (.mv (.tmp 1))⟩,
    ⟨(some 19), none, .val (.bin .gtr T.int (.tmp 17) (.tmp 18))⟩] [17, 18])
  (.cond (.tmp 19)
  (.seq (.region [
    ⟨(some 4), none, .val (.mv (.const (.int 1)))⟩] [])
  .ret)
  .skip))
  (.seq (.region [
    ⟨(some 4), none, .val (.mv (.const (.int 0)))⟩] [])
  .ret))))))))⟩
theorem H.cmp_Compare__int : Has P F.cmp_Compare__int C.cmp_Compare__int := ⟨Try.f36, Try.func36, by kernel_rfl, by kernel_rfl⟩

-- not taken: slices.overlaps[podium/api.Event]
/-- slices.rotateRight[podium/api.Event] -/
noncomputable def C.slices_rotateRight__apiEvent : MFunc := ⟨10, 2, [],
  (.region [
    ⟨(some 4), none, .val (.mv (.tmp 0))⟩,
    ⟨(some 5), none, .val (.mv (.tmp 0))⟩,
    ⟨(some 6), none, .val (.len (.tmp 5))⟩,
    ⟨(some 7), none, .val (.mv (.tmp 1))⟩,
    ⟨(some 8), none, .val (.bin .sub T.int (.tmp 6) (.tmp 7))⟩,
    ⟨(some 9), none, .call (.const (.func (.func F.slices_rotateLeft__apiEvent) [] [])) [(.tmp 4), (.tmp 8)]⟩] [4, 5, 6, 7, 8, 9])⟩
theorem H.slices_rotateRight__apiEvent : Has P F.slices_rotateRight__apiEvent C.slices_rotateRight__apiEvent := ⟨Try.f38, Try.func38, by kernel_rfl, by kernel_rfl⟩

/-- podium/podiumref49.in -/
noncomputable def C.podiumref49_in : MFunc := ⟨15, 3, [.tmp 6],
  (.seq (.region [
    ⟨(some 6), none, .val (.mv (.const (.bool false)))⟩] [])
  (.seq (.region [
    ⟨(some 7), none, .val (.mv (.tmp 0))⟩,
    ⟨(some 8), none, .val (.mv (.tmp 1))⟩,
    ⟨(some 9), none, .val (.bin .geq T.int (.tmp 7) (.tmp 8))⟩,
    ⟨(some 10), none, .val (.mv (.tmp 9))⟩,
    ⟨(some 11), (some (10, true)), .val (.mv (.tmp 0))⟩,
    ⟨(some 12), (some (10, true)), .val (.mv (.tmp 2))⟩,
    ⟨(some 13), (some (10, true)), .val (.bin .leq T.int (.tmp 11) (.tmp 12))⟩,
    ⟨(some 14), none, .val (.pick (.tmp 10) (.tmp 13) (.const (.bool false)))⟩,
    ⟨(some 6), none, .val (.mv (.tmp 14))⟩] [7, 8, 9, 10, 11, 12, 13, 14])
  .ret))⟩
theorem H.podiumref49_in : Has P F.podiumref49_in C.podiumref49_in := ⟨Try.f39, Try.func39, by kernel_rfl, by kernel_rfl⟩

/-- cmp.isNaN[int] -/
noncomputable def C.cmp_isNaN__int : MFunc := ⟨6, 1, [.tmp 2],
  (.seq (.region [
    ⟨(some 2), none, .val (.mv (.const (.bool false)))⟩] [])
  (.seq (.region [
    ⟨(some 3), none, .val (.mv (.tmp 0))⟩,
    ⟨(some 4), none, .val (.mv (.tmp 0))⟩,
    ⟨(some 5), none, .val (.bin .neq T.int (.tmp 3) (.tmp 4))⟩,
    ⟨(some 2), none, .val (.mv (.tmp 5))⟩] [3, 4, 5])
  .ret))⟩
theorem H.cmp_isNaN__int : Has P F.cmp_isNaN__int C.cmp_isNaN__int := ⟨Try.f40, Try.func40, by kernel_rfl, by kernel_rfl⟩

/-- slices.rotateLeft[podium/api.Event] -/
noncomputable def C.slices_rotateLeft__apiEvent : MFunc := ⟨14, 2, [],
  (.seq (.region [
    ⟨(some 4), none, .val (.mv (.tmp 0))⟩,
    ⟨(some 5), none, .val (.mv (.tmp 1))⟩,
    ⟨(some 6), none, .val (.slice 9 (.tmp 4) none (some (.tmp 5)) none)⟩,
    ⟨(some 7), none, .call (.const (.func (.func F.slices_Reverse__LapiEvent_apiEvent) [] [])) [(.tmp 6)]⟩] [4, 5, 6, 7])
  (.seq (.region [
    ⟨(some 8), none, .val (.mv (.tmp 0))⟩,
    ⟨(some 9), none, .val (.mv (.tmp 1))⟩,
    ⟨(some 10), none, .val (.slice 9 (.tmp 8) (some (.tmp 9)) none none)⟩,
    ⟨(some 11), none, .call (.const (.func (.func F.slices_Reverse__LapiEvent_apiEvent) [] [])) [(.tmp 10)]⟩] [8, 9, 10, 11])
  (.region [
    ⟨(some 12), none, .val (.mv (.tmp 0))⟩,
    ⟨(some 13), none, .call (.const (.func (.func F.slices_Reverse__LapiEvent_apiEvent) [] [])) [(.tmp 12)]⟩] [12, 13])))⟩
theorem H.slices_rotateLeft__apiEvent : Has P F.slices_rotateLeft__apiEvent C.slices_rotateLeft__apiEvent := ⟨Try.f41, Try.func41, by kernel_rfl, by kernel_rfl⟩

/-- slices.Reverse[[]podium/api.Event,podium/api.Event] -/
noncomputable def C.slices_Reverse__LapiEvent_apiEvent : MFunc := ⟨28, 1, [],
  (.seq (.region [
    ⟨(some 4), none, .val (.mv (.tmp 0))⟩,
    ⟨(some 5), none, .val (.len (.tmp 4))⟩,
    ⟨(some 6), none, .val (.bin .sub T.int (.tmp 5) (.const (.int 1)))⟩,
    ⟨(some 2), none, .val (.mv (.const (.int 0)))⟩,
    ⟨(some 3), none, .val (.mv (.tmp 6))⟩] [4, 5, 6])
  (.block 0 (.loop (.seq (.seq (.region [
    ⟨(some 7), none, .val (.mv (.tmp 2))⟩,
    ⟨(some 8), none, .val (.mv (.tmp 3))⟩,
    ⟨(some 9), none, .val (.bin .lss T.int (.tmp 7) (.tmp 8))⟩] [7, 8])
  (.cond (.tmp 9)
  .skip
  (.exit 0)))
  (.seq (.block 1 (.draw true [
    (.early, ⟨(some 14), none, .val (.mv (.tmp 0))⟩),
    (.early, ⟨(some 15), none, .val (.mv (.tmp 2))⟩),
    (.late, ⟨(some 16), none, .val (.mv (.tmp 0))⟩),
    (.late, ⟨(some 17), none, .val (.mv (.tmp 3))⟩),
    (.early, ⟨(some 18), none, .val (.mv (.tmp 0))⟩),
    (.early, ⟨(some 19), none, .val (.mv (.tmp 3))⟩),
    (.early, ⟨(some 20), none, .val (.indexAddr 9 (.tmp 18) (.tmp 19))⟩),
    (.early, ⟨(some 21), none, .val (.load 9 true (.tmp 20))⟩),
    (.early, ⟨(some 22), none, .val (.mv (.tmp 0))⟩),
    (.early, ⟨(some 23), none, .val (.mv (.tmp 2))⟩),
    (.early, ⟨(some 24), none, .val (.indexAddr 9 (.tmp 22) (.tmp 23))⟩),
    (.early, ⟨(some 25), none, .val (.load 9 true (.tmp 24))⟩),
    (.early, ⟨(some 26), none, .val (.indexAddr 9 (.tmp 14) (.tmp 15))⟩),
    (.hard, ⟨none, none, .store 9 (.tmp 26) (.tmp 21)⟩),
    (.late, ⟨(some 27), none, .val (.indexAddr 9 (.tmp 16) (.tmp 17))⟩),
    (.hard, ⟨none, none, .store 9 (.tmp 27) (.tmp 25)⟩)] [14, 15, 16, 17, 18, 19, 20, 21, 22, 23, 24, 25, 26, 27]))
  (.region [
    ⟨(some 10), none, .val (.mv (.tmp 2))⟩,
    ⟨(some 11), none, .val (.bin .add T.int (.tmp 10) (.const (.int 1)))⟩,
    ⟨(some 12), none, .val (.mv (.tmp 3))⟩,
    ⟨(some 13), none, .val (.bin .sub T.int (.tmp 12) (.const (.int 1)))⟩,
    ⟨(some 2), none, .val (.mv (.tmp 11))⟩,
    ⟨(some 3), none, .val (.mv (.tmp 13))⟩] [10, 11, 12, 13]))))))⟩
theorem H.slices_Reverse__LapiEvent_apiEvent : Has P F.slices_Reverse__LapiEvent_apiEvent C.slices_Reverse__LapiEvent_apiEvent := ⟨Try.f42, Try.func42, by kernel_rfl, by kernel_rfl⟩

end Go.Proofs.Ytahdhdgglbcagaa
