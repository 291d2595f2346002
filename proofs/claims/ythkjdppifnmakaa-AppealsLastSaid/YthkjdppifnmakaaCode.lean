/- The compact code of this seat's functions (printed by a program of ours out of the translation; each is checked against the loaded program). -/
import Derived.Test.YthkjdppifnmakaaProg
import Derived.Test.YthkjdppifnmakaaLLib
set_option maxRecDepth 100000
namespace Go.Proofs.Ythkjdppifnmakaa
open Go.Pv

noncomputable abbrev P : Program := Try.prog
theorem hmix : P.follows .mixedOrders = true := by kernel_rfl

namespace T
abbrev t : Nat := 0
abbrev func : Nat := 1
abbrev int64 : Nat := 2
abbrev int : Nat := 3
abbrev bool : Nat := 4
abbrev uint8 : Nat := 5
abbrev internalabiBoundsErrorCode : Nat := 6
abbrev structxint64yintsignedboolcodeabiBoundsErrorCode : Nat := 7
abbrev runtimeboundsError : Nat := 8
abbrev string : Nat := 9
abbrev runtimeerrorString : Nat := 10
abbrev runtimeplainError : Nat := 11
abbrev uintptr : Nat := 12
abbrev structmsgstringaddruintptr : Nat := 13
abbrev runtimeerrorAddressString : Nat := 14
abbrev runtimeTypeAssertionError : Nat := 15
abbrev runtimePanicNilError : Nat := 16
abbrev abiType : Nat := 17
abbrev structtypabiType : Nat := 18
abbrev internalruntimemapsunhashableTypeError : Nat := 19
abbrev interface : Nat := 20
abbrev int32 : Nat := 21
abbrev LapiDecision : Nat := 22
abbrev funcbool : Nat := 23
abbrev funcLapiEventLapiDecisionbool : Nat := 24
abbrev apiErrno : Nat := 25
abbrev LapiDecisionapiErrno : Nat := 26
abbrev funcLapiDecisionintLapiDecisionapiErrno : Nat := 27
abbrev funcLapiDecisionapiErrno : Nat := 28
abbrev funcLapiDecisionLapiDecisionbool : Nat := 29
abbrev funcLapiDecisionintbool : Nat := 30
abbrev LapiEvent : Nat := 31
abbrev LapiEventapiErrno : Nat := 32
abbrev funcLapiEventLapiDecisionintLapiEventapiErrno : Nat := 33
abbrev funcLapiEventLapiEventbool : Nat := 34
abbrev funcLapiEventLapiDecisionintbool : Nat := 35
abbrev funcLapiEventapiErrno : Nat := 36
abbrev Lint : Nat := 37
abbrev structNointKindintRoundintEntryintJudgeintItemintValueintAtintKnownint : Nat := 38
abbrev apiEvent : Nat := 39
abbrev funcapiDecisionint : Nat := 40
abbrev structNointKnownintKindintTargetintValueintEventapiEvent : Nat := 41
abbrev apiDecision : Nat := 42
abbrev funcLapiDecisionintLapiDecision : Nat := 43
abbrev funcLapiEventintLapiEvent : Nat := 44
abbrev funcLapiEventLapiDecisionintintbool : Nat := 45
abbrev funcLapiEventLapiDecisionuint8intbool : Nat := 46
abbrev funcintintapiEvent : Nat := 47
abbrev funcLapiDecisionfuncapiDecisionintLapiDecision : Nat := 48
abbrev funcLapiDecisionfuncapiDecisionboolLapiDecision : Nat := 49
abbrev funcapiDecisionbool : Nat := 50
abbrev funcappealseventsapiDecision : Nat := 51
abbrev structrightfuncapiDecisionboolapplyfuncappealseventsapiDecision : Nat := 52
abbrev appealskind : Nat := 53
abbrev t4appealskind : Nat := 54
abbrev func4appealskind : Nat := 55
abbrev mapintapiEvent : Nat := 56
abbrev appealsevents : Nat := 57
abbrev funcLapiEventfuncapiEventintLapiEvent : Nat := 58
abbrev funciterSeqapiEventLapiEvent : Nat := 59
abbrev funcfuncapiEventbool : Nat := 60
abbrev iterSeqapiEvent : Nat := 61
abbrev funcappealseventsiterSeqapiEvent : Nat := 62
abbrev funcapiEventint : Nat := 63
abbrev funcLapiEventapiDecisionLapiEvent : Nat := 64
abbrev mapintrecordkind : Nat := 65
abbrev funcmapintrecordkind : Nat := 66
abbrev funcapiEventmapintrecordkindbool : Nat := 67
abbrev funcLapiDecisionLapiDecision : Nat := 68
abbrev funcLapiDecisionfuncapiDecisionapiDecisionint : Nat := 69
abbrev funcintintint : Nat := 70
abbrev funcapiDecisionapiDecisionint : Nat := 71
abbrev funcLapiDecisionfuncapiDecisionboolint : Nat := 72
abbrev apiEventbool : Nat := 73
abbrev funcapiEventbool : Nat := 74
abbrev funcLapiEventLapiEvent : Nat := 75
abbrev funcLapiEventfuncapiEventapiEventint : Nat := 76
abbrev funcapiEventapiEventint : Nat := 77
abbrev funcLapiEventiterSeqapiEventLapiEvent : Nat := 78
abbrev funcLapiEventintint : Nat := 79
abbrev funcintintintbool : Nat := 80
abbrev structrightfuncapiEventbool : Nat := 81
abbrev recordkind : Nat := 82
abbrev recordkindbool : Nat := 83
abbrev funcLapiDecisionintfuncapiDecisionapiDecisionint : Nat := 84
abbrev funcintbool : Nat := 85
abbrev funcLapiEventintfuncapiEventapiEventint : Nat := 86
abbrev funcLapiDecisionintintfuncapiDecisionapiDecisionint : Nat := 87
abbrev funcLapiDecisionintintintfuncapiDecisionapiDecisionint : Nat := 88
abbrev funcLapiEventintintfuncapiEventapiEventint : Nat := 89
abbrev funcLapiEventintintintfuncapiEventapiEventint : Nat := 90
abbrev uint : Nat := 91
abbrev funcstring : Nat := 92
abbrev structinterfaceabiTypeconcreteabiTypeassertedabiTypemissingMethodstring : Nat := 93
abbrev runtimeTypeAssertionError_2 : Nat := 94
abbrev t0runtimePanicNilError : Nat := 95
abbrev struct0runtimePanicNilError : Nat := 96
abbrev runtimePanicNilError_2 : Nat := 97
abbrev funcint : Nat := 98
abbrev uint32 : Nat := 99
abbrev internalabiTFlag : Nat := 100
abbrev internalabiKind : Nat := 101
abbrev funcunsafePointerunsafePointerbool : Nat := 102
abbrev uint8_2 : Nat := 103
abbrev internalabiNameOff : Nat := 104
abbrev internalabiTypeOff : Nat := 105
abbrev structSizeuintptrPtrBytesuintptrHashuint32TFlagabiTFlagAlignuint8FieldAlignuint8KindabiKindEqualfuncunsafePointerunsafePointerboolGCDatauint8StrabiNameOffPtrToThisabiTypeOff : Nat := 106
abbrev internalabiType : Nat := 107
abbrev unsafePointer : Nat := 108
end T
namespace F
abbrev podiumlaw51_AppealsSpec : Nat := 3
abbrev podiumlaw51_AppealsApplySpec : Nat := 4
abbrev podiumlaw51_AppealsAlone : Nat := 5
abbrev podiumlaw51_AppealsComposed : Nat := 6
abbrev podiumlaw51_AppealsOrder : Nat := 7
abbrev podiumlaw51_AppealsLast : Nat := 8
abbrev podiumlaw51_sane : Nat := 9
abbrev podiumref51_Few : Nat := 10
abbrev appeals_Standing : Nat := 11
abbrev podiumref51_Standing : Nat := 12
abbrev appeals_Check : Nat := 13
abbrev podiumref51_Check : Nat := 14
abbrev podiumref51_SameDecisions : Nat := 15
abbrev appeals_Apply : Nat := 16
abbrev podiumref51_Apply : Nat := 17
abbrev podiumref51_Same : Nat := 18
abbrev record_Check : Nat := 19
abbrev podiumref51_Subject : Nat := 20
abbrev podiumlaw51_about : Nat := 21
abbrev podiumlaw51_alone : Nat := 22
abbrev podiumlaw51_mark : Nat := 23
abbrev appeals_by__apiDecision : Nat := 24
abbrev appeals_Standing_1 : Nat := 25
abbrev slices_DeleteFunc__LapiDecision_apiDecision : Nat := 26
abbrev appeals_Standing_2 : Nat := 27
abbrev appeals_kinds : Nat := 28
abbrev podiumref51_Valid : Nat := 29
abbrev appeals_by__apiEvent : Nat := 30
abbrev slices_Collect__apiEvent : Nat := 31
abbrev maps_Values__appealsevents_int_apiEvent : Nat := 32
abbrev appeals_Apply_1 : Nat := 33
abbrev podiumref49_Check : Nat := 34
abbrev podiumref51_One : Nat := 35
abbrev record_kinds : Nat := 36
abbrev record_right : Nat := 37
abbrev slices_Clone__LapiDecision_apiDecision : Nat := 38
abbrev slices_SortStableFunc__LapiDecision_apiDecision : Nat := 39
abbrev appeals_by__apiDecision_1 : Nat := 40
abbrev cmp_Compare__int : Nat := 41
abbrev slices_IndexFunc__LapiDecision_apiDecision : Nat := 42
abbrev appeals_kinds_1 : Nat := 43
abbrev appeals_target : Nat := 44
abbrev appeals_kinds_2 : Nat := 45
abbrev appeals_kinds_3 : Nat := 46
abbrev appeals_kinds_4 : Nat := 47
abbrev appeals_valid : Nat := 48
abbrev appeals_kinds_5 : Nat := 49
abbrev appeals_kinds_6 : Nat := 50
abbrev podiumref51_event : Nat := 51
abbrev slices_Clone__LapiEvent_apiEvent : Nat := 52
abbrev slices_SortStableFunc__LapiEvent_apiEvent : Nat := 53
abbrev appeals_by__apiEvent_1 : Nat := 54
abbrev slices_AppendSeq__LapiEvent_apiEvent : Nat := 55
abbrev maps_Values__appealsevents_int_apiEvent_1 : Nat := 56
abbrev podiumref49_Right : Nat := 57
abbrev podiumref51_Find : Nat := 58
abbrev record_kinds_1 : Nat := 59
abbrev record_between : Nat := 60
abbrev record_kinds_2 : Nat := 61
abbrev record_kinds_3 : Nat := 62
abbrev record_kinds_4 : Nat := 63
abbrev slices_stableCmpFunc__apiDecision : Nat := 64
abbrev cmp_isNaN__int : Nat := 65
abbrev slices_stableCmpFunc__apiEvent : Nat := 66
abbrev podiumref49_in : Nat := 67
abbrev slices_insertionSortCmpFunc__apiDecision : Nat := 68
abbrev slices_symMergeCmpFunc__apiDecision : Nat := 69
abbrev slices_insertionSortCmpFunc__apiEvent : Nat := 70
abbrev slices_symMergeCmpFunc__apiEvent : Nat := 71
abbrev slices_rotateCmpFunc__apiDecision : Nat := 72
abbrev slices_rotateCmpFunc__apiEvent : Nat := 73
abbrev slices_swapRangeCmpFunc__apiDecision : Nat := 74
abbrev slices_swapRangeCmpFunc__apiEvent : Nat := 75
end F

/-- podium/podiumlaw51.AppealsSpec -/
noncomputable def C.podiumlaw51_AppealsSpec : MFunc := ⟨41, 2, [.tmp 4],
  (.seq (.region [
    ⟨(some 4), none, .val (.mv (.const (.bool false)))⟩] [])
  (.seq (.seq (.region [
    ⟨(some 9), none, .call (.const (.func (.func F.podiumlaw51_sane) [] [])) []⟩,
    ⟨(some 10), none, .val (.un .not (.tmp 9))⟩] [9])
  (.cond (.tmp 10)
  (.seq (.region [
    ⟨(some 4), none, .val (.mv (.const (.bool false)))⟩] [])
  .ret)
  .skip))
  (.seq (.seq (.region [
    ⟨(some 11), none, .val (.mv (.tmp 0))⟩,
    ⟨(some 12), none, .call (.const (.func (.func F.podiumref51_Few) [] [])) [(.const .nil), (.tmp 11)]⟩,
    ⟨(some 13), none, .val (.un .not (.tmp 12))⟩] [11, 12])
  (.cond (.tmp 13)
  (.seq (.region [
    ⟨(some 4), none, .val (.mv (.const (.bool true)))⟩] [])
  .ret)
  .skip))
  (.seq (.region [
    ⟨(some 15), none, .val (.mv (.tmp 0))⟩,
    ⟨(some 16), none, .val (.mv (.tmp 1))⟩,
    ⟨(some 17), none, .call (.const (.func (.func F.appeals_Standing) [] [])) [(.tmp 15), (.tmp 16)]⟩,
    ⟨(some 14), none, .val (.mv (.tmp 17))⟩,
    ⟨(some 18), none, .val (.extract 0 (.tmp 14))⟩,
    ⟨(some 19), none, .val (.extract 1 (.tmp 14))⟩,
    ⟨(some 5), none, .val (.mv (.tmp 18))⟩,
    ⟨(some 6), none, .val (.mv (.tmp 19))⟩] [15, 16, 17, 14, 18, 19])
  (.seq (.region [
    ⟨(some 21), none, .val (.mv (.tmp 0))⟩,
    ⟨(some 22), none, .val (.mv (.tmp 1))⟩,
    ⟨(some 23), none, .call (.const (.func (.func F.podiumref51_Standing) [] [])) [(.tmp 21), (.tmp 22)]⟩,
    ⟨(some 20), none, .val (.mv (.tmp 23))⟩,
    ⟨(some 24), none, .val (.extract 0 (.tmp 20))⟩,
    ⟨(some 25), none, .val (.extract 1 (.tmp 20))⟩,
    ⟨(some 7), none, .val (.mv (.tmp 24))⟩,
    ⟨(some 8), none, .val (.mv (.tmp 25))⟩] [21, 22, 23, 20, 24, 25])
  (.seq (.region [
    ⟨(some 26), none, .val (.mv (.tmp 0))⟩,
    ⟨(some 27), none, .call (.const (.func (.func F.appeals_Check) [] [])) [(.tmp 26)]⟩,
    ⟨(some 28), none, .val (.mv (.tmp 0))⟩,
    ⟨(some 29), none, .call (.const (.func (.func F.podiumref51_Check) [] [])) [(.tmp 28)]⟩,
    ⟨(some 30), none, .val (.bin .eql T.apiErrno (.tmp 27) (.tmp 29))⟩,
    ⟨(some 31), none, .val (.mv (.tmp 30))⟩,
    ⟨(some 32), (some (31, true)), .val (.mv (.tmp 5))⟩,
    ⟨(some 33), (some (31, true)), .val (.mv (.tmp 7))⟩,
    ⟨(some 34), (some (31, true)), .call (.const (.func (.func F.podiumref51_SameDecisions) [] [])) [(.tmp 32), (.tmp 33)]⟩,
    ⟨(some 35), none, .val (.pick (.tmp 31) (.tmp 34) (.const (.bool false)))⟩,
    ⟨(some 36), none, .val (.mv (.tmp 35))⟩,
    ⟨(some 37), (some (36, true)), .val (.mv (.tmp 6))⟩,
    ⟨(some 38), (some (36, true)), .val (.mv (.tmp 8))⟩,
    ⟨(some 39), (some (36, true)), .val (.bin .eql T.apiErrno (.tmp 37) (.tmp 38))⟩,
    ⟨(some 40), none, .val (.pick (.tmp 36) (.tmp 39) (.const (.bool false)))⟩,
    ⟨(some 4), none, .val (.mv (.tmp 40))⟩] [26, 27, 28, 29, 30, 31, 32, 33, 34, 35, 36, 37, 38, 39, 40])
  .ret))))))⟩
theorem H.podiumlaw51_AppealsSpec : Has P F.podiumlaw51_AppealsSpec C.podiumlaw51_AppealsSpec := ⟨Try.f3, Try.func3, by kernel_rfl, by kernel_rfl⟩

/-- podium/podiumlaw51.AppealsApplySpec -/
noncomputable def C.podiumlaw51_AppealsApplySpec : MFunc := ⟨39, 3, [.tmp 6],
  (.seq (.region [
    ⟨(some 6), none, .val (.mv (.const (.bool false)))⟩] [])
  (.seq (.seq (.region [
    ⟨(some 11), none, .call (.const (.func (.func F.podiumlaw51_sane) [] [])) []⟩,
    ⟨(some 12), none, .val (.un .not (.tmp 11))⟩] [11])
  (.cond (.tmp 12)
  (.seq (.region [
    ⟨(some 6), none, .val (.mv (.const (.bool false)))⟩] [])
  .ret)
  .skip))
  (.seq (.seq (.region [
    ⟨(some 13), none, .val (.mv (.tmp 0))⟩,
    ⟨(some 14), none, .val (.mv (.tmp 1))⟩,
    ⟨(some 15), none, .call (.const (.func (.func F.podiumref51_Few) [] [])) [(.tmp 13), (.tmp 14)]⟩,
    ⟨(some 16), none, .val (.un .not (.tmp 15))⟩] [13, 14, 15])
  (.cond (.tmp 16)
  (.seq (.region [
    ⟨(some 6), none, .val (.mv (.const (.bool true)))⟩] [])
  .ret)
  .skip))
  (.seq (.region [
    ⟨(some 18), none, .val (.mv (.tmp 0))⟩,
    ⟨(some 19), none, .val (.mv (.tmp 1))⟩,
    ⟨(some 20), none, .val (.mv (.tmp 2))⟩,
    ⟨(some 21), none, .call (.const (.func (.func F.appeals_Apply) [] [])) [(.tmp 18), (.tmp 19), (.tmp 20)]⟩,
    ⟨(some 17), none, .val (.mv (.tmp 21))⟩,
    ⟨(some 22), none, .val (.extract 0 (.tmp 17))⟩,
    ⟨(some 23), none, .val (.extract 1 (.tmp 17))⟩,
    ⟨(some 7), none, .val (.mv (.tmp 22))⟩,
    ⟨(some 8), none, .val (.mv (.tmp 23))⟩] [18, 19, 20, 21, 17, 22, 23])
  (.seq (.region [
    ⟨(some 25), none, .val (.mv (.tmp 0))⟩,
    ⟨(some 26), none, .val (.mv (.tmp 1))⟩,
    ⟨(some 27), none, .val (.mv (.tmp 2))⟩,
    ⟨(some 28), none, .call (.const (.func (.func F.podiumref51_Apply) [] [])) [(.tmp 25), (.tmp 26), (.tmp 27)]⟩,
    ⟨(some 24), none, .val (.mv (.tmp 28))⟩,
    ⟨(some 29), none, .val (.extract 0 (.tmp 24))⟩,
    ⟨(some 30), none, .val (.extract 1 (.tmp 24))⟩,
    ⟨(some 9), none, .val (.mv (.tmp 29))⟩,
    ⟨(some 10), none, .val (.mv (.tmp 30))⟩] [25, 26, 27, 28, 24, 29, 30])
  (.seq (.region [
    ⟨(some 31), none, .val (.mv (.tmp 7))⟩,
    ⟨(some 32), none, .val (.mv (.tmp 9))⟩,
    ⟨(some 33), none, .call (.const (.func (.func F.podiumref51_Same) [] [])) [(.tmp 31), (.tmp 32)]⟩,
    ⟨(some 34), none, .val (.mv (.tmp 33))⟩,
    ⟨(some 35), (some (34, true)), .val (.mv (.tmp 8))⟩,
    ⟨(some 36), (some (34, true)), .val (.mv (.tmp 10))⟩,
    ⟨(some 37), (some (34, true)), .val (.bin .eql T.apiErrno (.tmp 35) (.tmp 36))⟩,
    ⟨(some 38), none, .val (.pick (.tmp 34) (.tmp 37) (.const (.bool false)))⟩,
    ⟨(some 6), none, .val (.mv (.tmp 38))⟩] [31, 32, 33, 34, 35, 36, 37, 38])
  .ret))))))⟩
theorem H.podiumlaw51_AppealsApplySpec : Has P F.podiumlaw51_AppealsApplySpec C.podiumlaw51_AppealsApplySpec := ⟨Try.f4, Try.func4, by kernel_rfl, by kernel_rfl⟩

/-- podium/podiumlaw51.sane -/
noncomputable def C.podiumlaw51_sane : MFunc := ⟨187, 0, [.tmp 0],
  (.seq (.region [
    ⟨(some 0), none, .val (.mv (.const (.bool false)))⟩] [])
  (.seq (.region [
    ⟨(some 19), none, .call (.const (.func (.func F.podiumlaw51_mark) [] [])) [(.const (.int 3)), (.const (.int 5))]⟩,
    ⟨(some 20), none, .call (.const (.func (.func F.podiumlaw51_mark) [] [])) [(.const (.int 4)), (.const (.int 6))]⟩,
    ⟨(some 21), none, .val (.build [(.int 0), (.int 0), (.int 0), (.int 0), (.int 0), (.int 0), (.int 0), (.int 0), (.int 0)] [(0, 1, (.const (.int 5))), (1, 1, (.const (.int 4))), (6, 1, (.const (.int 1)))])⟩,
    ⟨(some 22), none, .val (.buildSlice T.apiEvent 3 [(.int 0), (.int 0), (.int 0), (.int 0), (.int 0), (.int 0), (.int 0), (.int 0), (.int 0), (.int 0), (.int 0), (.int 0), (.int 0), (.int 0), (.int 0), (.int 0), (.int 0), (.int 0), (.int 0), (.int 0), (.int 0), (.int 0), (.int 0), (.int 0), (.int 0), (.int 0), (.int 0)] [(0, 9, (.tmp 19)), (9, 9, (.tmp 20)), (18, 9, (.tmp 21))])⟩,
    ⟨(some 1), none, .val (.mv (.tmp 22))⟩] [19, 20, 21, 22])
  (.seq (.region [
    ⟨(some 23), none, .val (.build [(.int 0), (.int 0), (.int 0), (.int 0), (.int 0), (.int 0), (.int 0), (.int 0), (.int 0), (.int 0), (.int 0), (.int 0), (.int 0), (.int 0)] [(0, 1, (.const (.int 1))), (1, 1, (.const (.int 9))), (2, 1, (.const (.int 1))), (3, 1, (.const (.int 3)))])⟩,
    ⟨(some 24), none, .val (.build [(.int 0), (.int 0), (.int 0), (.int 0), (.int 0), (.int 0), (.int 0), (.int 0), (.int 0), (.int 0), (.int 0), (.int 0), (.int 0), (.int 0)] [(0, 1, (.const (.int 2))), (1, 1, (.const (.int 4))), (2, 1, (.const (.int 2))), (3, 1, (.const (.int 4))), (4, 1, (.const (.int 8)))])⟩,
    ⟨(some 25), none, .call (.const (.func (.func F.podiumlaw51_mark) [] [])) [(.const (.int 3)), (.const (.int 9))]⟩,
    ⟨(some 26), none, .val (.build [(.int 0), (.int 0), (.int 0), (.int 0), (.int 0), (.int 0), (.int 0), (.int 0), (.int 0), (.int 0), (.int 0), (.int 0), (.int 0), (.int 0)] [(0, 1, (.const (.int 7))), (1, 1, (.const (.int 20))), (2, 1, (.const (.int 3))), (5, 9, (.tmp 25))])⟩,
    ⟨(some 27), none, .val (.build [(.int 0), (.int 0), (.int 0), (.int 0), (.int 0), (.int 0), (.int 0), (.int 0), (.int 0), (.int 0), (.int 0), (.int 0), (.int 0), (.int 0)] [(0, 1, (.const (.int 8))), (1, 1, (.const (.int 4))), (2, 1, (.const (.int 2))), (3, 1, (.const (.int 5))), (4, 1, (.const (.int 7)))])⟩,
    ⟨(some 28), none, .call (.const (.func (.func F.podiumlaw51_mark) [] [])) [(.const (.int 1)), (.const (.int 2))]⟩,
    ⟨(some 29), none, .val (.build [(.int 0), (.int 0), (.int 0), (.int 0), (.int 0), (.int 0), (.int 0), (.int 0), (.int 0), (.int 0), (.int 0), (.int 0), (.int 0), (.int 0)] [(0, 1, (.const (.int 9))), (1, 1, (.const (.int 4))), (2, 1, (.const (.int 3))), (5, 9, (.tmp 28))])⟩,
    ⟨(some 30), none, .val (.buildSlice T.apiDecision 5 ((.int 0) :: (.int 0) :: (.int 0) :: (.int 0) :: (.int 0) :: (.int 0) :: (.int 0) :: (.int 0) :: (.int 0) :: (.int 0) :: (.int 0) :: (.int 0) :: (.int 0) :: (.int 0) :: (.int 0) :: (.int 0) :: (.int 0) :: (.int 0) :: (.int 0) :: (.int 0) :: (.int 0) :: (.int 0) :: (.int 0) :: (.int 0) :: (.int 0) :: (.int 0) :: (.int 0) :: (.int 0) :: (.int 0) :: (.int 0) :: (.int 0) :: (.int 0) :: (.int 0) :: (.int 0) :: (.int 0) :: (.int 0) :: (.int 0) :: (.int 0) :: (.int 0) :: (.int 0) :: (.int 0) :: (.int 0) :: (.int 0) :: (.int 0) :: (.int 0) :: (.int 0) :: (.int 0) :: (.int 0) :: (.int 0) :: (.int 0) :: (.int 0) :: (.int 0) :: (.int 0) :: (.int 0) :: (.int 0) :: (.int 0) :: (.int 0) :: (.int 0) :: (.int 0) :: (.int 0) :: (.int 0) :: (.int 0) :: (.int 0) :: (.int 0) :: (.int 0) :: (.int 0) :: (.int 0) :: (.int 0) :: (.int 0) :: (.int 0) :: []) [(0, 14, (.tmp 23)), (14, 14, (.tmp 24)), (28, 14, (.tmp 26)), (42, 14, (.tmp 27)), (56, 14, (.tmp 29))])⟩,
    ⟨(some 2), none, .val (.mv (.tmp 30))⟩] [23, 24, 25, 26, 27, 28, 29, 30])
  (.seq (.region [
    ⟨(some 32), none, .call (.const (.func (.func F.appeals_Apply) [] [])) [(.const .nil), (.const .nil), (.const (.int 0))]⟩,
    ⟨(some 31), none, .val (.mv (.tmp 32))⟩,
    ⟨(some 33), none, .val (.extract 0 (.tmp 31))⟩,
    ⟨(some 34), none, .val (.extract 1 (.tmp 31))⟩,
    ⟨(some 3), none, .val (.mv (.tmp 33))⟩,
    ⟨(some 4), none, .val (.mv (.tmp 34))⟩] [32, 31, 33, 34])
  (.seq (.region [
    ⟨(some 36), none, .val (.mv (.tmp 1))⟩,
    ⟨(some 37), none, .val (.mv (.tmp 2))⟩,
    ⟨(some 38), none, .call (.const (.func (.func F.appeals_Apply) [] [])) [(.tmp 36), (.tmp 37), (.const (.int 3))]⟩,
    ⟨(some 35), none, .val (.mv (.tmp 38))⟩,
    ⟨(some 39), none, .val (.extract 0 (.tmp 35))⟩,
    ⟨(some 40), none, .val (.extract 1 (.tmp 35))⟩,
    ⟨(some 5), none, .val (.mv (.tmp 39))⟩,
    ⟨(some 6), none, .val (.mv (.tmp 40))⟩] [36, 37, 38, 35, 39, 40])
  (.seq (.region [
    ⟨(some 42), none, .val (.mv (.tmp 1))⟩,
    ⟨(some 43), none, .val (.mv (.tmp 2))⟩,
    ⟨(some 44), none, .call (.const (.func (.func F.appeals_Apply) [] [])) [(.tmp 42), (.tmp 43), (.const (.int 4))]⟩,
    ⟨(some 41), none, .val (.mv (.tmp 44))⟩,
    ⟨(some 45), none, .val (.extract 0 (.tmp 41))⟩,
    ⟨(some 46), none, .val (.extract 1 (.tmp 41))⟩,
    ⟨(some 7), none, .val (.mv (.tmp 45))⟩,
    ⟨(some 8), none, .val (.mv (.tmp 46))⟩] [42, 43, 44, 41, 45, 46])
  (.seq (.region [
    ⟨(some 48), none, .val (.mv (.tmp 1))⟩,
    ⟨(some 49), none, .val (.mv (.tmp 2))⟩,
    ⟨(some 50), none, .call (.const (.func (.func F.appeals_Apply) [] [])) [(.tmp 48), (.tmp 49), (.const (.int 9))]⟩,
    ⟨(some 47), none, .val (.mv (.tmp 50))⟩,
    ⟨(some 51), none, .val (.extract 0 (.tmp 47))⟩,
    ⟨(some 52), none, .val (.extract 1 (.tmp 47))⟩,
    ⟨(some 9), none, .val (.mv (.tmp 51))⟩,
    ⟨(some 10), none, .val (.mv (.tmp 52))⟩] [48, 49, 50, 47, 51, 52])
  (.seq (.region [
    ⟨(some 54), none, .val (.mv (.tmp 1))⟩,
    ⟨(some 55), none, .val (.mv (.tmp 2))⟩,
    ⟨(some 56), none, .call (.const (.func (.func F.appeals_Apply) [] [])) [(.tmp 54), (.tmp 55), (.const (.int 20))]⟩,
    ⟨(some 53), none, .val (.mv (.tmp 56))⟩,
    ⟨(some 57), none, .val (.extract 0 (.tmp 53))⟩,
    ⟨(some 58), none, .val (.extract 1 (.tmp 53))⟩,
    ⟨(some 11), none, .val (.mv (.tmp 57))⟩,
    ⟨(some 12), none, .val (.mv (.tmp 58))⟩] [54, 55, 56, 53, 57, 58])
  (.seq (.region [
    ⟨(some 60), none, .val (.mv (.tmp 2))⟩,
    ⟨(some 61), none, .call (.const (.func (.func F.appeals_Standing) [] [])) [(.tmp 60), (.const (.int 8))]⟩,
    ⟨(some 59), none, .val (.mv (.tmp 61))⟩,
    ⟨(some 62), none, .val (.extract 0 (.tmp 59))⟩,
    ⟨(some 63), none, .val (.extract 1 (.tmp 59))⟩,
    ⟨(some 13), none, .val (.mv (.tmp 62))⟩,
    ⟨(some 14), none, .val (.mv (.tmp 63))⟩] [60, 61, 59, 62, 63])
  (.seq (.region [
    ⟨(some 65), none, .val (.mv (.tmp 2))⟩,
    ⟨(some 66), none, .call (.const (.func (.func F.appeals_Standing) [] [])) [(.tmp 65), (.const (.int 9))]⟩,
    ⟨(some 64), none, .val (.mv (.tmp 66))⟩,
    ⟨(some 67), none, .val (.extract 0 (.tmp 64))⟩,
    ⟨(some 68), none, .val (.extract 1 (.tmp 64))⟩,
    ⟨(some 15), none, .val (.mv (.tmp 67))⟩,
    ⟨(some 16), none, .val (.mv (.tmp 68))⟩] [65, 66, 64, 67, 68])
  (.seq (.region [
    ⟨(some 70), none, .call (.const (.func (.func F.appeals_Standing) [] [])) [(.const .nil), (.const (.int (-1)))]⟩,
    ⟨(some 69), none, .val (.mv (.tmp 70))⟩,
    ⟨(some 71), none, .val (.extract 0 (.tmp 69))⟩,
    ⟨(some 72), none, .val (.extract 1 (.tmp 69))⟩,
    ⟨(some 17), none, .val (.mv (.tmp 71))⟩,
    ⟨(some 18), none, .val (.mv (.tmp 72))⟩] [70, 69, 71, 72, 17])
  (.seq (.seq (.region (
    ⟨(some 73), none, .val (.mv (.tmp 4))⟩ ::
    ⟨(some 74), none, .val (.bin .neq T.apiErrno (.tmp 73) (.const (.int 0)))⟩ ::
    ⟨(some 75), none, .val (.mv (.tmp 74))⟩ ::
    ⟨(some 76), (some (75, false)), .val (.mv (.tmp 6))⟩ ::
    ⟨(some 77), (some (75, false)), .val (.bin .neq T.apiErrno (.tmp 76) (.const (.int 0)))⟩ ::
    ⟨(some 78), none, .val (.pick (.tmp 75) (.const (.bool true)) (.tmp 77))⟩ ::
    ⟨(some 79), none, .val (.mv (.tmp 78))⟩ ::
    ⟨(some 80), (some (79, false)), .val (.mv (.tmp 8))⟩ ::
    ⟨(some 81), (some (79, false)), .val (.bin .neq T.apiErrno (.tmp 80) (.const (.int 0)))⟩ ::
    ⟨(some 82), none, .val (.pick (.tmp 79) (.const (.bool true)) (.tmp 81))⟩ ::
    ⟨(some 83), none, .val (.mv (.tmp 82))⟩ ::
    ⟨(some 84), (some (83, false)), .val (.mv (.tmp 10))⟩ ::
    ⟨(some 85), (some (83, false)), .val (.bin .neq T.apiErrno (.tmp 84) (.const (.int 0)))⟩ ::
    ⟨(some 86), none, .val (.pick (.tmp 83) (.const (.bool true)) (.tmp 85))⟩ ::
    ⟨(some 87), none, .val (.mv (.tmp 86))⟩ ::
    ⟨(some 88), (some (87, false)), .val (.mv (.tmp 12))⟩ ::
    ⟨(some 89), (some (87, false)), .val (.bin .neq T.apiErrno (.tmp 88) (.const (.int 0)))⟩ ::
    ⟨(some 90), none, .val (.pick (.tmp 87) (.const (.bool true)) (.tmp 89))⟩ ::
    ⟨(some 91), none, .val (.mv (.tmp 90))⟩ ::
    ⟨(some 92), (some (91, false)), .val (.mv (.tmp 14))⟩ ::
    ⟨(some 93), (some (91, false)), .val (.bin .neq T.apiErrno (.tmp 92) (.const (.int 0)))⟩ ::
    ⟨(some 94), none, .val (.pick (.tmp 91) (.const (.bool true)) (.tmp 93))⟩ ::
    ⟨(some 95), none, .val (.mv (.tmp 94))⟩ ::
    ⟨(some 96), (some (95, false)), .val (.mv (.tmp 16))⟩ ::
    ⟨(some 97), (some (95, false)), .val (.bin .neq T.apiErrno (.tmp 96) (.const (.int 0)))⟩ ::
    ⟨(some 98), none, .val (.pick (.tmp 95) (.const (.bool true)) (.tmp 97))⟩ ::
    ⟨(some 99), none, .val (.mv (.tmp 98))⟩ ::
    ⟨(some 100), (some (99, false)), .val (.mv (.tmp 18))⟩ ::
    ⟨(some 101), (some (99, false)), .val (.bin .neq T.apiErrno (.tmp 100) (.const (.int 1)))⟩ ::
    ⟨(some 102), none, .val (.pick (.tmp 99) (.const (.bool true)) (.tmp 101))⟩ ::
    ⟨(some 103), none, .val (.mv (.tmp 102))⟩ ::
    ⟨(some 104), (some (103, false)), .val (.mv (.tmp 3))⟩ ::
    ⟨(some 105), (some (103, false)), .val (.len (.tmp 104))⟩ ::
    ⟨(some 106), (some (103, false)), .val (.bin .neq T.int (.tmp 105) (.const (.int 0)))⟩ ::
    ⟨(some 107), none, .val (.pick (.tmp 103) (.const (.bool true)) (.tmp 106))⟩ ::
    ⟨(some 108), none, .val (.mv (.tmp 107))⟩ ::
    ⟨(some 109), (some (108, false)), .val (.mv (.tmp 5))⟩ ::
    ⟨(some 110), (some (108, false)), .val (.mv (.tmp 1))⟩ ::
    ⟨(some 111), (some (108, false)), .call (.const (.func (.func F.podiumref51_Same) [] [])) [(.tmp 109), (.tmp 110)]⟩ ::
    ⟨(some 112), (some (108, false)), .val (.un .not (.tmp 111))⟩ ::
    ⟨(some 113), none, .val (.pick (.tmp 108) (.const (.bool true)) (.tmp 112))⟩ :: []) (73 :: 74 :: 75 :: 76 :: 77 :: 78 :: 79 :: 80 :: 81 :: 82 :: 83 :: 84 :: 85 :: 86 :: 87 :: 88 :: 89 :: 90 :: 91 :: 92 :: 93 :: 94 :: 95 :: 96 :: 97 :: 98 :: 99 :: 100 :: 101 :: 102 :: 103 :: 104 :: 105 :: 106 :: 107 :: 108 :: 109 :: 110 :: 111 :: 112 :: []))
  (.cond (.tmp 113)
  (.seq (.region [
    ⟨(some 0), none, .val (.mv (.const (.bool false)))⟩] [])
  .ret)
  .skip))
  (.seq (.seq (.draw true (
    (.late, ⟨(some 114), none, .val (.mv (.tmp 7))⟩) ::
    (.late, ⟨(some 118), none, .val (.mv (.tmp 1))⟩) ::
    (.late, ⟨(some 119), none, .val (.indexAddr 9 (.tmp 118) (.const (.int 2)))⟩) ::
    (.late, ⟨(some 120), none, .val (.load 9 true (.tmp 119))⟩) ::
    (.hard, ⟨(some 115), none, .call (.const (.func (.func F.podiumlaw51_mark) [] [])) [(.const (.int 1)), (.const (.int 2))]⟩) ::
    (.hard, ⟨(some 116), none, .call (.const (.func (.func F.podiumlaw51_mark) [] [])) [(.const (.int 3)), (.const (.int 5))]⟩) ::
    (.hard, ⟨(some 117), none, .call (.const (.func (.func F.podiumlaw51_mark) [] [])) [(.const (.int 4)), (.const (.int 8))]⟩) ::
    (.late, ⟨(some 121), none, .val (.buildSlice T.apiEvent 4 ((.int 0) :: (.int 0) :: (.int 0) :: (.int 0) :: (.int 0) :: (.int 0) :: (.int 0) :: (.int 0) :: (.int 0) :: (.int 0) :: (.int 0) :: (.int 0) :: (.int 0) :: (.int 0) :: (.int 0) :: (.int 0) :: (.int 0) :: (.int 0) :: (.int 0) :: (.int 0) :: (.int 0) :: (.int 0) :: (.int 0) :: (.int 0) :: (.int 0) :: (.int 0) :: (.int 0) :: (.int 0) :: (.int 0) :: (.int 0) :: (.int 0) :: (.int 0) :: (.int 0) :: (.int 0) :: (.int 0) :: (.int 0) :: []) [(0, 9, (.tmp 115)), (9, 9, (.tmp 116)), (18, 9, (.tmp 117)), (27, 9, (.tmp 120))])⟩) ::
    (.hard, ⟨(some 122), none, .call (.const (.func (.func F.podiumref51_Same) [] [])) [(.tmp 114), (.tmp 121)]⟩) ::
    (.late, ⟨(some 123), none, .val (.un .not (.tmp 122))⟩) ::
    (.late, ⟨(some 124), none, .val (.mv (.tmp 123))⟩) ::
    (.late, ⟨(some 125), (some (124, false)), .val (.mv (.tmp 9))⟩) ::
    (.late, ⟨(some 128), (some (124, false)), .val (.mv (.tmp 1))⟩) ::
    (.late, ⟨(some 129), (some (124, false)), .val (.indexAddr 9 (.tmp 128) (.const (.int 2)))⟩) ::
    (.late, ⟨(some 130), (some (124, false)), .val (.load 9 true (.tmp 129))⟩) ::
    (.hard, ⟨(some 126), (some (124, false)), .call (.const (.func (.func F.podiumlaw51_mark) [] [])) [(.const (.int 1)), (.const (.int 2))]⟩) ::
    (.hard, ⟨(some 127), (some (124, false)), .call (.const (.func (.func F.podiumlaw51_mark) [] [])) [(.const (.int 4)), (.const (.int 8))]⟩) ::
    (.late, ⟨(some 131), (some (124, false)), .val (.buildSlice T.apiEvent 3 [(.int 0), (.int 0), (.int 0), (.int 0), (.int 0), (.int 0), (.int 0), (.int 0), (.int 0), (.int 0), (.int 0), (.int 0), (.int 0), (.int 0), (.int 0), (.int 0), (.int 0), (.int 0), (.int 0), (.int 0), (.int 0), (.int 0), (.int 0), (.int 0), (.int 0), (.int 0), (.int 0)] [(0, 9, (.tmp 126)), (9, 9, (.tmp 127)), (18, 9, (.tmp 130))])⟩) ::
    (.hard, ⟨(some 132), (some (124, false)), .call (.const (.func (.func F.podiumref51_Same) [] [])) [(.tmp 125), (.tmp 131)]⟩) ::
    (.late, ⟨(some 133), (some (124, false)), .val (.un .not (.tmp 132))⟩) ::
    (.late, ⟨(some 134), none, .val (.pick (.tmp 124) (.const (.bool true)) (.tmp 133))⟩) ::
    (.late, ⟨(some 135), none, .val (.mv (.tmp 134))⟩) ::
    (.late, ⟨(some 136), (some (135, false)), .val (.mv (.tmp 11))⟩) ::
    (.late, ⟨(some 140), (some (135, false)), .val (.mv (.tmp 1))⟩) ::
    (.late, ⟨(some 141), (some (135, false)), .val (.indexAddr 9 (.tmp 140) (.const (.int 2)))⟩) ::
    (.late, ⟨(some 142), (some (135, false)), .val (.load 9 true (.tmp 141))⟩) ::
    (.hard, ⟨(some 137), (some (135, false)), .call (.const (.func (.func F.podiumlaw51_mark) [] [])) [(.const (.int 1)), (.const (.int 2))]⟩) ::
    (.hard, ⟨(some 138), (some (135, false)), .call (.const (.func (.func F.podiumlaw51_mark) [] [])) [(.const (.int 3)), (.const (.int 9))]⟩) ::
    (.hard, ⟨(some 139), (some (135, false)), .call (.const (.func (.func F.podiumlaw51_mark) [] [])) [(.const (.int 4)), (.const (.int 8))]⟩) ::
    (.late, ⟨(some 143), (some (135, false)), .val (.buildSlice T.apiEvent 4 ((.int 0) :: (.int 0) :: (.int 0) :: (.int 0) :: (.int 0) :: (.int 0) :: (.int 0) :: (.int 0) :: (.int 0) :: (.int 0) :: (.int 0) :: (.int 0) :: (.int 0) :: (.int 0) :: (.int 0) :: (.int 0) :: (.int 0) :: (.int 0) :: (.int 0) :: (.int 0) :: (.int 0) :: (.int 0) :: (.int 0) :: (.int 0) :: (.int 0) :: (.int 0) :: (.int 0) :: (.int 0) :: (.int 0) :: (.int 0) :: (.int 0) :: (.int 0) :: (.int 0) :: (.int 0) :: (.int 0) :: (.int 0) :: []) [(0, 9, (.tmp 137)), (9, 9, (.tmp 138)), (18, 9, (.tmp 139)), (27, 9, (.tmp 142))])⟩) ::
    (.hard, ⟨(some 144), (some (135, false)), .call (.const (.func (.func F.podiumref51_Same) [] [])) [(.tmp 136), (.tmp 143)]⟩) ::
    (.late, ⟨(some 145), (some (135, false)), .val (.un .not (.tmp 144))⟩) ::
    (.late, ⟨(some 146), none, .val (.pick (.tmp 135) (.const (.bool true)) (.tmp 145))⟩) :: []) (114 :: 115 :: 116 :: 117 :: 118 :: 119 :: 120 :: 121 :: 122 :: 123 :: 124 :: 125 :: 126 :: 127 :: 128 :: 129 :: 130 :: 131 :: 132 :: 133 :: 134 :: 135 :: 136 :: 137 :: 138 :: 139 :: 140 :: 141 :: 142 :: 143 :: 144 :: 145 :: []))
  (.cond (.tmp 146)
  (.seq (.region [
    ⟨(some 0), none, .val (.mv (.const (.bool false)))⟩] [])
  .ret)
  .skip))
  (.seq (.draw true (
    (.early, ⟨(some 147), none, .val (.mv (.tmp 13))⟩) ::
    (.early, ⟨(some 148), none, .val (.mv (.tmp 2))⟩) ::
    (.early, ⟨(some 149), none, .val (.indexAddr 14 (.tmp 148) (.const (.int 1)))⟩) ::
    (.early, ⟨(some 150), none, .val (.load 14 true (.tmp 149))⟩) ::
    (.early, ⟨(some 151), none, .val (.mv (.tmp 2))⟩) ::
    (.early, ⟨(some 152), none, .val (.indexAddr 14 (.tmp 151) (.const (.int 3)))⟩) ::
    (.early, ⟨(some 153), none, .val (.load 14 true (.tmp 152))⟩) ::
    (.early, ⟨(some 154), none, .val (.mv (.tmp 2))⟩) ::
    (.early, ⟨(some 155), none, .val (.indexAddr 14 (.tmp 154) (.const (.int 4)))⟩) ::
    (.early, ⟨(some 156), none, .val (.load 14 true (.tmp 155))⟩) ::
    (.early, ⟨(some 157), none, .val (.buildSlice T.apiDecision 3 ((.int 0) :: (.int 0) :: (.int 0) :: (.int 0) :: (.int 0) :: (.int 0) :: (.int 0) :: (.int 0) :: (.int 0) :: (.int 0) :: (.int 0) :: (.int 0) :: (.int 0) :: (.int 0) :: (.int 0) :: (.int 0) :: (.int 0) :: (.int 0) :: (.int 0) :: (.int 0) :: (.int 0) :: (.int 0) :: (.int 0) :: (.int 0) :: (.int 0) :: (.int 0) :: (.int 0) :: (.int 0) :: (.int 0) :: (.int 0) :: (.int 0) :: (.int 0) :: (.int 0) :: (.int 0) :: (.int 0) :: (.int 0) :: (.int 0) :: (.int 0) :: (.int 0) :: (.int 0) :: (.int 0) :: (.int 0) :: []) [(0, 14, (.tmp 150)), (14, 14, (.tmp 153)), (28, 14, (.tmp 156))])⟩) ::
    (.hard, ⟨(some 158), none, .call (.const (.func (.func F.podiumref51_SameDecisions) [] [])) [(.tmp 147), (.tmp 157)]⟩) ::
    (.late, ⟨(some 159), none, .val (.mv (.tmp 158))⟩) ::
    (.late, ⟨(some 160), (some (159, true)), .val (.mv (.tmp 15))⟩) ::
    (.late, ⟨(some 161), (some (159, true)), .val (.mv (.tmp 2))⟩) ::
    (.late, ⟨(some 162), (some (159, true)), .val (.indexAddr 14 (.tmp 161) (.const (.int 1)))⟩) ::
    (.late, ⟨(some 163), (some (159, true)), .val (.load 14 true (.tmp 162))⟩) ::
    (.late, ⟨(some 164), (some (159, true)), .val (.mv (.tmp 2))⟩) ::
    (.late, ⟨(some 165), (some (159, true)), .val (.indexAddr 14 (.tmp 164) (.const (.int 3)))⟩) ::
    (.late, ⟨(some 166), (some (159, true)), .val (.load 14 true (.tmp 165))⟩) ::
    (.late, ⟨(some 167), (some (159, true)), .val (.mv (.tmp 2))⟩) ::
    (.late, ⟨(some 168), (some (159, true)), .val (.indexAddr 14 (.tmp 167) (.const (.int 4)))⟩) ::
    (.late, ⟨(some 169), (some (159, true)), .val (.load 14 true (.tmp 168))⟩) ::
    (.late, ⟨(some 170), (some (159, true)), .val (.mv (.tmp 2))⟩) ::
    (.late, ⟨(some 171), (some (159, true)), .val (.indexAddr 14 (.tmp 170) (.const (.int 0)))⟩) ::
    (.late, ⟨(some 172), (some (159, true)), .val (.load 14 true (.tmp 171))⟩) ::
    (.late, ⟨(some 173), (some (159, true)), .val (.buildSlice T.apiDecision 4 ((.int 0) :: (.int 0) :: (.int 0) :: (.int 0) :: (.int 0) :: (.int 0) :: (.int 0) :: (.int 0) :: (.int 0) :: (.int 0) :: (.int 0) :: (.int 0) :: (.int 0) :: (.int 0) :: (.int 0) :: (.int 0) :: (.int 0) :: (.int 0) :: (.int 0) :: (.int 0) :: (.int 0) :: (.int 0) :: (.int 0) :: (.int 0) :: (.int 0) :: (.int 0) :: (.int 0) :: (.int 0) :: (.int 0) :: (.int 0) :: (.int 0) :: (.int 0) :: (.int 0) :: (.int 0) :: (.int 0) :: (.int 0) :: (.int 0) :: (.int 0) :: (.int 0) :: (.int 0) :: (.int 0) :: (.int 0) :: (.int 0) :: (.int 0) :: (.int 0) :: (.int 0) :: (.int 0) :: (.int 0) :: (.int 0) :: (.int 0) :: (.int 0) :: (.int 0) :: (.int 0) :: (.int 0) :: (.int 0) :: (.int 0) :: []) [(0, 14, (.tmp 163)), (14, 14, (.tmp 166)), (28, 14, (.tmp 169)), (42, 14, (.tmp 172))])⟩) ::
    (.hard, ⟨(some 174), (some (159, true)), .call (.const (.func (.func F.podiumref51_SameDecisions) [] [])) [(.tmp 160), (.tmp 173)]⟩) ::
    (.late, ⟨(some 175), none, .val (.pick (.tmp 159) (.tmp 174) (.const (.bool false)))⟩) ::
    (.late, ⟨(some 176), none, .val (.mv (.tmp 175))⟩) ::
    (.late, ⟨(some 177), (some (176, true)), .val (.mv (.tmp 2))⟩) ::
    (.hard, ⟨(some 178), (some (176, true)), .call (.const (.func (.func F.appeals_Check) [] [])) [(.tmp 177)]⟩) ::
    (.late, ⟨(some 179), (some (176, true)), .val (.bin .eql T.apiErrno (.tmp 178) (.const (.int 0)))⟩) ::
    (.late, ⟨(some 180), none, .val (.pick (.tmp 176) (.tmp 179) (.const (.bool false)))⟩) ::
    (.late, ⟨(some 181), none, .val (.mv (.tmp 180))⟩) ::
    (.late, ⟨(some 182), (some (181, true)), .val (.build [(.int 0), (.int 0), (.int 0), (.int 0), (.int 0), (.int 0), (.int 0), (.int 0), (.int 0), (.int 0), (.int 0), (.int 0), (.int 0), (.int 0)] [(2, 1, (.const (.int 4)))])⟩) ::
    (.late, ⟨(some 183), (some (181, true)), .val (.buildSlice T.apiDecision 1 [(.int 0), (.int 0), (.int 0), (.int 0), (.int 0), (.int 0), (.int 0), (.int 0), (.int 0), (.int 0), (.int 0), (.int 0), (.int 0), (.int 0)] [(0, 14, (.tmp 182))])⟩) ::
    (.hard, ⟨(some 184), (some (181, true)), .call (.const (.func (.func F.appeals_Check) [] [])) [(.tmp 183)]⟩) ::
    (.late, ⟨(some 185), (some (181, true)), .val (.bin .eql T.apiErrno (.tmp 184) (.const (.int 510)))⟩) ::
    (.late, ⟨(some 186), none, .val (.pick (.tmp 181) (.tmp 185) (.const (.bool false)))⟩) ::
    (.late, ⟨(some 0), none, .val (.mv (.tmp 186))⟩) :: []) (147 :: 148 :: 149 :: 150 :: 151 :: 152 :: 153 :: 154 :: 155 :: 156 :: 157 :: 158 :: 159 :: 160 :: 161 :: 162 :: 163 :: 164 :: 165 :: 166 :: 167 :: 168 :: 169 :: 170 :: 171 :: 172 :: 173 :: 174 :: 175 :: 176 :: 177 :: 178 :: 179 :: 180 :: 181 :: 182 :: 183 :: 184 :: 185 :: 186 :: []))
  .ret))))))))))))))⟩
theorem H.podiumlaw51_sane : Has P F.podiumlaw51_sane C.podiumlaw51_sane := ⟨Try.f9, Try.func9, by kernel_rfl, by kernel_rfl⟩

/-- podium/podiumref51.Few -/
noncomputable def C.podiumref51_Few : MFunc := ⟨33, 2, [.tmp 4],
  (.seq (.region [
    ⟨(some 4), none, .val (.mv (.const (.bool false)))⟩] [])
  (.seq (.region [
    ⟨(some 5), none, .val (.mv (.tmp 0))⟩,
    ⟨(some 6), none, .val (.len (.tmp 5))⟩,
    ⟨(some 7), none, .val (.bin .leq T.int (.tmp 6) (.const (.int 20)))⟩,
    ⟨(some 8), none, .val (.mv (.tmp 7))⟩,
    ⟨(some 9), (some (8, false)), .val (.mv (.tmp 0))⟩,
    ⟨(some 10), (some (8, false)), .val (.len (.tmp 9))⟩,
    ⟨(some 11), (some (8, false)), .val (.bin .gtr T.int (.tmp 10) (.const (.int 4096)))⟩,
    ⟨(some 12), (some (8, false)), .val (.mv (.tmp 11))⟩,
    ⟨(some 13), (some (12, true)), .val (.mv (.tmp 0))⟩,
    ⟨(some 14), (some (12, true)), .val (.len (.tmp 13))⟩,
    ⟨(some 15), (some (12, true)), .val (.bin .leq T.int (.tmp 14) (.const (.int 4200)))⟩,
    ⟨(some 16), (some (8, false)), .val (.pick (.tmp 12) (.tmp 15) (.const (.bool false)))⟩,
    ⟨(some 17), none, .val (.pick (.tmp 8) (.const (.bool true)) (.tmp 16))⟩,
    ⟨(some 18), none, .val (.mv (.tmp 17))⟩,
    ⟨(some 19), (some (18, true)), .val (.mv (.tmp 1))⟩,
    ⟨(some 20), (some (18, true)), .val (.len (.tmp 19))⟩,
    ⟨(some 21), (some (18, true)), .val (.bin .leq T.int (.tmp 20) (.const (.int 20)))⟩,
    ⟨(some 22), (some (18, true)), .val (.mv (.tmp 21))⟩,
    ⟨(some 23), (some (22, false)), .val (.mv (.tmp 1))⟩,
    ⟨(some 24), (some (22, false)), .val (.len (.tmp 23))⟩,
    ⟨(some 25), (some (22, false)), .val (.bin .gtr T.int (.tmp 24) (.const (.int 4096)))⟩,
    ⟨(some 26), (some (22, false)), .val (.mv (.tmp 25))⟩,
    ⟨(some 27), (some (26, true)), .val (.mv (.tmp 1))⟩,
    ⟨(some 28), (some (26, true)), .val (.len (.tmp 27))⟩,
    ⟨(some 29), (some (26, true)), .val (.bin .leq T.int (.tmp 28) (.const (.int 4200)))⟩,
    ⟨(some 30), (some (22, false)), .val (.pick (.tmp 26) (.tmp 29) (.const (.bool false)))⟩,
    ⟨(some 31), (some (18, true)), .val (.pick (.tmp 22) (.const (.bool true)) (.tmp 30))⟩,
    ⟨(some 32), none, .val (.pick (.tmp 18) (.tmp 31) (.const (.bool false)))⟩,
    ⟨(some 4), none, .val (.mv (.tmp 32))⟩] [5, 6, 7, 8, 9, 10, 11, 12, 13, 14, 15, 16, 17, 18, 19, 20, 21, 22, 23, 24, 25, 26, 27, 28, 29, 30, 31, 32])
  .ret))⟩
theorem H.podiumref51_Few : Has P F.podiumref51_Few C.podiumref51_Few := ⟨Try.f10, Try.func10, by kernel_rfl, by kernel_rfl⟩

/-- podium/appeals.Standing -/
noncomputable def C.appeals_Standing : MFunc := ⟨22, 2, [.tmp 4, .tmp 5],
  (.seq (.region [
    ⟨(some 3), none, .box T.int (.tmp 1)⟩,
    ⟨(some 4), none, .val (.mv (.const .nil))⟩,
    ⟨(some 5), none, .val (.mv (.const (.int 0)))⟩] [])
  (.seq (.seq (.region [
    ⟨(some 6), none, .val (.mv (.tmp 0))⟩,
    ⟨(some 7), none, .call (.const (.func (.func F.appeals_Check) [] [])) [(.tmp 6)]⟩,
    ⟨(some 5), none, .val (.mv (.tmp 7))⟩] [6, 7])
  (.seq (.region [
    ⟨(some 8), none, .val (.mv (.tmp 5))⟩,
    ⟨(some 9), none, .val (.bin .neq T.apiErrno (.tmp 8) (.const (.int 0)))⟩] [8])
  (.cond (.tmp 9)
  (.seq (.region [
    ⟨(some 10), none, .val (.mv (.tmp 5))⟩,
    ⟨(some 4), none, .val (.mv (.const .nil))⟩,
    ⟨(some 5), none, .val (.mv (.tmp 10))⟩] [10])
  .ret)
  .skip)))
  (.seq (.seq (.region [
    ⟨(some 11), none, .val (.load 1 false (.tmp 3))⟩,
    ⟨(some 12), none, .val (.bin .lss T.int (.tmp 11) (.const (.int 0)))⟩,
    ⟨(some 13), none, .val (.mv (.tmp 12))⟩,
    ⟨(some 14), (some (13, false)), .val (.load 1 false (.tmp 3))⟩,
    ⟨(some 15), (some (13, false)), .val (.bin .geq T.int (.tmp 14) (.const (.int 2097152)))⟩,
    ⟨(some 16), none, .val (.pick (.tmp 13) (.const (.bool true)) (.tmp 15))⟩] [11, 12, 13, 14, 15])
  (.cond (.tmp 16)
  (.seq (.region [
    ⟨(some 4), none, .val (.mv (.const .nil))⟩,
    ⟨(some 5), none, .val (.mv (.const (.int 1)))⟩] [])
  .ret)
  .skip))
  (.seq (.region [
    ⟨(some 17), none, .val (.mv (.tmp 0))⟩,
    ⟨(some 18), none, .call (.const (.func (.func F.appeals_by__apiDecision) [] [])) [(.tmp 17), (.const (.func (.func F.appeals_Standing_1) [] []))]⟩,
    ⟨(some 4), none, .val (.mv (.tmp 18))⟩] [17, 18])
  (.seq (.region [
    ⟨(some 19), none, .val (.mv (.tmp 4))⟩,
    ⟨(some 20), none, .val (.mkFunc (.func F.appeals_Standing_2) [] [(.tmp 3)])⟩,
    ⟨(some 21), none, .call (.const (.func (.func F.slices_DeleteFunc__LapiDecision_apiDecision) [] [])) [(.tmp 19), (.tmp 20)]⟩,
    ⟨(some 4), none, .val (.mv (.tmp 21))⟩,
    ⟨(some 5), none, .val (.mv (.const (.int 0)))⟩] [19, 20, 21])
  .ret)))))⟩
theorem H.appeals_Standing : Has P F.appeals_Standing C.appeals_Standing := ⟨Try.f11, Try.func11, by kernel_rfl, by kernel_rfl⟩

/-- podium/podiumref51.Standing -/
noncomputable def C.podiumref51_Standing : MFunc := ⟨72, 2, [.tmp 4, .tmp 5],
  (.seq (.region [
    ⟨(some 4), none, .val (.mv (.const .nil))⟩,
    ⟨(some 5), none, .val (.mv (.const (.int 0)))⟩] [])
  (.seq (.region [
    ⟨(some 12), none, .val (.mv (.tmp 0))⟩,
    ⟨(some 13), none, .call (.const (.func (.func F.podiumref51_Check) [] [])) [(.tmp 12)]⟩,
    ⟨(some 6), none, .val (.mv (.tmp 13))⟩] [12, 13])
  (.seq (.seq (.region [
    ⟨(some 14), none, .val (.mv (.tmp 6))⟩,
    ⟨(some 15), none, .val (.bin .neq T.apiErrno (.tmp 14) (.const (.int 0)))⟩] [14])
  (.cond (.tmp 15)
  (.seq (.region [
    ⟨(some 16), none, .val (.mv (.tmp 6))⟩,
    ⟨(some 4), none, .val (.mv (.const .nil))⟩,
    ⟨(some 5), none, .val (.mv (.tmp 16))⟩] [16])
  .ret)
  .skip))
  (.seq (.seq (.region [
    ⟨(some 17), none, .val (.mv (.tmp 1))⟩,
    ⟨(some 18), none, .val (.bin .lss T.int (.tmp 17) (.const (.int 0)))⟩,
    ⟨(some 19), none, .val (.mv (.tmp 18))⟩,
    ⟨(some 20), (some (19, false)), .val (.mv (.tmp 1))⟩,
    ⟨(some 21), (some (19, false)), .val (.bin .geq T.int (.tmp 20) (.const (.int 2097152)))⟩,
    ⟨(some 22), none, .val (.pick (.tmp 19) (.const (.bool true)) (.tmp 21))⟩] [17, 18, 19, 20, 21])
  (.cond (.tmp 22)
  (.seq (.region [
    ⟨(some 4), none, .val (.mv (.const .nil))⟩,
    ⟨(some 5), none, .val (.mv (.const (.int 1)))⟩] [])
  .ret)
  .skip))
  (.seq (.region [
    ⟨(some 7), none, .val (.mv (.const .nil))⟩] [])
  (.seq (.region [
    ⟨(some 8), none, .val (.mv (.const (.int (-1))))⟩] [])
  (.seq (.block 0 (.loop (.seq (.seq (.region [
    ⟨(some 23), none, .val (.mv (.tmp 0))⟩,
    ⟨(some 24), none, .val (.len (.tmp 23))⟩,
    ⟨(some 25), none, .val (.bin .gtr T.int (.tmp 24) (.const (.int 0)))⟩] [23, 24])
  (.cond (.tmp 25)
  .skip
  (.exit 0)))
  (.block 1 (.seq (.region [
    ⟨(some 9), none, .val (.mv (.const (.int 2097152)))⟩] [])
  (.seq (.seq (.region [
    ⟨(some 10), none, .val (.mv (.const (.int 0)))⟩] [])
  (.block 2 (.loop (.seq (.seq (.region [
    ⟨(some 26), none, .val (.mv (.tmp 10))⟩,
    ⟨(some 27), none, .val (.mv (.tmp 0))⟩,
    ⟨(some 28), none, .val (.len (.tmp 27))⟩,
    ⟨(some 29), none, .val (.bin .lss T.int (.tmp 26) (.tmp 28))⟩] [26, 27, 28])
  (.cond (.tmp 29)
  .skip
  (.exit 2)))
  (.seq (.block 3 (.seq (.region [
    ⟨(some 32), none, .val (.mv (.tmp 0))⟩,
    ⟨(some 33), none, .val (.mv (.tmp 10))⟩,
    ⟨(some 34), none, .val (.indexAddr 14 (.tmp 32) (.tmp 33))⟩,
    ⟨(some 35), none, .val (.fieldAddr 1 (.tmp 34))⟩,
    ⟨(some 36), none, .val (.load 1 false (.tmp 35))⟩,
    ⟨(some 37), none, .val (.mv (.tmp 8))⟩,
    ⟨(some 38), none, .val (.bin .gtr T.int (.tmp 36) (.tmp 37))⟩] [32, 33, 34, 35, 36, 37])
  (.cond (.tmp 38)
  (.region [
    ⟨(some 39), none, .val (.mv (.tmp 9))⟩,
    ⟨(some 40), none, .val (.mv (.tmp 0))⟩,
    ⟨(some 41), none, .val (.mv (.tmp 10))⟩,
    ⟨(some 42), none, .val (.indexAddr 14 (.tmp 40) (.tmp 41))⟩,
    ⟨(some 43), none, .val (.fieldAddr 1 (.tmp 42))⟩,
    ⟨(some 44), none, .val (.load 1 false (.tmp 43))⟩,
    ⟨(some 45), none, .val (.minmax false [(.tmp 39), (.tmp 44)])⟩,
    ⟨(some 9), none, .val (.mv (.tmp 45))⟩] [39, 40, 41, 42, 43, 44, 45])
  .skip)))
  (.region [
    ⟨(some 30), none, .val (.mv (.tmp 10))⟩,
    ⟨(some 31), none, .val (.bin .add T.int (.tmp 30) (.const (.int 1)))⟩,
    ⟨(some 10), none, .val (.mv (.tmp 31))⟩] [30, 31]))))))
  (.seq (.seq (.region [
    ⟨(some 46), none, .val (.mv (.tmp 9))⟩,
    ⟨(some 47), none, .val (.mv (.tmp 1))⟩,
    ⟨(some 48), none, .val (.bin .gtr T.int (.tmp 46) (.tmp 47))⟩] [46, 47])
  (.cond (.tmp 48)
  (.seq (.region [
    ⟨(some 49), none, .val (.mv (.tmp 7))⟩,
    ⟨(some 4), none, .val (.mv (.tmp 49))⟩,
    ⟨(some 5), none, .val (.mv (.const (.int 0)))⟩] [49])
  .ret)
  .skip))
  (.seq (.seq (.region [
    ⟨(some 11), none, .val (.mv (.const (.int 0)))⟩] [])
  (.block 4 (.loop (.seq (.seq (.region [
    ⟨(some 50), none, .val (.mv (.tmp 11))⟩,
    ⟨(some 51), none, .val (.mv (.tmp 0))⟩,
    ⟨(some 52), none, .val (.len (.tmp 51))⟩,
    ⟨(some 53), none, .val (.bin .lss T.int (.tmp 50) (.tmp 52))⟩] [50, 51, 52])
  (.cond (.tmp 53)
  .skip
  (.exit 4)))
  (.seq (.block 5 (.seq (.region [
    ⟨(some 56), none, .val (.mv (.tmp 0))⟩,
    ⟨(some 57), none, .val (.mv (.tmp 11))⟩,
    ⟨(some 58), none, .val (.indexAddr 14 (.tmp 56) (.tmp 57))⟩,
    ⟨(some 59), none, .val (.fieldAddr 1 (.tmp 58))⟩,
    ⟨(some 60), none, .val (.load 1 false (.tmp 59))⟩,
    ⟨(some 61), none, .val (.mv (.tmp 9))⟩,
    ⟨(some 62), none, .val (.bin .eql T.int (.tmp 60) (.tmp 61))⟩] [56, 57, 58, 59, 60, 61])
  (.cond (.tmp 62)
  (.region [
    ⟨(some 63), none, .val (.mv (.tmp 7))⟩,
    ⟨(some 64), none, .val (.mv (.tmp 0))⟩,
    ⟨(some 65), none, .val (.mv (.tmp 11))⟩,
    ⟨(some 66), none, .val (.indexAddr 14 (.tmp 64) (.tmp 65))⟩,
    ⟨(some 67), none, .val (.load 14 true (.tmp 66))⟩,
    ⟨(some 68), none, .val (.buildSlice T.apiDecision 1 [(.int 0), (.int 0), (.int 0), (.int 0), (.int 0), (.int 0), (.int 0), (.int 0), (.int 0), (.int 0), (.int 0), (.int 0), (.int 0), (.int 0)] [(0, 14, (.tmp 67))])⟩,
    ⟨(some 69), none, .append T.apiDecision 112 14 (.tmp 63) (.tmp 68)⟩,
    ⟨(some 7), none, .val (.mv (.tmp 69))⟩] [63, 64, 65, 66, 67, 68, 69])
  .skip)))
  (.region [
    ⟨(some 54), none, .val (.mv (.tmp 11))⟩,
    ⟨(some 55), none, .val (.bin .add T.int (.tmp 54) (.const (.int 1)))⟩,
    ⟨(some 11), none, .val (.mv (.tmp 55))⟩] [54, 55]))))))
  (.region [
    ⟨(some 70), none, .val (.mv (.tmp 9))⟩,
    ⟨(some 8), none, .val (.mv (.tmp 70))⟩] [70])))))))))
  (.seq (.region [
    ⟨(some 71), none, .val (.mv (.tmp 7))⟩,
    ⟨(some 4), none, .val (.mv (.tmp 71))⟩,
    ⟨(some 5), none, .val (.mv (.const (.int 0)))⟩] [71])
  .ret))))))))⟩
theorem H.podiumref51_Standing : Has P F.podiumref51_Standing C.podiumref51_Standing := ⟨Try.f12, Try.func12, by kernel_rfl, by kernel_rfl⟩

/-- podium/appeals.Check -/
noncomputable def C.appeals_Check : MFunc := ⟨59, 1, [.tmp 2],
  (.seq (.region [
    ⟨(some 2), none, .val (.mv (.const (.int 0)))⟩] [])
  (.seq (.seq (.region [
    ⟨(some 7), none, .val (.mv (.tmp 0))⟩,
    ⟨(some 8), none, .val (.len (.tmp 7))⟩,
    ⟨(some 9), none, .val (.bin .gtr T.int (.tmp 8) (.const (.int 4096)))⟩] [7, 8])
  (.cond (.tmp 9)
  (.seq (.region [
    ⟨(some 2), none, .val (.mv (.const (.int 2)))⟩] [])
  .ret)
  .skip))
  (.seq (.region [
    ⟨(some 10), none, .call (.const (.func (.func F.appeals_kinds) [] [])) []⟩,
    ⟨(some 3), none, .alloc T.t4appealskind [(.val .nilFunc), (.val .nilFunc), (.val .nilFunc), (.val .nilFunc), (.val .nilFunc), (.val .nilFunc), (.val .nilFunc), (.val .nilFunc)]⟩,
    ⟨none, none, .store 8 (.tmp 3) (.tmp 10)⟩,
    ⟨(some 4), none, .val (.mv (.const (.int (-1))))⟩] [10])
  (.seq (.seq (.region [
    ⟨(some 11), none, .val (.mv (.tmp 0))⟩,
    ⟨(some 12), none, .val (.len (.tmp 11))⟩,
    ⟨(some 13), none, .val (.mv (.const (.int 0)))⟩] [])
  (.block 0 (.loop (.seq (.region [
    ⟨(some 14), none, .val (.bin .lss T.int (.tmp 13) (.tmp 12))⟩] [])
  (.seq (.cond (.tmp 14)
  .skip
  (.exit 0))
  (.seq (.block 1 (.seq (.region [
    ⟨(some 15), none, .val (.indexAddr 14 (.tmp 11) (.tmp 13))⟩,
    ⟨(some 16), none, .val (.load 14 true (.tmp 15))⟩,
    ⟨(some 6), none, .alloc T.apiDecision [(.int 0), (.int 0), (.int 0), (.int 0), (.int 0), (.int 0), (.int 0), (.int 0), (.int 0), (.int 0), (.int 0), (.int 0), (.int 0), (.int 0)]⟩,
    ⟨none, none, .store 14 (.tmp 6) (.tmp 16)⟩] [15, 16])
  (.seq (.seq (.draw true (
    (.early, ⟨(some 17), none, .val (.fieldAddr 2 (.tmp 6))⟩) ::
    (.early, ⟨(some 18), none, .val (.load 1 false (.tmp 17))⟩) ::
    (.early, ⟨(some 19), none, .val (.bin .lss T.int (.tmp 18) (.const (.int 1)))⟩) ::
    (.early, ⟨(some 20), none, .val (.mv (.tmp 19))⟩) ::
    (.early, ⟨(some 21), (some (20, false)), .val (.fieldAddr 2 (.tmp 6))⟩) ::
    (.early, ⟨(some 22), (some (20, false)), .val (.load 1 false (.tmp 21))⟩) ::
    (.early, ⟨(some 23), (some (20, false)), .val (.bin .gtr T.int (.tmp 22) (.const (.int 3)))⟩) ::
    (.early, ⟨(some 24), none, .val (.pick (.tmp 20) (.const (.bool true)) (.tmp 23))⟩) ::
    (.early, ⟨(some 25), none, .val (.mv (.tmp 24))⟩) ::
    (.early, ⟨(some 26), (some (25, false)), .val (.fieldAddr 0 (.tmp 6))⟩) ::
    (.early, ⟨(some 27), (some (25, false)), .val (.load 1 false (.tmp 26))⟩) ::
    (.early, ⟨(some 28), (some (25, false)), .val (.mv (.tmp 4))⟩) ::
    (.early, ⟨(some 29), (some (25, false)), .val (.bin .leq T.int (.tmp 27) (.tmp 28))⟩) ::
    (.early, ⟨(some 30), none, .val (.pick (.tmp 25) (.const (.bool true)) (.tmp 29))⟩) ::
    (.early, ⟨(some 31), none, .val (.mv (.tmp 30))⟩) ::
    (.early, ⟨(some 32), (some (31, false)), .val (.fieldAddr 0 (.tmp 6))⟩) ::
    (.early, ⟨(some 33), (some (31, false)), .val (.load 1 false (.tmp 32))⟩) ::
    (.early, ⟨(some 34), (some (31, false)), .val (.bin .gtr T.int (.tmp 33) (.const (.int 1048576)))⟩) ::
    (.early, ⟨(some 35), none, .val (.pick (.tmp 31) (.const (.bool true)) (.tmp 34))⟩) ::
    (.early, ⟨(some 36), none, .val (.mv (.tmp 35))⟩) ::
    (.early, ⟨(some 37), (some (36, false)), .val (.fieldAddr 1 (.tmp 6))⟩) ::
    (.early, ⟨(some 38), (some (36, false)), .val (.load 1 false (.tmp 37))⟩) ::
    (.early, ⟨(some 39), (some (36, false)), .val (.bin .lss T.int (.tmp 38) (.const (.int 0)))⟩) ::
    (.early, ⟨(some 40), none, .val (.pick (.tmp 36) (.const (.bool true)) (.tmp 39))⟩) ::
    (.early, ⟨(some 41), none, .val (.mv (.tmp 40))⟩) ::
    (.early, ⟨(some 42), (some (41, false)), .val (.fieldAddr 1 (.tmp 6))⟩) ::
    (.early, ⟨(some 43), (some (41, false)), .val (.load 1 false (.tmp 42))⟩) ::
    (.early, ⟨(some 44), (some (41, false)), .val (.bin .geq T.int (.tmp 43) (.const (.int 2097152)))⟩) ::
    (.early, ⟨(some 45), none, .val (.pick (.tmp 41) (.const (.bool true)) (.tmp 44))⟩) ::
    (.early, ⟨(some 46), none, .val (.mv (.tmp 45))⟩) ::
    (.early, ⟨(some 47), (some (46, false)), .val (.fieldAddr 2 (.tmp 6))⟩) ::
    (.early, ⟨(some 48), (some (46, false)), .val (.load 1 false (.tmp 47))⟩) ::
    (.early, ⟨(some 49), (some (46, false)), .val (.indexArr 4 2 (.tmp 3) (.tmp 48))⟩) ::
    (.early, ⟨(some 50), (some (46, false)), .val (.fieldAddr 0 (.tmp 49))⟩) ::
    (.early, ⟨(some 51), (some (46, false)), .val (.load 1 false (.tmp 50))⟩) ::
    (.early, ⟨(some 52), (some (46, false)), .val (.load 14 true (.tmp 6))⟩) ::
    (.hard, ⟨(some 53), (some (46, false)), .call (.tmp 51) [(.tmp 52)]⟩) ::
    (.late, ⟨(some 54), (some (46, false)), .val (.un .not (.tmp 53))⟩) ::
    (.late, ⟨(some 55), none, .val (.pick (.tmp 46) (.const (.bool true)) (.tmp 54))⟩) :: []) (17 :: 18 :: 19 :: 20 :: 21 :: 22 :: 23 :: 24 :: 25 :: 26 :: 27 :: 28 :: 29 :: 30 :: 31 :: 32 :: 33 :: 34 :: 35 :: 36 :: 37 :: 38 :: 39 :: 40 :: 41 :: 42 :: 43 :: 44 :: 45 :: 46 :: 47 :: 48 :: 49 :: 50 :: 51 :: 52 :: 53 :: 54 :: []))
  (.cond (.tmp 55)
  (.seq (.region [
    ⟨(some 2), none, .val (.mv (.const (.int 510)))⟩] [])
  .ret)
  .skip))
  (.region [
    ⟨(some 56), none, .val (.fieldAddr 0 (.tmp 6))⟩,
    ⟨(some 57), none, .val (.load 1 false (.tmp 56))⟩,
    ⟨(some 4), none, .val (.mv (.tmp 57))⟩] [56, 57]))))
  (.region [
    ⟨(some 58), none, .val (.bin .add T.int (.tmp 13) (.const (.int 1)))⟩,
    ⟨(some 13), none, .val (.mv (.tmp 58))⟩] [58])))))))
  (.seq (.region [
    ⟨(some 2), none, .val (.mv (.const (.int 0)))⟩] [])
  .ret)))))⟩
theorem H.appeals_Check : Has P F.appeals_Check C.appeals_Check := ⟨Try.f13, Try.func13, by kernel_rfl, by kernel_rfl⟩

/-- podium/podiumref51.Check -/
noncomputable def C.podiumref51_Check : MFunc := ⟨37, 1, [.tmp 2],
  (.seq (.region [
    ⟨(some 2), none, .val (.mv (.const (.int 0)))⟩] [])
  (.seq (.seq (.region [
    ⟨(some 4), none, .val (.mv (.tmp 0))⟩,
    ⟨(some 5), none, .val (.len (.tmp 4))⟩,
    ⟨(some 6), none, .val (.bin .gtr T.int (.tmp 5) (.const (.int 4096)))⟩] [4, 5])
  (.cond (.tmp 6)
  (.seq (.region [
    ⟨(some 2), none, .val (.mv (.const (.int 2)))⟩] [])
  .ret)
  .skip))
  (.seq (.seq (.region [
    ⟨(some 3), none, .val (.mv (.const (.int 0)))⟩] [])
  (.block 0 (.loop (.seq (.seq (.region [
    ⟨(some 7), none, .val (.mv (.tmp 3))⟩,
    ⟨(some 8), none, .val (.mv (.tmp 0))⟩,
    ⟨(some 9), none, .val (.len (.tmp 8))⟩,
    ⟨(some 10), none, .val (.bin .lss T.int (.tmp 7) (.tmp 9))⟩] [7, 8, 9])
  (.cond (.tmp 10)
  .skip
  (.exit 0)))
  (.seq (.block 1 (.seq (.draw true [
    (.early, ⟨(some 13), none, .val (.mv (.tmp 0))⟩),
    (.early, ⟨(some 14), none, .val (.mv (.tmp 3))⟩),
    (.early, ⟨(some 15), none, .val (.indexAddr 14 (.tmp 13) (.tmp 14))⟩),
    (.early, ⟨(some 16), none, .val (.load 14 true (.tmp 15))⟩),
    (.hard, ⟨(some 17), none, .call (.const (.func (.func F.podiumref51_Valid) [] [])) [(.tmp 16)]⟩),
    (.late, ⟨(some 18), none, .val (.un .not (.tmp 17))⟩),
    (.late, ⟨(some 19), none, .val (.mv (.tmp 18))⟩),
    (.late, ⟨(some 20), (some (19, false)), .val (.mv (.tmp 3))⟩),
    (.late, ⟨(some 21), (some (19, false)), .val (.bin .gtr T.int (.tmp 20) (.const (.int 0)))⟩),
    (.late, ⟨(some 22), (some (19, false)), .val (.mv (.tmp 21))⟩),
    (.late, ⟨(some 23), (some (22, true)), .val (.mv (.tmp 0))⟩),
    (.late, ⟨(some 24), (some (22, true)), .val (.mv (.tmp 3))⟩),
    (.late, ⟨(some 25), (some (22, true)), .val (.bin .sub T.int (.tmp 24) (.const (.int 1)))⟩),
    (.late, ⟨(some 26), (some (22, true)), .val (.indexAddr 14 (.tmp 23) (.tmp 25))⟩),
    (.late, ⟨(some 27), (some (22, true)), .val (.fieldAddr 0 (.tmp 26))⟩),
    (.late, ⟨(some 28), (some (22, true)), .val (.load 1 false (.tmp 27))⟩),
    (.late, ⟨(some 29), (some (22, true)), .val (.mv (.tmp 0))⟩),
    (.late, ⟨(some 30), (some (22, true)), .val (.mv (.tmp 3))⟩),
    (.late, ⟨(some 31), (some (22, true)), .val (.indexAddr 14 (.tmp 29) (.tmp 30))⟩),
    (.late, ⟨(some 32), (some (22, true)), .val (.fieldAddr 0 (.tmp 31))⟩),
    (.late, ⟨(some 33), (some (22, true)), .val (.load 1 false (.tmp 32))⟩),
    (.late, ⟨(some 34), (some (22, true)), .val (.bin .geq T.int (.tmp 28) (.tmp 33))⟩),
    (.late, ⟨(some 35), (some (19, false)), .val (.pick (.tmp 22) (.tmp 34) (.const (.bool false)))⟩),
    (.late, ⟨(some 36), none, .val (.pick (.tmp 19) (.const (.bool true)) (.tmp 35))⟩)] [13, 14, 15, 16, 17, 18, 19, 20, 21, 22, 23, 24, 25, 26, 27, 28, 29, 30, 31, 32, 33, 34, 35])
  (.cond (.tmp 36)
  (.seq (.region [
    ⟨(some 2), none, .val (.mv (.const (.int 510)))⟩] [])
  .ret)
  .skip)))
  (.region [
    ⟨(some 11), none, .val (.mv (.tmp 3))⟩,
    ⟨(some 12), none, .val (.bin .add T.int (.tmp 11) (.const (.int 1)))⟩,
    ⟨(some 3), none, .val (.mv (.tmp 12))⟩] [11, 12]))))))
  (.seq (.region [
    ⟨(some 2), none, .val (.mv (.const (.int 0)))⟩] [])
  .ret))))⟩
theorem H.podiumref51_Check : Has P F.podiumref51_Check C.podiumref51_Check := ⟨Try.f14, Try.func14, by kernel_rfl, by kernel_rfl⟩

/-- podium/podiumref51.SameDecisions -/
noncomputable def C.podiumref51_SameDecisions : MFunc := ⟨26, 2, [.tmp 4],
  (.seq (.region [
    ⟨(some 4), none, .val (.mv (.const (.bool false)))⟩] [])
  (.seq (.seq (.region [
    ⟨(some 6), none, .val (.mv (.tmp 0))⟩,
    ⟨(some 7), none, .val (.len (.tmp 6))⟩,
    ⟨(some 8), none, .val (.mv (.tmp 1))⟩,
    ⟨(some 9), none, .val (.len (.tmp 8))⟩,
    ⟨(some 10), none, .val (.bin .neq T.int (.tmp 7) (.tmp 9))⟩] [6, 7, 8, 9])
  (.cond (.tmp 10)
  (.seq (.region [
    ⟨(some 4), none, .val (.mv (.const (.bool false)))⟩] [])
  .ret)
  .skip))
  (.seq (.seq (.region [
    ⟨(some 5), none, .val (.mv (.const (.int 0)))⟩] [])
  (.block 0 (.loop (.seq (.seq (.region [
    ⟨(some 11), none, .val (.mv (.tmp 5))⟩,
    ⟨(some 12), none, .val (.mv (.tmp 0))⟩,
    ⟨(some 13), none, .val (.len (.tmp 12))⟩,
    ⟨(some 14), none, .val (.bin .lss T.int (.tmp 11) (.tmp 13))⟩] [11, 12, 13])
  (.cond (.tmp 14)
  .skip
  (.exit 0)))
  (.seq (.block 1 (.seq (.draw false [
    (.early, ⟨(some 17), none, .val (.mv (.tmp 0))⟩),
    (.early, ⟨(some 18), none, .val (.mv (.tmp 5))⟩),
    (.early, ⟨(some 19), none, .val (.indexAddr 14 (.tmp 17) (.tmp 18))⟩),
    (.early, ⟨(some 20), none, .val (.load 14 true (.tmp 19))⟩),
    (.early, ⟨(some 21), none, .val (.mv (.tmp 1))⟩),
    (.early, ⟨(some 22), none, .val (.mv (.tmp 5))⟩),
    (.early, ⟨(some 23), none, .val (.indexAddr 14 (.tmp 21) (.tmp 22))⟩),
    (.early, ⟨(some 24), none, .val (.load 14 true (.tmp 23))⟩),
    (.early, ⟨(some 25), none, .val (.eqAgg true [.int, .int, .int, .int, .int, .int, .int, .int, .int, .int, .int, .int, .int, .int] (.tmp 20) (.tmp 24))⟩)] [17, 18, 19, 20, 21, 22, 23, 24])
  (.cond (.tmp 25)
  (.seq (.region [
    ⟨(some 4), none, .val (.mv (.const (.bool false)))⟩] [])
  .ret)
  .skip)))
  (.region [
    ⟨(some 15), none, .val (.mv (.tmp 5))⟩,
    ⟨(some 16), none, .val (.bin .add T.int (.tmp 15) (.const (.int 1)))⟩,
    ⟨(some 5), none, .val (.mv (.tmp 16))⟩] [15, 16]))))))
  (.seq (.region [
    ⟨(some 4), none, .val (.mv (.const (.bool true)))⟩] [])
  .ret))))⟩
theorem H.podiumref51_SameDecisions : Has P F.podiumref51_SameDecisions C.podiumref51_SameDecisions := ⟨Try.f15, Try.func15, by kernel_rfl, by kernel_rfl⟩

/-- podium/appeals.Apply -/
noncomputable def C.appeals_Apply : MFunc := ⟨64, 3, [.tmp 6, .tmp 7],
  (.seq (.region [
    ⟨(some 6), none, .val (.mv (.const .nil))⟩,
    ⟨(some 7), none, .val (.mv (.const (.int 0)))⟩] [])
  (.seq (.seq (.region [
    ⟨(some 15), none, .val (.mv (.tmp 0))⟩,
    ⟨(some 16), none, .call (.const (.func (.func F.record_Check) [] [])) [(.tmp 15)]⟩,
    ⟨(some 7), none, .val (.mv (.tmp 16))⟩] [15, 16])
  (.seq (.region [
    ⟨(some 17), none, .val (.mv (.tmp 7))⟩,
    ⟨(some 18), none, .val (.bin .neq T.apiErrno (.tmp 17) (.const (.int 0)))⟩] [17])
  (.cond (.tmp 18)
  (.seq (.region [
    ⟨(some 19), none, .val (.mv (.tmp 7))⟩,
    ⟨(some 6), none, .val (.mv (.const .nil))⟩,
    ⟨(some 7), none, .val (.mv (.tmp 19))⟩] [19])
  .ret)
  .skip)))
  (.seq (.region [
    ⟨(some 21), none, .val (.mv (.tmp 1))⟩,
    ⟨(some 22), none, .val (.mv (.tmp 2))⟩,
    ⟨(some 23), none, .call (.const (.func (.func F.appeals_Standing) [] [])) [(.tmp 21), (.tmp 22)]⟩,
    ⟨(some 20), none, .val (.mv (.tmp 23))⟩,
    ⟨(some 24), none, .val (.extract 0 (.tmp 20))⟩,
    ⟨(some 25), none, .val (.extract 1 (.tmp 20))⟩,
    ⟨(some 8), none, .val (.mv (.tmp 24))⟩,
    ⟨(some 7), none, .val (.mv (.tmp 25))⟩] [21, 22, 23, 20, 24, 25])
  (.seq (.seq (.region [
    ⟨(some 26), none, .val (.mv (.tmp 7))⟩,
    ⟨(some 27), none, .val (.bin .neq T.apiErrno (.tmp 26) (.const (.int 0)))⟩] [26])
  (.cond (.tmp 27)
  (.seq (.region [
    ⟨(some 28), none, .val (.mv (.tmp 7))⟩,
    ⟨(some 6), none, .val (.mv (.const .nil))⟩,
    ⟨(some 7), none, .val (.mv (.tmp 28))⟩] [28])
  .ret)
  .skip))
  (.seq (.region [
    ⟨(some 29), none, .mkMap⟩,
    ⟨(some 30), none, .call (.const (.func (.func F.appeals_kinds) [] [])) []⟩,
    ⟨(some 10), none, .alloc T.t4appealskind [(.val .nilFunc), (.val .nilFunc), (.val .nilFunc), (.val .nilFunc), (.val .nilFunc), (.val .nilFunc), (.val .nilFunc), (.val .nilFunc)]⟩,
    ⟨(some 9), none, .val (.mv (.tmp 29))⟩,
    ⟨none, none, .store 8 (.tmp 10) (.tmp 30)⟩] [29, 30])
  (.seq (.seq (.region [
    ⟨(some 31), none, .val (.mv (.tmp 0))⟩,
    ⟨(some 32), none, .val (.len (.tmp 31))⟩,
    ⟨(some 33), none, .val (.mv (.const (.int 0)))⟩] [])
  (.block 0 (.loop (.seq (.region [
    ⟨(some 34), none, .val (.bin .lss T.int (.tmp 33) (.tmp 32))⟩] [])
  (.seq (.cond (.tmp 34)
  .skip
  (.exit 0))
  (.seq (.block 1 (.seq (.region [
    ⟨(some 35), none, .val (.indexAddr 9 (.tmp 31) (.tmp 33))⟩,
    ⟨(some 36), none, .val (.load 9 true (.tmp 35))⟩,
    ⟨(some 12), none, .alloc T.apiEvent [(.int 0), (.int 0), (.int 0), (.int 0), (.int 0), (.int 0), (.int 0), (.int 0), (.int 0)]⟩,
    ⟨none, none, .store 9 (.tmp 12) (.tmp 36)⟩] [35, 36])
  (.region [
    ⟨(some 37), none, .val (.mv (.tmp 9))⟩,
    ⟨(some 38), none, .val (.fieldAddr 0 (.tmp 12))⟩,
    ⟨(some 39), none, .val (.load 1 false (.tmp 38))⟩,
    ⟨(some 40), none, .val (.load 9 true (.tmp 12))⟩,
    ⟨none, none, .mapSet (false, [.int]) (.tmp 37) (.tmp 39) (.tmp 40)⟩] [37, 38, 39, 40])))
  (.region [
    ⟨(some 41), none, .val (.bin .add T.int (.tmp 33) (.const (.int 1)))⟩,
    ⟨(some 33), none, .val (.mv (.tmp 41))⟩] [41])))))))
  (.seq (.seq (.region [
    ⟨(some 42), none, .val (.mv (.tmp 8))⟩,
    ⟨(some 43), none, .val (.len (.tmp 42))⟩,
    ⟨(some 44), none, .val (.mv (.const (.int 0)))⟩] [])
  (.block 2 (.loop (.seq (.region [
    ⟨(some 45), none, .val (.bin .lss T.int (.tmp 44) (.tmp 43))⟩] [])
  (.seq (.cond (.tmp 45)
  .skip
  (.exit 2))
  (.seq (.block 3 (.seq (.region [
    ⟨(some 46), none, .val (.indexAddr 14 (.tmp 42) (.tmp 44))⟩,
    ⟨(some 47), none, .val (.load 14 true (.tmp 46))⟩,
    ⟨(some 14), none, .alloc T.apiDecision [(.int 0), (.int 0), (.int 0), (.int 0), (.int 0), (.int 0), (.int 0), (.int 0), (.int 0), (.int 0), (.int 0), (.int 0), (.int 0), (.int 0)]⟩,
    ⟨none, none, .store 14 (.tmp 14) (.tmp 47)⟩] [46, 47])
  (.draw false [
    (.early, ⟨(some 48), none, .val (.fieldAddr 2 (.tmp 14))⟩),
    (.early, ⟨(some 49), none, .val (.load 1 false (.tmp 48))⟩),
    (.early, ⟨(some 50), none, .val (.indexArr 4 2 (.tmp 10) (.tmp 49))⟩),
    (.early, ⟨(some 51), none, .val (.fieldAddr 1 (.tmp 50))⟩),
    (.early, ⟨(some 52), none, .val (.load 1 false (.tmp 51))⟩),
    (.early, ⟨(some 53), none, .val (.mv (.tmp 9))⟩),
    (.early, ⟨(some 54), none, .val (.load 14 true (.tmp 14))⟩),
    (.hard, ⟨(some 55), none, .call (.tmp 52) [(.tmp 53), (.tmp 54)]⟩)] [48, 49, 50, 51, 52, 53, 54, 55])))
  (.region [
    ⟨(some 56), none, .val (.bin .add T.int (.tmp 44) (.const (.int 1)))⟩,
    ⟨(some 44), none, .val (.mv (.tmp 56))⟩] [56])))))))
  (.seq (.seq (.region [
    ⟨(some 57), none, .val (.mv (.tmp 9))⟩,
    ⟨(some 58), none, .val (.maplen (.tmp 57))⟩,
    ⟨(some 59), none, .val (.bin .gtr T.int (.tmp 58) (.const (.int 4096)))⟩] [57, 58])
  (.cond (.tmp 59)
  (.seq (.region [
    ⟨(some 6), none, .val (.mv (.const .nil))⟩,
    ⟨(some 7), none, .val (.mv (.const (.int 2)))⟩] [])
  .ret)
  .skip))
  (.seq (.region [
    ⟨(some 60), none, .val (.mv (.tmp 9))⟩,
    ⟨(some 61), none, .call (.const (.func (.func F.maps_Values__appealsevents_int_apiEvent) [] [])) [(.tmp 60)]⟩,
    ⟨(some 62), none, .call (.const (.func (.func F.slices_Collect__apiEvent) [] [])) [(.tmp 61)]⟩,
    ⟨(some 63), none, .call (.const (.func (.func F.appeals_by__apiEvent) [] [])) [(.tmp 62), (.const (.func (.func F.appeals_Apply_1) [] []))]⟩,
    ⟨(some 6), none, .val (.mv (.tmp 63))⟩,
    ⟨(some 7), none, .val (.mv (.const (.int 0)))⟩] [60, 61, 62, 63])
  .ret)))))))))⟩
theorem H.appeals_Apply : Has P F.appeals_Apply C.appeals_Apply := ⟨Try.f16, Try.func16, by kernel_rfl, by kernel_rfl⟩

/-- podium/podiumref51.Apply -/
noncomputable def C.podiumref51_Apply : MFunc := ⟨42, 3, [.tmp 6, .tmp 7],
  (.seq (.region [
    ⟨(some 6), none, .val (.mv (.const .nil))⟩,
    ⟨(some 7), none, .val (.mv (.const (.int 0)))⟩] [])
  (.seq (.region [
    ⟨(some 12), none, .val (.mv (.tmp 0))⟩,
    ⟨(some 13), none, .call (.const (.func (.func F.podiumref49_Check) [] [])) [(.tmp 12)]⟩,
    ⟨(some 8), none, .val (.mv (.tmp 13))⟩] [12, 13])
  (.seq (.seq (.region [
    ⟨(some 14), none, .val (.mv (.tmp 8))⟩,
    ⟨(some 15), none, .val (.bin .neq T.apiErrno (.tmp 14) (.const (.int 0)))⟩] [14])
  (.cond (.tmp 15)
  (.seq (.region [
    ⟨(some 16), none, .val (.mv (.tmp 8))⟩,
    ⟨(some 6), none, .val (.mv (.const .nil))⟩,
    ⟨(some 7), none, .val (.mv (.tmp 16))⟩] [16])
  .ret)
  .skip))
  (.seq (.region [
    ⟨(some 18), none, .val (.mv (.tmp 1))⟩,
    ⟨(some 19), none, .val (.mv (.tmp 2))⟩,
    ⟨(some 20), none, .call (.const (.func (.func F.podiumref51_Standing) [] [])) [(.tmp 18), (.tmp 19)]⟩,
    ⟨(some 17), none, .val (.mv (.tmp 20))⟩,
    ⟨(some 21), none, .val (.extract 0 (.tmp 17))⟩,
    ⟨(some 22), none, .val (.extract 1 (.tmp 17))⟩,
    ⟨(some 9), none, .val (.mv (.tmp 21))⟩,
    ⟨(some 10), none, .val (.mv (.tmp 22))⟩] [18, 19, 20, 17, 21, 22])
  (.seq (.seq (.region [
    ⟨(some 23), none, .val (.mv (.tmp 10))⟩,
    ⟨(some 24), none, .val (.bin .neq T.apiErrno (.tmp 23) (.const (.int 0)))⟩] [23])
  (.cond (.tmp 24)
  (.seq (.region [
    ⟨(some 25), none, .val (.mv (.tmp 10))⟩,
    ⟨(some 6), none, .val (.mv (.const .nil))⟩,
    ⟨(some 7), none, .val (.mv (.tmp 25))⟩] [25])
  .ret)
  .skip))
  (.seq (.seq (.region [
    ⟨(some 11), none, .val (.mv (.const (.int 0)))⟩] [])
  (.block 0 (.loop (.seq (.seq (.region [
    ⟨(some 26), none, .val (.mv (.tmp 11))⟩,
    ⟨(some 27), none, .val (.mv (.tmp 9))⟩,
    ⟨(some 28), none, .val (.len (.tmp 27))⟩,
    ⟨(some 29), none, .val (.bin .lss T.int (.tmp 26) (.tmp 28))⟩] [26, 27, 28])
  (.cond (.tmp 29)
  .skip
  (.exit 0)))
  (.seq (.block 1 (.region [
    ⟨(some 32), none, .val (.mv (.tmp 0))⟩,
    ⟨(some 33), none, .val (.mv (.tmp 9))⟩,
    ⟨(some 34), none, .val (.mv (.tmp 11))⟩,
    ⟨(some 35), none, .val (.indexAddr 14 (.tmp 33) (.tmp 34))⟩,
    ⟨(some 36), none, .val (.load 14 true (.tmp 35))⟩,
    ⟨(some 37), none, .call (.const (.func (.func F.podiumref51_One) [] [])) [(.tmp 32), (.tmp 36)]⟩,
    ⟨(some 0), none, .val (.mv (.tmp 37))⟩] [32, 33, 34, 35, 36, 37]))
  (.region [
    ⟨(some 30), none, .val (.mv (.tmp 11))⟩,
    ⟨(some 31), none, .val (.bin .add T.int (.tmp 30) (.const (.int 1)))⟩,
    ⟨(some 11), none, .val (.mv (.tmp 31))⟩] [30, 31]))))))
  (.seq (.seq (.region [
    ⟨(some 38), none, .val (.mv (.tmp 0))⟩,
    ⟨(some 39), none, .val (.len (.tmp 38))⟩,
    ⟨(some 40), none, .val (.bin .gtr T.int (.tmp 39) (.const (.int 4096)))⟩] [38, 39])
  (.cond (.tmp 40)
  (.seq (.region [
    ⟨(some 6), none, .val (.mv (.const .nil))⟩,
    ⟨(some 7), none, .val (.mv (.const (.int 2)))⟩] [])
  .ret)
  .skip))
  (.seq (.region [
    ⟨(some 41), none, .val (.mv (.tmp 0))⟩,
    ⟨(some 6), none, .val (.mv (.tmp 41))⟩,
    ⟨(some 7), none, .val (.mv (.const (.int 0)))⟩] [41])
  .ret))))))))⟩
theorem H.podiumref51_Apply : Has P F.podiumref51_Apply C.podiumref51_Apply := ⟨Try.f17, Try.func17, by kernel_rfl, by kernel_rfl⟩

/-- podium/podiumref51.Same -/
noncomputable def C.podiumref51_Same : MFunc := ⟨26, 2, [.tmp 4],
  (.seq (.region [
    ⟨(some 4), none, .val (.mv (.const (.bool false)))⟩] [])
  (.seq (.seq (.region [
    ⟨(some 6), none, .val (.mv (.tmp 0))⟩,
    ⟨(some 7), none, .val (.len (.tmp 6))⟩,
    ⟨(some 8), none, .val (.mv (.tmp 1))⟩,
    ⟨(some 9), none, .val (.len (.tmp 8))⟩,
    ⟨(some 10), none, .val (.bin .neq T.int (.tmp 7) (.tmp 9))⟩] [6, 7, 8, 9])
  (.cond (.tmp 10)
  (.seq (.region [
    ⟨(some 4), none, .val (.mv (.const (.bool false)))⟩] [])
  .ret)
  .skip))
  (.seq (.seq (.region [
    ⟨(some 5), none, .val (.mv (.const (.int 0)))⟩] [])
  (.block 0 (.loop (.seq (.seq (.region [
    ⟨(some 11), none, .val (.mv (.tmp 5))⟩,
    ⟨(some 12), none, .val (.mv (.tmp 0))⟩,
    ⟨(some 13), none, .val (.len (.tmp 12))⟩,
    ⟨(some 14), none, .val (.bin .lss T.int (.tmp 11) (.tmp 13))⟩] [11, 12, 13])
  (.cond (.tmp 14)
  .skip
  (.exit 0)))
  (.seq (.block 1 (.seq (.draw false [
    (.early, ⟨(some 17), none, .val (.mv (.tmp 0))⟩),
    (.early, ⟨(some 18), none, .val (.mv (.tmp 5))⟩),
    (.early, ⟨(some 19), none, .val (.indexAddr 9 (.tmp 17) (.tmp 18))⟩),
    (.early, ⟨(some 20), none, .val (.load 9 true (.tmp 19))⟩),
    (.early, ⟨(some 21), none, .val (.mv (.tmp 1))⟩),
    (.early, ⟨(some 22), none, .val (.mv (.tmp 5))⟩),
    (.early, ⟨(some 23), none, .val (.indexAddr 9 (.tmp 21) (.tmp 22))⟩),
    (.early, ⟨(some 24), none, .val (.load 9 true (.tmp 23))⟩),
    (.early, ⟨(some 25), none, .val (.eqAgg true [.int, .int, .int, .int, .int, .int, .int, .int, .int] (.tmp 20) (.tmp 24))⟩)] [17, 18, 19, 20, 21, 22, 23, 24])
  (.cond (.tmp 25)
  (.seq (.region [
    ⟨(some 4), none, .val (.mv (.const (.bool false)))⟩] [])
  .ret)
  .skip)))
  (.region [
    ⟨(some 15), none, .val (.mv (.tmp 5))⟩,
    ⟨(some 16), none, .val (.bin .add T.int (.tmp 15) (.const (.int 1)))⟩,
    ⟨(some 5), none, .val (.mv (.tmp 16))⟩] [15, 16]))))))
  (.seq (.region [
    ⟨(some 4), none, .val (.mv (.const (.bool true)))⟩] [])
  .ret))))⟩
theorem H.podiumref51_Same : Has P F.podiumref51_Same C.podiumref51_Same := ⟨Try.f18, Try.func18, by kernel_rfl, by kernel_rfl⟩

/-- podium/record.Check -/
noncomputable def C.record_Check : MFunc := ⟨37, 1, [.tmp 2],
  (.seq (.region [
    ⟨(some 2), none, .val (.mv (.const (.int 0)))⟩] [])
  (.seq (.seq (.region [
    ⟨(some 6), none, .val (.mv (.tmp 0))⟩,
    ⟨(some 7), none, .val (.len (.tmp 6))⟩,
    ⟨(some 8), none, .val (.bin .gtr T.int (.tmp 7) (.const (.int 4096)))⟩] [6, 7])
  (.cond (.tmp 8)
  (.seq (.region [
    ⟨(some 2), none, .val (.mv (.const (.int 2)))⟩] [])
  .ret)
  .skip))
  (.seq (.region [
    ⟨(some 9), none, .call (.const (.func (.func F.record_kinds) [] [])) []⟩,
    ⟨(some 3), none, .val (.mv (.tmp 9))⟩] [9])
  (.seq (.seq (.region [
    ⟨(some 10), none, .val (.mv (.tmp 0))⟩,
    ⟨(some 11), none, .val (.len (.tmp 10))⟩,
    ⟨(some 12), none, .val (.mv (.const (.int 0)))⟩] [])
  (.block 0 (.loop (.seq (.region [
    ⟨(some 13), none, .val (.bin .lss T.int (.tmp 12) (.tmp 11))⟩] [])
  (.seq (.cond (.tmp 13)
  .skip
  (.exit 0))
  (.seq (.block 1 (.seq (.region [
    ⟨(some 14), none, .val (.mv (.tmp 12))⟩,
    ⟨(some 15), none, .val (.indexAddr 9 (.tmp 10) (.tmp 12))⟩,
    ⟨(some 16), none, .val (.load 9 true (.tmp 15))⟩,
    ⟨(some 5), none, .alloc T.apiEvent [(.int 0), (.int 0), (.int 0), (.int 0), (.int 0), (.int 0), (.int 0), (.int 0), (.int 0)]⟩,
    ⟨(some 4), none, .val (.mv (.tmp 14))⟩,
    ⟨none, none, .store 9 (.tmp 5) (.tmp 16)⟩] [14, 15, 16])
  (.seq (.draw true [
    (.early, ⟨(some 17), none, .val (.load 9 true (.tmp 5))⟩),
    (.early, ⟨(some 18), none, .val (.mv (.tmp 3))⟩),
    (.hard, ⟨(some 19), none, .call (.const (.func (.func F.record_right) [] [])) [(.tmp 17), (.tmp 18)]⟩),
    (.late, ⟨(some 20), none, .val (.un .not (.tmp 19))⟩),
    (.late, ⟨(some 21), none, .val (.mv (.tmp 20))⟩),
    (.late, ⟨(some 22), (some (21, false)), .val (.mv (.tmp 4))⟩),
    (.late, ⟨(some 23), (some (21, false)), .val (.bin .gtr T.int (.tmp 22) (.const (.int 0)))⟩),
    (.late, ⟨(some 24), (some (21, false)), .val (.mv (.tmp 23))⟩),
    (.late, ⟨(some 25), (some (24, true)), .val (.mv (.tmp 0))⟩),
    (.late, ⟨(some 26), (some (24, true)), .val (.mv (.tmp 4))⟩),
    (.late, ⟨(some 27), (some (24, true)), .val (.bin .sub T.int (.tmp 26) (.const (.int 1)))⟩),
    (.late, ⟨(some 28), (some (24, true)), .val (.indexAddr 9 (.tmp 25) (.tmp 27))⟩),
    (.late, ⟨(some 29), (some (24, true)), .val (.fieldAddr 0 (.tmp 28))⟩),
    (.late, ⟨(some 30), (some (24, true)), .val (.load 1 false (.tmp 29))⟩),
    (.late, ⟨(some 31), (some (24, true)), .val (.fieldAddr 0 (.tmp 5))⟩),
    (.late, ⟨(some 32), (some (24, true)), .val (.load 1 false (.tmp 31))⟩),
    (.late, ⟨(some 33), (some (24, true)), .val (.bin .geq T.int (.tmp 30) (.tmp 32))⟩),
    (.late, ⟨(some 34), (some (21, false)), .val (.pick (.tmp 24) (.tmp 33) (.const (.bool false)))⟩),
    (.late, ⟨(some 35), none, .val (.pick (.tmp 21) (.const (.bool true)) (.tmp 34))⟩)] [17, 18, 19, 20, 21, 22, 23, 24, 25, 26, 27, 28, 29, 30, 31, 32, 33, 34])
  (.cond (.tmp 35)
  (.seq (.region [
    ⟨(some 2), none, .val (.mv (.const (.int 490)))⟩] [])
  .ret)
  .skip))))
  (.region [
    ⟨(some 36), none, .val (.bin .add T.int (.tmp 12) (.const (.int 1)))⟩,
    ⟨(some 12), none, .val (.mv (.tmp 36))⟩] [36])))))))
  (.seq (.region [
    ⟨(some 2), none, .val (.mv (.const (.int 0)))⟩] [])
  .ret)))))⟩
theorem H.record_Check : Has P F.record_Check C.record_Check := ⟨Try.f19, Try.func19, by kernel_rfl, by kernel_rfl⟩

/-- podium/podiumref51.Subject -/
noncomputable def C.podiumref51_Subject : MFunc := ⟨11, 1, [.tmp 2],
  (.seq (.region [
    ⟨(some 1), none, .box T.apiDecision (.tmp 0)⟩,
    ⟨(some 2), none, .val (.mv (.const (.int 0)))⟩] [])
  (.seq (.seq (.region [
    ⟨(some 3), none, .val (.fieldAddr 2 (.tmp 1))⟩,
    ⟨(some 4), none, .val (.load 1 false (.tmp 3))⟩,
    ⟨(some 5), none, .val (.bin .eql T.int (.tmp 4) (.const (.int 3)))⟩] [3, 4])
  (.cond (.tmp 5)
  (.seq (.region [
    ⟨(some 6), none, .val (.fieldAddr 5 (.tmp 1))⟩,
    ⟨(some 7), none, .val (.fieldAddr 0 (.tmp 6))⟩,
    ⟨(some 8), none, .val (.load 1 false (.tmp 7))⟩,
    ⟨(some 2), none, .val (.mv (.tmp 8))⟩] [6, 7, 8])
  .ret)
  .skip))
  (.seq (.region [
    ⟨(some 9), none, .val (.fieldAddr 3 (.tmp 1))⟩,
    ⟨(some 10), none, .val (.load 1 false (.tmp 9))⟩,
    ⟨(some 2), none, .val (.mv (.tmp 10))⟩] [9, 10])
  .ret)))⟩
theorem H.podiumref51_Subject : Has P F.podiumref51_Subject C.podiumref51_Subject := ⟨Try.f20, Try.func20, by kernel_rfl, by kernel_rfl⟩

/-- podium/podiumlaw51.about -/
noncomputable def C.podiumlaw51_about : MFunc := ⟨27, 2, [.tmp 4],
  (.seq (.region [
    ⟨(some 4), none, .val (.mv (.const .nil))⟩] [])
  (.seq (.seq (.region [
    ⟨(some 5), none, .val (.mv (.const (.int 0)))⟩] [])
  (.block 0 (.loop (.seq (.seq (.region [
    ⟨(some 6), none, .val (.mv (.tmp 5))⟩,
    ⟨(some 7), none, .val (.mv (.tmp 0))⟩,
    ⟨(some 8), none, .val (.len (.tmp 7))⟩,
    ⟨(some 9), none, .val (.bin .lss T.int (.tmp 6) (.tmp 8))⟩] [6, 7, 8])
  (.cond (.tmp 9)
  .skip
  (.exit 0)))
  (.seq (.block 1 (.seq (.region [
    ⟨(some 12), none, .val (.mv (.tmp 0))⟩,
    ⟨(some 13), none, .val (.mv (.tmp 5))⟩,
    ⟨(some 14), none, .val (.indexAddr 14 (.tmp 12) (.tmp 13))⟩,
    ⟨(some 15), none, .val (.load 14 true (.tmp 14))⟩,
    ⟨(some 16), none, .call (.const (.func (.func F.podiumref51_Subject) [] [])) [(.tmp 15)]⟩,
    ⟨(some 17), none, .val (.mv (.tmp 1))⟩,
    ⟨(some 18), none, .val (.bin .eql T.int (.tmp 16) (.tmp 17))⟩] [12, 13, 14, 15, 16, 17])
  (.cond (.tmp 18)
  (.region [
    ⟨(some 19), none, .val (.mv (.tmp 4))⟩,
    ⟨(some 20), none, .val (.mv (.tmp 0))⟩,
    ⟨(some 21), none, .val (.mv (.tmp 5))⟩,
    ⟨(some 22), none, .val (.indexAddr 14 (.tmp 20) (.tmp 21))⟩,
    ⟨(some 23), none, .val (.load 14 true (.tmp 22))⟩,
    ⟨(some 24), none, .val (.buildSlice T.apiDecision 1 [(.int 0), (.int 0), (.int 0), (.int 0), (.int 0), (.int 0), (.int 0), (.int 0), (.int 0), (.int 0), (.int 0), (.int 0), (.int 0), (.int 0)] [(0, 14, (.tmp 23))])⟩,
    ⟨(some 25), none, .append T.apiDecision 112 14 (.tmp 19) (.tmp 24)⟩,
    ⟨(some 4), none, .val (.mv (.tmp 25))⟩] [19, 20, 21, 22, 23, 24, 25])
  .skip)))
  (.region [
    ⟨(some 10), none, .val (.mv (.tmp 5))⟩,
    ⟨(some 11), none, .val (.bin .add T.int (.tmp 10) (.const (.int 1)))⟩,
    ⟨(some 5), none, .val (.mv (.tmp 11))⟩] [10, 11]))))))
  (.seq (.region [
    ⟨(some 26), none, .val (.mv (.tmp 4))⟩,
    ⟨(some 4), none, .val (.mv (.tmp 26))⟩] [26])
  .ret)))⟩
theorem H.podiumlaw51_about : Has P F.podiumlaw51_about C.podiumlaw51_about := ⟨Try.f21, Try.func21, by kernel_rfl, by kernel_rfl⟩

/-- podium/podiumlaw51.alone -/
noncomputable def C.podiumlaw51_alone : MFunc := ⟨27, 2, [.tmp 4],
  (.seq (.region [
    ⟨(some 4), none, .val (.mv (.const .nil))⟩] [])
  (.seq (.seq (.region [
    ⟨(some 5), none, .val (.mv (.const (.int 0)))⟩] [])
  (.block 0 (.loop (.seq (.seq (.region [
    ⟨(some 6), none, .val (.mv (.tmp 5))⟩,
    ⟨(some 7), none, .val (.mv (.tmp 0))⟩,
    ⟨(some 8), none, .val (.len (.tmp 7))⟩,
    ⟨(some 9), none, .val (.bin .lss T.int (.tmp 6) (.tmp 8))⟩] [6, 7, 8])
  (.cond (.tmp 9)
  .skip
  (.exit 0)))
  (.seq (.block 1 (.seq (.region [
    ⟨(some 12), none, .val (.mv (.tmp 0))⟩,
    ⟨(some 13), none, .val (.mv (.tmp 5))⟩,
    ⟨(some 14), none, .val (.indexAddr 9 (.tmp 12) (.tmp 13))⟩,
    ⟨(some 15), none, .val (.fieldAddr 0 (.tmp 14))⟩,
    ⟨(some 16), none, .val (.load 1 false (.tmp 15))⟩,
    ⟨(some 17), none, .val (.mv (.tmp 1))⟩,
    ⟨(some 18), none, .val (.bin .eql T.int (.tmp 16) (.tmp 17))⟩] [12, 13, 14, 15, 16, 17])
  (.cond (.tmp 18)
  (.region [
    ⟨(some 19), none, .val (.mv (.tmp 4))⟩,
    ⟨(some 20), none, .val (.mv (.tmp 0))⟩,
    ⟨(some 21), none, .val (.mv (.tmp 5))⟩,
    ⟨(some 22), none, .val (.indexAddr 9 (.tmp 20) (.tmp 21))⟩,
    ⟨(some 23), none, .val (.load 9 true (.tmp 22))⟩,
    ⟨(some 24), none, .val (.buildSlice T.apiEvent 1 [(.int 0), (.int 0), (.int 0), (.int 0), (.int 0), (.int 0), (.int 0), (.int 0), (.int 0)] [(0, 9, (.tmp 23))])⟩,
    ⟨(some 25), none, .append T.apiEvent 72 9 (.tmp 19) (.tmp 24)⟩,
    ⟨(some 4), none, .val (.mv (.tmp 25))⟩] [19, 20, 21, 22, 23, 24, 25])
  .skip)))
  (.region [
    ⟨(some 10), none, .val (.mv (.tmp 5))⟩,
    ⟨(some 11), none, .val (.bin .add T.int (.tmp 10) (.const (.int 1)))⟩,
    ⟨(some 5), none, .val (.mv (.tmp 11))⟩] [10, 11]))))))
  (.seq (.region [
    ⟨(some 26), none, .val (.mv (.tmp 4))⟩,
    ⟨(some 4), none, .val (.mv (.tmp 26))⟩] [26])
  .ret)))⟩
theorem H.podiumlaw51_alone : Has P F.podiumlaw51_alone C.podiumlaw51_alone := ⟨Try.f22, Try.func22, by kernel_rfl, by kernel_rfl⟩

/-- podium/podiumlaw51.mark -/
noncomputable def C.podiumlaw51_mark : MFunc := ⟨8, 2, [.cell 4 9 true],
  (.seq (.region [
    ⟨(some 4), none, .alloc T.apiEvent [(.int 0), (.int 0), (.int 0), (.int 0), (.int 0), (.int 0), (.int 0), (.int 0), (.int 0)]⟩] [])
  (.seq (.region [
    ⟨(some 5), none, .val (.mv (.tmp 0))⟩,
    ⟨(some 6), none, .val (.mv (.tmp 1))⟩,
    ⟨(some 7), none, .val (.build [(.int 0), (.int 0), (.int 0), (.int 0), (.int 0), (.int 0), (.int 0), (.int 0), (.int 0)] [(0, 1, (.tmp 5)), (1, 1, (.const (.int 1))), (6, 1, (.tmp 6))])⟩,
    ⟨none, none, .store 9 (.tmp 4) (.tmp 7)⟩] [5, 6, 7])
  .ret))⟩
theorem H.podiumlaw51_mark : Has P F.podiumlaw51_mark C.podiumlaw51_mark := ⟨Try.f23, Try.func23, by kernel_rfl, by kernel_rfl⟩

/-- podium/appeals.by[podium/api.Decision] -/
noncomputable def C.appeals_by__apiDecision : MFunc := ⟨11, 2, [.tmp 4],
  (.seq (.region [
    ⟨(some 3), none, .box T.funcapiDecisionint (.tmp 1)⟩,
    ⟨(some 4), none, .val (.mv (.const .nil))⟩] [])
  (.seq (.region [
    ⟨(some 5), none, .val (.mv (.tmp 0))⟩,
    ⟨(some 6), none, .call (.const (.func (.func F.slices_Clone__LapiDecision_apiDecision) [] [])) [(.tmp 5)]⟩,
    ⟨(some 0), none, .val (.mv (.tmp 6))⟩] [5, 6])
  (.seq (.region [
    ⟨(some 7), none, .val (.mv (.tmp 0))⟩,
    ⟨(some 8), none, .val (.mkFunc (.func F.appeals_by__apiDecision_1) [] [(.tmp 3)])⟩,
    ⟨(some 9), none, .call (.const (.func (.func F.slices_SortStableFunc__LapiDecision_apiDecision) [] [])) [(.tmp 7), (.tmp 8)]⟩] [7, 8, 9])
  (.seq (.region [
    ⟨(some 10), none, .val (.mv (.tmp 0))⟩,
    ⟨(some 4), none, .val (.mv (.tmp 10))⟩] [10])
  .ret))))⟩
theorem H.appeals_by__apiDecision : Has P F.appeals_by__apiDecision C.appeals_by__apiDecision := ⟨Try.f24, Try.func24, by kernel_rfl, by kernel_rfl⟩

/-- podium/appeals.Standing$1 -/
noncomputable def C.appeals_Standing_1 : MFunc := ⟨5, 1, [.tmp 2],
  (.seq (.region [
    ⟨(some 1), none, .box T.apiDecision (.tmp 0)⟩,
    ⟨(some 2), none, .val (.mv (.const (.int 0)))⟩] [])
  (.seq (.region [
    ⟨(some 3), none, .val (.fieldAddr 1 (.tmp 1))⟩,
    ⟨(some 4), none, .val (.load 1 false (.tmp 3))⟩,
    ⟨(some 2), none, .val (.mv (.tmp 4))⟩] [3, 4])
  .ret))⟩
theorem H.appeals_Standing_1 : Has P F.appeals_Standing_1 C.appeals_Standing_1 := ⟨Try.f25, Try.func25, by kernel_rfl, by kernel_rfl⟩

/-- slices.DeleteFunc[[]podium/api.Decision,podium/api.Decision] -/
noncomputable def C.slices_DeleteFunc__LapiDecision_apiDecision : MFunc := ⟨42, 2, [.tmp 4],
  (.seq (.region [
    ⟨(some 4), none, .val (.mv (.const .nil))⟩] [])
  (.seq (.region [
    ⟨(some 8), none, .val (.mv (.tmp 0))⟩,
    ⟨(some 9), none, .val (.mv (.tmp 1))⟩,
    ⟨(some 10), none, .call (.const (.func (.func F.slices_IndexFunc__LapiDecision_apiDecision) [] [])) [(.tmp 8), (.tmp 9)]⟩,
    ⟨(some 5), none, .val (.mv (.tmp 10))⟩] [8, 9, 10])
  (.seq (.seq (.region [
    ⟨(some 11), none, .val (.mv (.tmp 5))⟩,
    ⟨(some 12), none, .val (.bin .eql T.int (.tmp 11) (.const (.int (-1))))⟩] [11])
  (.cond (.tmp 12)
  (.seq (.region [
    ⟨(some 13), none, .val (.mv (.tmp 0))⟩,
    ⟨(some 4), none, .val (.mv (.tmp 13))⟩] [13])
  .ret)
  .skip))
  (.seq (.seq (.region [
    ⟨(some 14), none, .val (.mv (.tmp 5))⟩,
    ⟨(some 15), none, .val (.bin .add T.int (.tmp 14) (.const (.int 1)))⟩,
    ⟨(some 6), none, .val (.mv (.tmp 15))⟩] [14, 15])
  (.block 0 (.loop (.seq (.seq (.region [
    ⟨(some 16), none, .val (.mv (.tmp 6))⟩,
    ⟨(some 17), none, .val (.mv (.tmp 0))⟩,
    ⟨(some 18), none, .val (.len (.tmp 17))⟩,
    ⟨(some 19), none, .val (.bin .lss T.int (.tmp 16) (.tmp 18))⟩] [16, 17, 18])
  (.cond (.tmp 19)
  .skip
  (.exit 0)))
  (.seq (.block 1 (.seq (.region [
    ⟨(some 22), none, .val (.mv (.tmp 0))⟩,
    ⟨(some 23), none, .val (.mv (.tmp 6))⟩,
    ⟨(some 24), none, .val (.indexAddr 14 (.tmp 22) (.tmp 23))⟩,
    ⟨(some 25), none, .val (.load 14 true (.tmp 24))⟩,
    ⟨(some 7), none, .alloc T.apiDecision [(.int 0), (.int 0), (.int 0), (.int 0), (.int 0), (.int 0), (.int 0), (.int 0), (.int 0), (.int 0), (.int 0), (.int 0), (.int 0), (.int 0)]⟩,
    ⟨none, none, .store 14 (.tmp 7) (.tmp 25)⟩] [22, 23, 24, 25])
  (.seq (.region [
    ⟨(some 26), none, .val (.mv (.tmp 1))⟩,
    ⟨(some 27), none, .val (.load 14 true (.tmp 7))⟩,
    ⟨(some 28), none, .call (.tmp 26) [(.tmp 27)]⟩,
    ⟨(some 29), none, .val (.un .not (.tmp 28))⟩] [26, 27, 28])
  (.cond (.tmp 29)
  (.seq (.region [
    ⟨(some 30), none, .val (.mv (.tmp 0))⟩,
    ⟨(some 31), none, .val (.mv (.tmp 5))⟩,
    ⟨(some 32), none, .val (.load 14 true (.tmp 7))⟩,
    ⟨(some 33), none, .val (.indexAddr 14 (.tmp 30) (.tmp 31))⟩,
    ⟨none, none, .store 14 (.tmp 33) (.tmp 32)⟩] [30, 31, 32, 33])
  (.region [
    ⟨(some 34), none, .val (.mv (.tmp 5))⟩,
    ⟨(some 35), none, .val (.bin .add T.int (.tmp 34) (.const (.int 1)))⟩,
    ⟨(some 5), none, .val (.mv (.tmp 35))⟩] [34, 35]))
  .skip))))
  (.region [
    ⟨(some 20), none, .val (.mv (.tmp 6))⟩,
    ⟨(some 21), none, .val (.bin .add T.int (.tmp 20) (.const (.int 1)))⟩,
    ⟨(some 6), none, .val (.mv (.tmp 21))⟩] [20, 21]))))))
  (.seq (.region [
    ⟨(some 36), none, .val (.mv (.tmp 0))⟩,
    ⟨(some 37), none, .val (.mv (.tmp 5))⟩,
    ⟨(some 38), none, .val (.slice 14 (.tmp 36) (some (.tmp 37)) none none)⟩,
    ⟨none, none, .clear 14 [(.int 0), (.int 0), (.int 0), (.int 0), (.int 0), (.int 0), (.int 0), (.int 0), (.int 0), (.int 0), (.int 0), (.int 0), (.int 0), (.int 0)] (.tmp 38)⟩] [36, 37, 38])
  (.seq (.region [
    ⟨(some 39), none, .val (.mv (.tmp 0))⟩,
    ⟨(some 40), none, .val (.mv (.tmp 5))⟩,
    ⟨(some 41), none, .val (.slice 14 (.tmp 39) none (some (.tmp 40)) none)⟩,
    ⟨(some 4), none, .val (.mv (.tmp 41))⟩] [39, 40, 41])
  .ret))))))⟩
theorem H.slices_DeleteFunc__LapiDecision_apiDecision : Has P F.slices_DeleteFunc__LapiDecision_apiDecision C.slices_DeleteFunc__LapiDecision_apiDecision := ⟨Try.f26, Try.func26, by kernel_rfl, by kernel_rfl⟩

/-- podium/appeals.Standing$2 -/
noncomputable def C.appeals_Standing_2 : MFunc := ⟨8, 2, [.tmp 3],
  (.seq (.region [
    ⟨(some 2), none, .box T.apiDecision (.tmp 0)⟩,
    ⟨(some 3), none, .val (.mv (.const (.bool false)))⟩] [])
  (.seq (.region [
    ⟨(some 4), none, .val (.fieldAddr 1 (.tmp 2))⟩,
    ⟨(some 5), none, .val (.load 1 false (.tmp 4))⟩,
    ⟨(some 6), none, .val (.load 1 false (.tmp 1))⟩,
    ⟨(some 7), none, .val (.bin .gtr T.int (.tmp 5) (.tmp 6))⟩,
    ⟨(some 3), none, .val (.mv (.tmp 7))⟩] [4, 5, 6, 7])
  .ret))⟩
theorem H.appeals_Standing_2 : Has P F.appeals_Standing_2 C.appeals_Standing_2 := ⟨Try.f27, Try.func27, by kernel_rfl, by kernel_rfl⟩

/-- podium/appeals.kinds -/
noncomputable def C.appeals_kinds : MFunc := ⟨5, 0, [.cell 0 8 true],
  (.seq (.region [
    ⟨(some 0), none, .alloc T.t4appealskind [(.val .nilFunc), (.val .nilFunc), (.val .nilFunc), (.val .nilFunc), (.val .nilFunc), (.val .nilFunc), (.val .nilFunc), (.val .nilFunc)]⟩] [])
  (.seq (.region [
    ⟨(some 1), none, .val (.build [(.val .nilFunc), (.val .nilFunc)] [(0, 1, (.const (.func (.func F.appeals_kinds_1) [] []))), (1, 1, (.const (.func (.func F.appeals_kinds_2) [] [])))])⟩,
    ⟨(some 2), none, .val (.build [(.val .nilFunc), (.val .nilFunc)] [(0, 1, (.const (.func (.func F.appeals_kinds_3) [] []))), (1, 1, (.const (.func (.func F.appeals_kinds_4) [] [])))])⟩,
    ⟨(some 3), none, .val (.build [(.val .nilFunc), (.val .nilFunc)] [(0, 1, (.const (.func (.func F.appeals_kinds_5) [] []))), (1, 1, (.const (.func (.func F.appeals_kinds_6) [] [])))])⟩,
    ⟨(some 4), none, .val (.build [(.val .nilFunc), (.val .nilFunc), (.val .nilFunc), (.val .nilFunc), (.val .nilFunc), (.val .nilFunc), (.val .nilFunc), (.val .nilFunc)] [(2, 2, (.tmp 1)), (4, 2, (.tmp 2)), (6, 2, (.tmp 3))])⟩,
    ⟨none, none, .store 8 (.tmp 0) (.tmp 4)⟩] [1, 2, 3, 4])
  .ret))⟩
theorem H.appeals_kinds : Has P F.appeals_kinds C.appeals_kinds := ⟨Try.f28, Try.func28, by kernel_rfl, by kernel_rfl⟩

/-- podium/podiumref51.Valid -/
noncomputable def C.podiumref51_Valid : MFunc := ⟨74, 1, [.tmp 2],
  (.seq (.region [
    ⟨(some 1), none, .box T.apiDecision (.tmp 0)⟩,
    ⟨(some 2), none, .val (.mv (.const (.bool false)))⟩] [])
  (.seq (.seq (.region [
    ⟨(some 4), none, .val (.fieldAddr 0 (.tmp 1))⟩,
    ⟨(some 5), none, .val (.load 1 false (.tmp 4))⟩,
    ⟨(some 6), none, .val (.bin .lss T.int (.tmp 5) (.const (.int 0)))⟩,
    ⟨(some 7), none, .val (.mv (.tmp 6))⟩,
    ⟨(some 8), (some (7, false)), .val (.fieldAddr 0 (.tmp 1))⟩,
    ⟨(some 9), (some (7, false)), .val (.load 1 false (.tmp 8))⟩,
    ⟨(some 10), (some (7, false)), .val (.bin .gtr T.int (.tmp 9) (.const (.int 1048576)))⟩,
    ⟨(some 11), none, .val (.pick (.tmp 7) (.const (.bool true)) (.tmp 10))⟩,
    ⟨(some 12), none, .val (.mv (.tmp 11))⟩,
    ⟨(some 13), (some (12, false)), .val (.fieldAddr 1 (.tmp 1))⟩,
    ⟨(some 14), (some (12, false)), .val (.load 1 false (.tmp 13))⟩,
    ⟨(some 15), (some (12, false)), .val (.bin .lss T.int (.tmp 14) (.const (.int 0)))⟩,
    ⟨(some 16), none, .val (.pick (.tmp 12) (.const (.bool true)) (.tmp 15))⟩,
    ⟨(some 17), none, .val (.mv (.tmp 16))⟩,
    ⟨(some 18), (some (17, false)), .val (.fieldAddr 1 (.tmp 1))⟩,
    ⟨(some 19), (some (17, false)), .val (.load 1 false (.tmp 18))⟩,
    ⟨(some 20), (some (17, false)), .val (.bin .geq T.int (.tmp 19) (.const (.int 2097152)))⟩,
    ⟨(some 21), none, .val (.pick (.tmp 17) (.const (.bool true)) (.tmp 20))⟩] [4, 5, 6, 7, 8, 9, 10, 11, 12, 13, 14, 15, 16, 17, 18, 19, 20])
  (.cond (.tmp 21)
  (.seq (.region [
    ⟨(some 2), none, .val (.mv (.const (.bool false)))⟩] [])
  .ret)
  .skip))
  (.seq (.region [
    ⟨(some 22), none, .val (.fieldAddr 3 (.tmp 1))⟩,
    ⟨(some 23), none, .val (.load 1 false (.tmp 22))⟩,
    ⟨(some 24), none, .val (.bin .geq T.int (.tmp 23) (.const (.int 0)))⟩,
    ⟨(some 25), none, .val (.mv (.tmp 24))⟩,
    ⟨(some 26), (some (25, true)), .val (.fieldAddr 3 (.tmp 1))⟩,
    ⟨(some 27), (some (25, true)), .val (.load 1 false (.tmp 26))⟩,
    ⟨(some 28), (some (25, true)), .val (.bin .leq T.int (.tmp 27) (.const (.int 1048576)))⟩,
    ⟨(some 29), none, .val (.pick (.tmp 25) (.tmp 28) (.const (.bool false)))⟩,
    ⟨(some 30), none, .val (.mv (.tmp 29))⟩,
    ⟨(some 31), (some (30, true)), .val (.fieldAddr 5 (.tmp 1))⟩,
    ⟨(some 32), (some (30, true)), .val (.load 9 true (.tmp 31))⟩,
    ⟨(some 33), (some (30, true)), .val (.build [(.int 0), (.int 0), (.int 0), (.int 0), (.int 0), (.int 0), (.int 0), (.int 0), (.int 0)] [])⟩,
    ⟨(some 34), (some (30, true)), .val (.eqAgg false [.int, .int, .int, .int, .int, .int, .int, .int, .int] (.tmp 32) (.tmp 33))⟩,
    ⟨(some 35), none, .val (.pick (.tmp 30) (.tmp 34) (.const (.bool false)))⟩,
    ⟨(some 3), none, .val (.mv (.tmp 35))⟩] [22, 23, 24, 25, 26, 27, 28, 29, 30, 31, 32, 33, 34, 35])
  (.seq (.seq (.region [
    ⟨(some 36), none, .val (.fieldAddr 2 (.tmp 1))⟩,
    ⟨(some 37), none, .val (.load 1 false (.tmp 36))⟩] [36])
  (.block 0 (.seq (.region [
    ⟨(some 39), none, .val (.bin .eql T.int (.tmp 37) (.const (.int 1)))⟩,
    ⟨(some 38), none, .val (.mv (.tmp 39))⟩] [39])
  (.cond (.tmp 38)
  (.seq (.region [
    ⟨(some 40), none, .val (.mv (.tmp 3))⟩,
    ⟨(some 41), none, .val (.mv (.tmp 40))⟩,
    ⟨(some 42), (some (41, true)), .val (.fieldAddr 4 (.tmp 1))⟩,
    ⟨(some 43), (some (41, true)), .val (.load 1 false (.tmp 42))⟩,
    ⟨(some 44), (some (41, true)), .val (.bin .eql T.int (.tmp 43) (.const (.int 0)))⟩,
    ⟨(some 45), none, .val (.pick (.tmp 41) (.tmp 44) (.const (.bool false)))⟩,
    ⟨(some 2), none, .val (.mv (.tmp 45))⟩] [40, 41, 42, 43, 44, 45])
  .ret)
  (.seq (.region [
    ⟨(some 47), none, .val (.bin .eql T.int (.tmp 37) (.const (.int 2)))⟩,
    ⟨(some 46), none, .val (.mv (.tmp 47))⟩] [47])
  (.cond (.tmp 46)
  (.seq (.region [
    ⟨(some 48), none, .val (.mv (.tmp 3))⟩,
    ⟨(some 49), none, .val (.mv (.tmp 48))⟩,
    ⟨(some 50), (some (49, true)), .val (.fieldAddr 4 (.tmp 1))⟩,
    ⟨(some 51), (some (49, true)), .val (.load 1 false (.tmp 50))⟩,
    ⟨(some 52), (some (49, true)), .val (.bin .geq T.int (.tmp 51) (.const (.int 0)))⟩,
    ⟨(some 53), none, .val (.pick (.tmp 49) (.tmp 52) (.const (.bool false)))⟩,
    ⟨(some 54), none, .val (.mv (.tmp 53))⟩,
    ⟨(some 55), (some (54, true)), .val (.fieldAddr 4 (.tmp 1))⟩,
    ⟨(some 56), (some (54, true)), .val (.load 1 false (.tmp 55))⟩,
    ⟨(some 57), (some (54, true)), .val (.bin .leq T.int (.tmp 56) (.const (.int 1000)))⟩,
    ⟨(some 58), none, .val (.pick (.tmp 54) (.tmp 57) (.const (.bool false)))⟩,
    ⟨(some 2), none, .val (.mv (.tmp 58))⟩] [48, 49, 50, 51, 52, 53, 54, 55, 56, 57, 58])
  .ret)
  (.seq (.region [
    ⟨(some 60), none, .val (.bin .eql T.int (.tmp 37) (.const (.int 3)))⟩,
    ⟨(some 59), none, .val (.mv (.tmp 60))⟩] [60])
  (.cond (.tmp 59)
  (.seq (.region [
    ⟨(some 61), none, .val (.fieldAddr 3 (.tmp 1))⟩,
    ⟨(some 62), none, .val (.load 1 false (.tmp 61))⟩,
    ⟨(some 63), none, .val (.bin .eql T.int (.tmp 62) (.const (.int 0)))⟩,
    ⟨(some 64), none, .val (.mv (.tmp 63))⟩,
    ⟨(some 65), (some (64, true)), .val (.fieldAddr 4 (.tmp 1))⟩,
    ⟨(some 66), (some (64, true)), .val (.load 1 false (.tmp 65))⟩,
    ⟨(some 67), (some (64, true)), .val (.bin .eql T.int (.tmp 66) (.const (.int 0)))⟩,
    ⟨(some 68), none, .val (.pick (.tmp 64) (.tmp 67) (.const (.bool false)))⟩,
    ⟨(some 69), none, .val (.mv (.tmp 68))⟩,
    ⟨(some 70), (some (69, true)), .val (.fieldAddr 5 (.tmp 1))⟩,
    ⟨(some 71), (some (69, true)), .val (.load 9 true (.tmp 70))⟩,
    ⟨(some 72), (some (69, true)), .call (.const (.func (.func F.podiumref51_event) [] [])) [(.tmp 71)]⟩,
    ⟨(some 73), none, .val (.pick (.tmp 69) (.tmp 72) (.const (.bool false)))⟩,
    ⟨(some 2), none, .val (.mv (.tmp 73))⟩] [61, 62, 63, 64, 65, 66, 67, 68, 69, 70, 71, 72, 73])
  .ret)
  .skip))))))))
  (.seq (.region [
    ⟨(some 2), none, .val (.mv (.const (.bool false)))⟩] [])
  .ret)))))⟩
theorem H.podiumref51_Valid : Has P F.podiumref51_Valid C.podiumref51_Valid := ⟨Try.f29, Try.func29, by kernel_rfl, by kernel_rfl⟩

/-- podium/appeals.by[podium/api.Event] -/
noncomputable def C.appeals_by__apiEvent : MFunc := ⟨11, 2, [.tmp 4],
  (.seq (.region [
    ⟨(some 3), none, .box T.funcapiEventint (.tmp 1)⟩,
    ⟨(some 4), none, .val (.mv (.const .nil))⟩] [])
  (.seq (.region [
    ⟨(some 5), none, .val (.mv (.tmp 0))⟩,
    ⟨(some 6), none, .call (.const (.func (.func F.slices_Clone__LapiEvent_apiEvent) [] [])) [(.tmp 5)]⟩,
    ⟨(some 0), none, .val (.mv (.tmp 6))⟩] [5, 6])
  (.seq (.region [
    ⟨(some 7), none, .val (.mv (.tmp 0))⟩,
    ⟨(some 8), none, .val (.mkFunc (.func F.appeals_by__apiEvent_1) [] [(.tmp 3)])⟩,
    ⟨(some 9), none, .call (.const (.func (.func F.slices_SortStableFunc__LapiEvent_apiEvent) [] [])) [(.tmp 7), (.tmp 8)]⟩] [7, 8, 9])
  (.seq (.region [
    ⟨(some 10), none, .val (.mv (.tmp 0))⟩,
    ⟨(some 4), none, .val (.mv (.tmp 10))⟩] [10])
  .ret))))⟩
theorem H.appeals_by__apiEvent : Has P F.appeals_by__apiEvent C.appeals_by__apiEvent := ⟨Try.f30, Try.func30, by kernel_rfl, by kernel_rfl⟩

/-- slices.Collect[podium/api.Event] -/
noncomputable def C.slices_Collect__apiEvent : MFunc := ⟨5, 1, [.tmp 2],
  (.seq (.region [
    ⟨(some 2), none, .val (.mv (.const .nil))⟩] [])
  (.seq (.region [
    ⟨(some 3), none, .val (.mv (.tmp 0))⟩,
    ⟨(some 4), none, .call (.const (.func (.func F.slices_AppendSeq__LapiEvent_apiEvent) [] [])) [(.const .nil), (.tmp 3)]⟩,
    ⟨(some 2), none, .val (.mv (.tmp 4))⟩] [3, 4])
  .ret))⟩
theorem H.slices_Collect__apiEvent : Has P F.slices_Collect__apiEvent C.slices_Collect__apiEvent := ⟨Try.f31, Try.func31, by kernel_rfl, by kernel_rfl⟩

/-- maps.Values[podium/appeals.events,int,podium/api.Event] -/
noncomputable def C.maps_Values__appealsevents_int_apiEvent : MFunc := ⟨4, 1, [.tmp 2],
  (.seq (.region [
    ⟨(some 1), none, .box T.appealsevents (.tmp 0)⟩,
    ⟨(some 2), none, .val (.mv (.const (.val .nilFunc)))⟩] [])
  (.seq (.region [
    ⟨(some 3), none, .val (.mkFunc (.func F.maps_Values__appealsevents_int_apiEvent_1) [] [(.tmp 1)])⟩,
    ⟨(some 2), none, .val (.mv (.tmp 3))⟩] [3])
  .ret))⟩
theorem H.maps_Values__appealsevents_int_apiEvent : Has P F.maps_Values__appealsevents_int_apiEvent C.maps_Values__appealsevents_int_apiEvent := ⟨Try.f32, Try.func32, by kernel_rfl, by kernel_rfl⟩

/-- podium/appeals.Apply$1 -/
noncomputable def C.appeals_Apply_1 : MFunc := ⟨5, 1, [.tmp 2],
  (.seq (.region [
    ⟨(some 1), none, .box T.apiEvent (.tmp 0)⟩,
    ⟨(some 2), none, .val (.mv (.const (.int 0)))⟩] [])
  (.seq (.region [
    ⟨(some 3), none, .val (.fieldAddr 0 (.tmp 1))⟩,
    ⟨(some 4), none, .val (.load 1 false (.tmp 3))⟩,
    ⟨(some 2), none, .val (.mv (.tmp 4))⟩] [3, 4])
  .ret))⟩
theorem H.appeals_Apply_1 : Has P F.appeals_Apply_1 C.appeals_Apply_1 := ⟨Try.f33, Try.func33, by kernel_rfl, by kernel_rfl⟩

/-- podium/podiumref49.Check -/
noncomputable def C.podiumref49_Check : MFunc := ⟨37, 1, [.tmp 2],
  (.seq (.region [
    ⟨(some 2), none, .val (.mv (.const (.int 0)))⟩] [])
  (.seq (.seq (.region [
    ⟨(some 4), none, .val (.mv (.tmp 0))⟩,
    ⟨(some 5), none, .val (.len (.tmp 4))⟩,
    ⟨(some 6), none, .val (.bin .gtr T.int (.tmp 5) (.const (.int 4096)))⟩] [4, 5])
  (.cond (.tmp 6)
  (.seq (.region [
    ⟨(some 2), none, .val (.mv (.const (.int 2)))⟩] [])
  .ret)
  .skip))
  (.seq (.seq (.region [
    ⟨(some 3), none, .val (.mv (.const (.int 0)))⟩] [])
  (.block 0 (.loop (.seq (.seq (.region [
    ⟨(some 7), none, .val (.mv (.tmp 3))⟩,
    ⟨(some 8), none, .val (.mv (.tmp 0))⟩,
    ⟨(some 9), none, .val (.len (.tmp 8))⟩,
    ⟨(some 10), none, .val (.bin .lss T.int (.tmp 7) (.tmp 9))⟩] [7, 8, 9])
  (.cond (.tmp 10)
  .skip
  (.exit 0)))
  (.seq (.block 1 (.seq (.draw true [
    (.early, ⟨(some 13), none, .val (.mv (.tmp 0))⟩),
    (.early, ⟨(some 14), none, .val (.mv (.tmp 3))⟩),
    (.early, ⟨(some 15), none, .val (.indexAddr 9 (.tmp 13) (.tmp 14))⟩),
    (.early, ⟨(some 16), none, .val (.load 9 true (.tmp 15))⟩),
    (.hard, ⟨(some 17), none, .call (.const (.func (.func F.podiumref49_Right) [] [])) [(.tmp 16)]⟩),
    (.late, ⟨(some 18), none, .val (.un .not (.tmp 17))⟩),
    (.late, ⟨(some 19), none, .val (.mv (.tmp 18))⟩),
    (.late, ⟨(some 20), (some (19, false)), .val (.mv (.tmp 3))⟩),
    (.late, ⟨(some 21), (some (19, false)), .val (.bin .gtr T.int (.tmp 20) (.const (.int 0)))⟩),
    (.late, ⟨(some 22), (some (19, false)), .val (.mv (.tmp 21))⟩),
    (.late, ⟨(some 23), (some (22, true)), .val (.mv (.tmp 0))⟩),
    (.late, ⟨(some 24), (some (22, true)), .val (.mv (.tmp 3))⟩),
    (.late, ⟨(some 25), (some (22, true)), .val (.indexAddr 9 (.tmp 23) (.tmp 24))⟩),
    (.late, ⟨(some 26), (some (22, true)), .val (.fieldAddr 0 (.tmp 25))⟩),
    (.late, ⟨(some 27), (some (22, true)), .val (.load 1 false (.tmp 26))⟩),
    (.late, ⟨(some 28), (some (22, true)), .val (.mv (.tmp 0))⟩),
    (.late, ⟨(some 29), (some (22, true)), .val (.mv (.tmp 3))⟩),
    (.late, ⟨(some 30), (some (22, true)), .val (.bin .sub T.int (.tmp 29) (.const (.int 1)))⟩),
    (.late, ⟨(some 31), (some (22, true)), .val (.indexAddr 9 (.tmp 28) (.tmp 30))⟩),
    (.late, ⟨(some 32), (some (22, true)), .val (.fieldAddr 0 (.tmp 31))⟩),
    (.late, ⟨(some 33), (some (22, true)), .val (.load 1 false (.tmp 32))⟩),
    (.late, ⟨(some 34), (some (22, true)), .val (.bin .leq T.int (.tmp 27) (.tmp 33))⟩),
    (.late, ⟨(some 35), (some (19, false)), .val (.pick (.tmp 22) (.tmp 34) (.const (.bool false)))⟩),
    (.late, ⟨(some 36), none, .val (.pick (.tmp 19) (.const (.bool true)) (.tmp 35))⟩)] [13, 14, 15, 16, 17, 18, 19, 20, 21, 22, 23, 24, 25, 26, 27, 28, 29, 30, 31, 32, 33, 34, 35])
  (.cond (.tmp 36)
  (.seq (.region [
    ⟨(some 2), none, .val (.mv (.const (.int 490)))⟩] [])
  .ret)
  .skip)))
  (.region [
    ⟨(some 11), none, .val (.mv (.tmp 3))⟩,
    ⟨(some 12), none, .val (.bin .add T.int (.tmp 11) (.const (.int 1)))⟩,
    ⟨(some 3), none, .val (.mv (.tmp 12))⟩] [11, 12]))))))
  (.seq (.region [
    ⟨(some 2), none, .val (.mv (.const (.int 0)))⟩] [])
  .ret))))⟩
theorem H.podiumref49_Check : Has P F.podiumref49_Check C.podiumref49_Check := ⟨Try.f34, Try.func34, by kernel_rfl, by kernel_rfl⟩

/-- podium/podiumref51.One -/
noncomputable def C.podiumref51_One : MFunc := ⟨89, 2, [.tmp 4],
  (.seq (.region [
    ⟨(some 3), none, .box T.apiDecision (.tmp 1)⟩,
    ⟨(some 4), none, .val (.mv (.const .nil))⟩] [])
  (.seq (.region [
    ⟨(some 8), none, .val (.mv (.tmp 0))⟩,
    ⟨(some 9), none, .val (.load 14 true (.tmp 3))⟩,
    ⟨(some 10), none, .call (.const (.func (.func F.podiumref51_Subject) [] [])) [(.tmp 9)]⟩,
    ⟨(some 11), none, .call (.const (.func (.func F.podiumref51_Find) [] [])) [(.tmp 8), (.tmp 10)]⟩,
    ⟨(some 5), none, .val (.mv (.tmp 11))⟩] [8, 9, 10, 11])
  (.seq (.seq (.region [
    ⟨(some 12), none, .val (.fieldAddr 2 (.tmp 3))⟩,
    ⟨(some 13), none, .val (.load 1 false (.tmp 12))⟩] [12])
  (.block 0 (.seq (.region [
    ⟨(some 15), none, .val (.bin .eql T.int (.tmp 13) (.const (.int 1)))⟩,
    ⟨(some 14), none, .val (.mv (.tmp 15))⟩] [15])
  (.cond (.tmp 14)
  (.seq (.region [
    ⟨(some 16), none, .val (.mv (.tmp 5))⟩,
    ⟨(some 17), none, .val (.bin .geq T.int (.tmp 16) (.const (.int 0)))⟩] [16])
  (.cond (.tmp 17)
  (.seq (.draw true [
    (.early, ⟨(some 18), none, .val (.buildSlice T.apiEvent 0 [] [])⟩),
    (.early, ⟨(some 19), none, .val (.mv (.tmp 0))⟩),
    (.early, ⟨(some 20), none, .val (.mv (.tmp 5))⟩),
    (.early, ⟨(some 21), none, .val (.slice 9 (.tmp 19) none (some (.tmp 20)) none)⟩),
    (.late, ⟨(some 23), none, .val (.mv (.tmp 0))⟩),
    (.late, ⟨(some 24), none, .val (.mv (.tmp 5))⟩),
    (.late, ⟨(some 25), none, .val (.bin .add T.int (.tmp 24) (.const (.int 1)))⟩),
    (.late, ⟨(some 26), none, .val (.slice 9 (.tmp 23) (some (.tmp 25)) none none)⟩),
    (.hard, ⟨(some 22), none, .append T.apiEvent 72 9 (.tmp 18) (.tmp 21)⟩),
    (.hard, ⟨(some 27), none, .append T.apiEvent 72 9 (.tmp 22) (.tmp 26)⟩),
    (.late, ⟨(some 4), none, .val (.mv (.tmp 27))⟩)] [18, 19, 20, 21, 22, 23, 24, 25, 26, 27])
  .ret)
  .skip))
  (.seq (.region [
    ⟨(some 29), none, .val (.bin .eql T.int (.tmp 13) (.const (.int 2)))⟩,
    ⟨(some 28), none, .val (.mv (.tmp 29))⟩] [29])
  (.cond (.tmp 28)
  (.seq (.region [
    ⟨(some 30), none, .val (.mv (.tmp 5))⟩,
    ⟨(some 31), none, .val (.bin .geq T.int (.tmp 30) (.const (.int 0)))⟩] [30])
  (.cond (.tmp 31)
  (.seq (.region [
    ⟨(some 32), none, .val (.mv (.tmp 0))⟩,
    ⟨(some 33), none, .val (.mv (.tmp 5))⟩,
    ⟨(some 34), none, .val (.indexAddr 9 (.tmp 32) (.tmp 33))⟩,
    ⟨(some 35), none, .val (.load 9 true (.tmp 34))⟩,
    ⟨(some 6), none, .alloc T.apiEvent [(.int 0), (.int 0), (.int 0), (.int 0), (.int 0), (.int 0), (.int 0), (.int 0), (.int 0)]⟩,
    ⟨none, none, .store 9 (.tmp 6) (.tmp 35)⟩] [32, 33, 34, 35])
  (.seq (.region [
    ⟨(some 36), none, .val (.fieldAddr 4 (.tmp 3))⟩,
    ⟨(some 37), none, .val (.load 1 false (.tmp 36))⟩,
    ⟨(some 38), none, .val (.fieldAddr 6 (.tmp 6))⟩,
    ⟨none, none, .store 1 (.tmp 38) (.tmp 37)⟩] [36, 37, 38])
  (.seq (.region [
    ⟨(some 39), none, .val (.load 9 true (.tmp 6))⟩,
    ⟨(some 40), none, .call (.const (.func (.func F.podiumref51_event) [] [])) [(.tmp 39)]⟩] [39])
  (.cond (.tmp 40)
  (.seq (.draw true [
    (.early, ⟨(some 41), none, .val (.buildSlice T.apiEvent 0 [] [])⟩),
    (.early, ⟨(some 42), none, .val (.mv (.tmp 0))⟩),
    (.early, ⟨(some 43), none, .val (.mv (.tmp 5))⟩),
    (.early, ⟨(some 44), none, .val (.slice 9 (.tmp 42) none (some (.tmp 43)) none)⟩),
    (.late, ⟨(some 46), none, .val (.load 9 true (.tmp 6))⟩),
    (.late, ⟨(some 47), none, .val (.buildSlice T.apiEvent 1 [(.int 0), (.int 0), (.int 0), (.int 0), (.int 0), (.int 0), (.int 0), (.int 0), (.int 0)] [(0, 9, (.tmp 46))])⟩),
    (.late, ⟨(some 49), none, .val (.mv (.tmp 0))⟩),
    (.late, ⟨(some 50), none, .val (.mv (.tmp 5))⟩),
    (.late, ⟨(some 51), none, .val (.bin .add T.int (.tmp 50) (.const (.int 1)))⟩),
    (.late, ⟨(some 52), none, .val (.slice 9 (.tmp 49) (some (.tmp 51)) none none)⟩),
    (.hard, ⟨(some 45), none, .append T.apiEvent 72 9 (.tmp 41) (.tmp 44)⟩),
    (.hard, ⟨(some 48), none, .append T.apiEvent 72 9 (.tmp 45) (.tmp 47)⟩),
    (.hard, ⟨(some 53), none, .append T.apiEvent 72 9 (.tmp 48) (.tmp 52)⟩),
    (.late, ⟨(some 4), none, .val (.mv (.tmp 53))⟩)] [41, 42, 43, 44, 45, 46, 47, 48, 49, 50, 51, 52, 53])
  .ret)
  .skip))))
  .skip))
  (.seq (.region [
    ⟨(some 55), none, .val (.bin .eql T.int (.tmp 13) (.const (.int 3)))⟩,
    ⟨(some 54), none, .val (.mv (.tmp 55))⟩] [55])
  (.cond (.tmp 54)
  (.seq (.region [
    ⟨(some 56), none, .val (.mv (.tmp 5))⟩,
    ⟨(some 57), none, .val (.bin .lss T.int (.tmp 56) (.const (.int 0)))⟩] [56])
  (.cond (.tmp 57)
  (.seq (.region [
    ⟨(some 7), none, .val (.mv (.const (.int 0)))⟩] [])
  (.seq (.block 1 (.loop (.seq (.seq (.draw false [
    (.early, ⟨(some 58), none, .val (.mv (.tmp 7))⟩),
    (.early, ⟨(some 59), none, .val (.mv (.tmp 0))⟩),
    (.early, ⟨(some 60), none, .val (.len (.tmp 59))⟩),
    (.early, ⟨(some 61), none, .val (.bin .lss T.int (.tmp 58) (.tmp 60))⟩),
    (.early, ⟨(some 62), none, .val (.mv (.tmp 61))⟩),
    (.early, ⟨(some 63), (some (62, true)), .val (.mv (.tmp 0))⟩),
    (.early, ⟨(some 64), (some (62, true)), .val (.mv (.tmp 7))⟩),
    (.early, ⟨(some 65), (some (62, true)), .val (.indexAddr 9 (.tmp 63) (.tmp 64))⟩),
    (.early, ⟨(some 66), (some (62, true)), .val (.fieldAddr 0 (.tmp 65))⟩),
    (.early, ⟨(some 67), (some (62, true)), .val (.load 1 false (.tmp 66))⟩),
    (.early, ⟨(some 68), (some (62, true)), .val (.fieldAddr 5 (.tmp 3))⟩),
    (.early, ⟨(some 69), (some (62, true)), .val (.fieldAddr 0 (.tmp 68))⟩),
    (.early, ⟨(some 70), (some (62, true)), .val (.load 1 false (.tmp 69))⟩),
    (.early, ⟨(some 71), (some (62, true)), .val (.bin .lss T.int (.tmp 67) (.tmp 70))⟩),
    (.early, ⟨(some 72), none, .val (.pick (.tmp 62) (.tmp 71) (.const (.bool false)))⟩)] [58, 59, 60, 61, 62, 63, 64, 65, 66, 67, 68, 69, 70, 71])
  (.cond (.tmp 72)
  .skip
  (.exit 1)))
  (.block 2 (.region [
    ⟨(some 73), none, .val (.mv (.tmp 7))⟩,
    ⟨(some 74), none, .val (.bin .add T.int (.tmp 73) (.const (.int 1)))⟩,
    ⟨(some 7), none, .val (.mv (.tmp 74))⟩] [73, 74])))))
  (.seq (.draw true [
    (.early, ⟨(some 75), none, .val (.buildSlice T.apiEvent 0 [] [])⟩),
    (.early, ⟨(some 76), none, .val (.mv (.tmp 0))⟩),
    (.early, ⟨(some 77), none, .val (.mv (.tmp 7))⟩),
    (.early, ⟨(some 78), none, .val (.slice 9 (.tmp 76) none (some (.tmp 77)) none)⟩),
    (.late, ⟨(some 80), none, .val (.fieldAddr 5 (.tmp 3))⟩),
    (.late, ⟨(some 81), none, .val (.load 9 true (.tmp 80))⟩),
    (.late, ⟨(some 82), none, .val (.buildSlice T.apiEvent 1 [(.int 0), (.int 0), (.int 0), (.int 0), (.int 0), (.int 0), (.int 0), (.int 0), (.int 0)] [(0, 9, (.tmp 81))])⟩),
    (.late, ⟨(some 84), none, .val (.mv (.tmp 0))⟩),
    (.late, ⟨(some 85), none, .val (.mv (.tmp 7))⟩),
    (.late, ⟨(some 86), none, .val (.slice 9 (.tmp 84) (some (.tmp 85)) none none)⟩),
    (.hard, ⟨(some 79), none, .append T.apiEvent 72 9 (.tmp 75) (.tmp 78)⟩),
    (.hard, ⟨(some 83), none, .append T.apiEvent 72 9 (.tmp 79) (.tmp 82)⟩),
    (.hard, ⟨(some 87), none, .append T.apiEvent 72 9 (.tmp 83) (.tmp 86)⟩),
    (.late, ⟨(some 4), none, .val (.mv (.tmp 87))⟩)] [75, 76, 77, 78, 79, 80, 81, 82, 83, 84, 85, 86, 87])
  .ret)))
  .skip))
  .skip))))))))
  (.seq (.region [
    ⟨(some 88), none, .val (.mv (.tmp 0))⟩,
    ⟨(some 4), none, .val (.mv (.tmp 88))⟩] [88])
  .ret))))⟩
theorem H.podiumref51_One : Has P F.podiumref51_One C.podiumref51_One := ⟨Try.f35, Try.func35, by kernel_rfl, by kernel_rfl⟩

/-- podium/record.kinds -/
noncomputable def C.record_kinds : MFunc := ⟨12, 0, [.tmp 0],
  (.seq (.region [
    ⟨(some 0), none, .val (.mv (.const (.val (.map none))))⟩] [])
  (.seq (.region [
    ⟨(some 1), none, .alloc T.funcapiEventbool [(.val .nilFunc)]⟩,
    ⟨none, none, .store 1 (.tmp 1) (.const (.func (.func F.record_kinds_1) [] []))⟩] [])
  (.seq (.region [
    ⟨(some 3), none, .val (.mkFunc (.func F.record_kinds_2) [] [(.tmp 1)])⟩,
    ⟨(some 4), none, .val (.build [(.val .nilFunc)] [(0, 1, (.tmp 3))])⟩,
    ⟨(some 2), none, .alloc T.recordkind [(.val .nilFunc)]⟩,
    ⟨none, none, .store 1 (.tmp 2) (.tmp 4)⟩] [3, 4])
  (.seq (.region [
    ⟨(some 5), none, .mkMap⟩,
    ⟨(some 6), none, .val (.mkFunc (.func F.record_kinds_3) [] [(.tmp 1)])⟩,
    ⟨(some 7), none, .val (.build [(.val .nilFunc)] [(0, 1, (.tmp 6))])⟩,
    ⟨none, none, .mapSet (false, [.int]) (.tmp 5) (.const (.int 1)) (.tmp 7)⟩,
    ⟨(some 8), none, .val (.load 1 true (.tmp 2))⟩,
    ⟨none, none, .mapSet (false, [.int]) (.tmp 5) (.const (.int 2)) (.tmp 8)⟩,
    ⟨(some 9), none, .val (.load 1 true (.tmp 2))⟩,
    ⟨none, none, .mapSet (false, [.int]) (.tmp 5) (.const (.int 3)) (.tmp 9)⟩,
    ⟨(some 10), none, .val (.build [(.val .nilFunc)] [(0, 1, (.const (.func (.func F.record_kinds_4) [] [])))])⟩,
    ⟨none, none, .mapSet (false, [.int]) (.tmp 5) (.const (.int 4)) (.tmp 10)⟩,
    ⟨(some 11), none, .val (.mv (.tmp 5))⟩,
    ⟨(some 0), none, .val (.mv (.tmp 11))⟩] [5, 6, 7, 8, 9, 10, 11])
  .ret))))⟩
theorem H.record_kinds : Has P F.record_kinds C.record_kinds := ⟨Try.f36, Try.func36, by kernel_rfl, by kernel_rfl⟩

/-- podium/record.right -/
noncomputable def C.record_right : MFunc := ⟨50, 2, [.tmp 4],
  (.seq (.region [
    ⟨(some 2), none, .box T.apiEvent (.tmp 0)⟩,
    ⟨(some 4), none, .val (.mv (.const (.bool false)))⟩] [])
  (.seq (.region [
    ⟨(some 9), none, .val (.fieldAddr 0 (.tmp 2))⟩,
    ⟨(some 10), none, .val (.load 1 false (.tmp 9))⟩,
    ⟨(some 11), none, .call (.const (.func (.func F.record_between) [] [])) [(.tmp 10), (.const (.int 0)), (.const (.int 1048576))]⟩,
    ⟨(some 12), none, .val (.mv (.tmp 11))⟩,
    ⟨(some 13), (some (12, true)), .val (.fieldAddr 2 (.tmp 2))⟩,
    ⟨(some 14), (some (12, true)), .val (.load 1 false (.tmp 13))⟩,
    ⟨(some 15), (some (12, true)), .call (.const (.func (.func F.record_between) [] [])) [(.tmp 14), (.const (.int 0)), (.const (.int 7))]⟩,
    ⟨(some 16), none, .val (.pick (.tmp 12) (.tmp 15) (.const (.bool false)))⟩,
    ⟨(some 17), none, .val (.mv (.tmp 16))⟩,
    ⟨(some 18), (some (17, true)), .val (.fieldAddr 3 (.tmp 2))⟩,
    ⟨(some 19), (some (17, true)), .val (.load 1 false (.tmp 18))⟩,
    ⟨(some 20), (some (17, true)), .call (.const (.func (.func F.record_between) [] [])) [(.tmp 19), (.const (.int 0)), (.const (.int 4095))]⟩,
    ⟨(some 21), none, .val (.pick (.tmp 17) (.tmp 20) (.const (.bool false)))⟩,
    ⟨(some 5), none, .val (.mv (.tmp 21))⟩] [9, 10, 11, 12, 13, 14, 15, 16, 17, 18, 19, 20, 21])
  (.seq (.region [
    ⟨(some 22), none, .val (.fieldAddr 7 (.tmp 2))⟩,
    ⟨(some 23), none, .val (.load 1 false (.tmp 22))⟩,
    ⟨(some 24), none, .call (.const (.func (.func F.record_between) [] [])) [(.tmp 23), (.const (.int 0)), (.const (.int 2097151))]⟩,
    ⟨(some 25), none, .val (.mv (.tmp 24))⟩,
    ⟨(some 26), (some (25, true)), .val (.fieldAddr 8 (.tmp 2))⟩,
    ⟨(some 27), (some (25, true)), .val (.load 1 false (.tmp 26))⟩,
    ⟨(some 28), (some (25, true)), .call (.const (.func (.func F.record_between) [] [])) [(.tmp 27), (.const (.int 0)), (.const (.int 2097151))]⟩,
    ⟨(some 29), none, .val (.pick (.tmp 25) (.tmp 28) (.const (.bool false)))⟩,
    ⟨(some 6), none, .val (.mv (.tmp 29))⟩] [22, 23, 24, 25, 26, 27, 28, 29])
  (.seq (.region [
    ⟨(some 31), none, .val (.mv (.tmp 1))⟩,
    ⟨(some 32), none, .val (.fieldAddr 1 (.tmp 2))⟩,
    ⟨(some 33), none, .val (.load 1 false (.tmp 32))⟩,
    ⟨(some 34), none, .val (.lookup (false, [.int]) (.agg [(.val .nilFunc)]) true (.tmp 31) (.tmp 33))⟩,
    ⟨(some 30), none, .val (.mv (.tmp 34))⟩,
    ⟨(some 35), none, .val (.extract 0 (.tmp 30))⟩,
    ⟨(some 36), none, .val (.extract 1 (.tmp 30))⟩,
    ⟨(some 7), none, .alloc T.recordkind [(.val .nilFunc)]⟩,
    ⟨none, none, .store 1 (.tmp 7) (.tmp 35)⟩,
    ⟨(some 8), none, .val (.mv (.tmp 36))⟩] [31, 32, 33, 34, 30, 35, 36])
  (.seq (.region [
    ⟨(some 37), none, .val (.mv (.tmp 5))⟩,
    ⟨(some 38), none, .val (.mv (.tmp 37))⟩,
    ⟨(some 39), (some (38, true)), .val (.mv (.tmp 6))⟩,
    ⟨(some 40), none, .val (.pick (.tmp 38) (.tmp 39) (.const (.bool false)))⟩,
    ⟨(some 41), none, .val (.mv (.tmp 40))⟩,
    ⟨(some 42), (some (41, true)), .val (.mv (.tmp 8))⟩,
    ⟨(some 43), none, .val (.pick (.tmp 41) (.tmp 42) (.const (.bool false)))⟩,
    ⟨(some 44), none, .val (.mv (.tmp 43))⟩,
    ⟨(some 45), (some (44, true)), .val (.fieldAddr 0 (.tmp 7))⟩,
    ⟨(some 46), (some (44, true)), .val (.load 1 false (.tmp 45))⟩,
    ⟨(some 47), (some (44, true)), .val (.load 9 true (.tmp 2))⟩,
    ⟨(some 48), (some (44, true)), .call (.tmp 46) [(.tmp 47)]⟩,
    ⟨(some 49), none, .val (.pick (.tmp 44) (.tmp 48) (.const (.bool false)))⟩,
    ⟨(some 4), none, .val (.mv (.tmp 49))⟩] [37, 38, 39, 40, 41, 42, 43, 44, 45, 46, 47, 48, 49])
  .ret)))))⟩
theorem H.record_right : Has P F.record_right C.record_right := ⟨Try.f37, Try.func37, by kernel_rfl, by kernel_rfl⟩

/-- slices.Clone[[]podium/api.Decision,podium/api.Decision] -/
noncomputable def C.slices_Clone__LapiDecision_apiDecision : MFunc := ⟨8, 1, [.tmp 2],
  (.seq (.region [
    ⟨(some 2), none, .val (.mv (.const .nil))⟩] [])
  (.seq (.seq (.region [
    ⟨(some 3), none, .val (.mv (.tmp 0))⟩,
    ⟨(some 4), none, .eqNil false .slice (.tmp 3)⟩] [3])
  (.cond (.tmp 4)
  (.seq (.region [
    ⟨(some 2), none, .val (.mv (.const .nil))⟩] [])
  .ret)
  .skip))
  (.seq (.region [
    ⟨(some 5), none, .val (.buildSlice T.apiDecision 0 [] [])⟩,
    ⟨(some 6), none, .val (.mv (.tmp 0))⟩,
    ⟨(some 7), none, .append T.apiDecision 112 14 (.tmp 5) (.tmp 6)⟩,
    ⟨(some 2), none, .val (.mv (.tmp 7))⟩] [5, 6, 7])
  .ret)))⟩
theorem H.slices_Clone__LapiDecision_apiDecision : Has P F.slices_Clone__LapiDecision_apiDecision C.slices_Clone__LapiDecision_apiDecision := ⟨Try.f38, Try.func38, by kernel_rfl, by kernel_rfl⟩

/-- slices.SortStableFunc[[]podium/api.Decision,podium/api.Decision] -/
noncomputable def C.slices_SortStableFunc__LapiDecision_apiDecision : MFunc := ⟨9, 2, [],
  (.region [
    ⟨(some 4), none, .val (.mv (.tmp 0))⟩,
    ⟨(some 5), none, .val (.mv (.tmp 0))⟩,
    ⟨(some 6), none, .val (.len (.tmp 5))⟩,
    ⟨(some 7), none, .val (.mv (.tmp 1))⟩,
    ⟨(some 8), none, .call (.const (.func (.func F.slices_stableCmpFunc__apiDecision) [] [])) [(.tmp 4), (.tmp 6), (.tmp 7)]⟩] [4, 5, 6, 7, 8])⟩
theorem H.slices_SortStableFunc__LapiDecision_apiDecision : Has P F.slices_SortStableFunc__LapiDecision_apiDecision C.slices_SortStableFunc__LapiDecision_apiDecision := ⟨Try.f39, Try.func39, by kernel_rfl, by kernel_rfl⟩

/-- podium/appeals.by[podium/api.Decision]$1 -/
noncomputable def C.appeals_by__apiDecision_1 : MFunc := ⟨13, 3, [.tmp 5],
  (.seq (.region [
    ⟨(some 3), none, .box T.apiDecision (.tmp 0)⟩,
    ⟨(some 4), none, .box T.apiDecision (.tmp 1)⟩,
    ⟨(some 5), none, .val (.mv (.const (.int 0)))⟩] [])
  (.seq (.draw true [
    (.early, ⟨(some 6), none, .val (.load 1 false (.tmp 2))⟩),
    (.early, ⟨(some 7), none, .val (.load 14 true (.tmp 3))⟩),
    (.late, ⟨(some 9), none, .val (.load 1 false (.tmp 2))⟩),
    (.late, ⟨(some 10), none, .val (.load 14 true (.tmp 4))⟩),
    (.hard, ⟨(some 8), none, .call (.tmp 6) [(.tmp 7)]⟩),
    (.hard, ⟨(some 11), none, .call (.tmp 9) [(.tmp 10)]⟩),
    (.hard, ⟨(some 12), none, .call (.const (.func (.func F.cmp_Compare__int) [] [])) [(.tmp 8), (.tmp 11)]⟩),
    (.late, ⟨(some 5), none, .val (.mv (.tmp 12))⟩)] [6, 7, 8, 9, 10, 11, 12])
  .ret))⟩
theorem H.appeals_by__apiDecision_1 : Has P F.appeals_by__apiDecision_1 C.appeals_by__apiDecision_1 := ⟨Try.f40, Try.func40, by kernel_rfl, by kernel_rfl⟩

/-- cmp.Compare[int] -/
noncomputable def C.cmp_Compare__int : MFunc := ⟨20, 2, [.tmp 4],
  (.seq (.region [
    ⟨(some 4), none, .val (.mv (.const (.int 0)))⟩] [])
  (.seq (.region [
    ⟨(some 7), none, .val (.mv (.tmp 0))⟩,
    ⟨(some 8), none, .call (.const (.func (.func F.cmp_isNaN__int) [] [])) [(.tmp 7)]⟩,
    ⟨(some 5), none, .val (.mv (.tmp 8))⟩] [7, 8])
  (.seq (.region [
    ⟨(some 9), none, .val (.mv (.tmp 1))⟩,
    ⟨(some 10), none, .call (.const (.func (.func F.cmp_isNaN__int) [] [])) [(.tmp 9)]⟩,
    ⟨(some 6), none, .val (.mv (.tmp 10))⟩] [9, 10])
  (.seq (.seq (.region [
    ⟨(some 11), none, .val (.mv (.tmp 5))⟩] [])
  (.cond (.tmp 11)
  (.seq (.seq (.region [
    ⟨(some 12), none, .val (.mv (.tmp 6))⟩] [])
  (.cond (.tmp 12)
  (.seq (.region [
    ⟨(some 4), none, .val (.mv (.const (.int 0)))⟩] [])
  .ret)
  .skip))
  (.seq (.region [
    ⟨(some 4), none, .val (.mv (.const (.int (-1))))⟩] [])
  .ret))
  .skip))
  (.seq (.seq (.region [
    ⟨(some 13), none, .val (.mv (.tmp 6))⟩] [])
  (.cond (.tmp 13)
  (.seq (.region [
    ⟨(some 4), none, .val (.mv (.const (.int 1)))⟩] [])
  .ret)
  .skip))
  (.seq (.seq (.region [
    ⟨(some 14), none, .val (.mv (.tmp 0))⟩,
    ⟨(some 15), none, .val (.mv (.tmp 1))⟩,
    ⟨(some 16), none, .val (.bin .lss T.int (.tmp 14) (.tmp 15))⟩] [14, 15])
  (.cond (.tmp 16)
  (.seq (.region [
    ⟨(some 4), none, .val (.mv (.const (.int (-1))))⟩] [])
  .ret)
  .skip))
  (.seq (.seq (.region [
    ⟨(some 17), none, .val (.mv (.tmp 0))⟩,
    ⟨(some 18), none, .val (.mv (.tmp 1))⟩,
    ⟨(some 19), none, .val (.bin .gtr T.int (.tmp 17) (.tmp 18))⟩] [17, 18])
  (.cond (.tmp 19)
  (.seq (.region [
    ⟨(some 4), none, .val (.mv (.const (.int 1)))⟩] [])
  .ret)
  .skip))
  (.seq (.region [
    ⟨(some 4), none, .val (.mv (.const (.int 0)))⟩] [])
  .ret))))))))⟩
theorem H.cmp_Compare__int : Has P F.cmp_Compare__int C.cmp_Compare__int := ⟨Try.f41, Try.func41, by kernel_rfl, by kernel_rfl⟩

/-- slices.IndexFunc[[]podium/api.Decision,podium/api.Decision] -/
noncomputable def C.slices_IndexFunc__LapiDecision_apiDecision : MFunc := ⟨19, 2, [.tmp 4],
  (.seq (.region [
    ⟨(some 4), none, .val (.mv (.const (.int 0)))⟩] [])
  (.seq (.seq (.region [
    ⟨(some 6), none, .val (.mv (.tmp 0))⟩,
    ⟨(some 7), none, .val (.len (.tmp 6))⟩,
    ⟨(some 8), none, .val (.mv (.const (.int 0)))⟩] [6])
  (.block 0 (.loop (.seq (.region [
    ⟨(some 9), none, .val (.bin .lss T.int (.tmp 8) (.tmp 7))⟩] [])
  (.seq (.cond (.tmp 9)
  .skip
  (.exit 0))
  (.seq (.block 1 (.seq (.region [
    ⟨(some 10), none, .val (.mv (.tmp 8))⟩,
    ⟨(some 5), none, .val (.mv (.tmp 10))⟩] [10])
  (.seq (.region [
    ⟨(some 11), none, .val (.mv (.tmp 1))⟩,
    ⟨(some 12), none, .val (.mv (.tmp 0))⟩,
    ⟨(some 13), none, .val (.mv (.tmp 5))⟩,
    ⟨(some 14), none, .val (.indexAddr 14 (.tmp 12) (.tmp 13))⟩,
    ⟨(some 15), none, .val (.load 14 true (.tmp 14))⟩,
    ⟨(some 16), none, .call (.tmp 11) [(.tmp 15)]⟩] [11, 12, 13, 14, 15])
  (.cond (.tmp 16)
  (.seq (.region [
    ⟨(some 17), none, .val (.mv (.tmp 5))⟩,
    ⟨(some 4), none, .val (.mv (.tmp 17))⟩] [17])
  .ret)
  .skip))))
  (.region [
    ⟨(some 18), none, .val (.bin .add T.int (.tmp 8) (.const (.int 1)))⟩,
    ⟨(some 8), none, .val (.mv (.tmp 18))⟩] [18])))))))
  (.seq (.region [
    ⟨(some 4), none, .val (.mv (.const (.int (-1))))⟩] [])
  .ret)))⟩
theorem H.slices_IndexFunc__LapiDecision_apiDecision : Has P F.slices_IndexFunc__LapiDecision_apiDecision C.slices_IndexFunc__LapiDecision_apiDecision := ⟨Try.f42, Try.func42, by kernel_rfl, by kernel_rfl⟩

/-- podium/appeals.kinds$1 -/
noncomputable def C.appeals_kinds_1 : MFunc := ⟨10, 1, [.tmp 2],
  (.seq (.region [
    ⟨(some 1), none, .box T.apiDecision (.tmp 0)⟩,
    ⟨(some 2), none, .val (.mv (.const (.bool false)))⟩] [])
  (.seq (.region [
    ⟨(some 3), none, .val (.load 14 true (.tmp 1))⟩,
    ⟨(some 4), none, .call (.const (.func (.func F.appeals_target) [] [])) [(.tmp 3)]⟩,
    ⟨(some 5), none, .val (.mv (.tmp 4))⟩,
    ⟨(some 6), (some (5, true)), .val (.fieldAddr 4 (.tmp 1))⟩,
    ⟨(some 7), (some (5, true)), .val (.load 1 false (.tmp 6))⟩,
    ⟨(some 8), (some (5, true)), .val (.bin .eql T.int (.tmp 7) (.const (.int 0)))⟩,
    ⟨(some 9), none, .val (.pick (.tmp 5) (.tmp 8) (.const (.bool false)))⟩,
    ⟨(some 2), none, .val (.mv (.tmp 9))⟩] [3, 4, 5, 6, 7, 8, 9])
  .ret))⟩
theorem H.appeals_kinds_1 : Has P F.appeals_kinds_1 C.appeals_kinds_1 := ⟨Try.f43, Try.func43, by kernel_rfl, by kernel_rfl⟩

/-- podium/appeals.target -/
noncomputable def C.appeals_target : MFunc := ⟨17, 1, [.tmp 2],
  (.seq (.region [
    ⟨(some 1), none, .box T.apiDecision (.tmp 0)⟩,
    ⟨(some 2), none, .val (.mv (.const (.bool false)))⟩] [])
  (.seq (.region [
    ⟨(some 3), none, .val (.fieldAddr 3 (.tmp 1))⟩,
    ⟨(some 4), none, .val (.load 1 false (.tmp 3))⟩,
    ⟨(some 5), none, .val (.bin .geq T.int (.tmp 4) (.const (.int 0)))⟩,
    ⟨(some 6), none, .val (.mv (.tmp 5))⟩,
    ⟨(some 7), (some (6, true)), .val (.fieldAddr 3 (.tmp 1))⟩,
    ⟨(some 8), (some (6, true)), .val (.load 1 false (.tmp 7))⟩,
    ⟨(some 9), (some (6, true)), .val (.bin .leq T.int (.tmp 8) (.const (.int 1048576)))⟩,
    ⟨(some 10), none, .val (.pick (.tmp 6) (.tmp 9) (.const (.bool false)))⟩,
    ⟨(some 11), none, .val (.mv (.tmp 10))⟩,
    ⟨(some 12), (some (11, true)), .val (.fieldAddr 5 (.tmp 1))⟩,
    ⟨(some 13), (some (11, true)), .val (.load 9 true (.tmp 12))⟩,
    ⟨(some 14), (some (11, true)), .val (.build [(.int 0), (.int 0), (.int 0), (.int 0), (.int 0), (.int 0), (.int 0), (.int 0), (.int 0)] [])⟩,
    ⟨(some 15), (some (11, true)), .val (.eqAgg false [.int, .int, .int, .int, .int, .int, .int, .int, .int] (.tmp 13) (.tmp 14))⟩,
    ⟨(some 16), none, .val (.pick (.tmp 11) (.tmp 15) (.const (.bool false)))⟩,
    ⟨(some 2), none, .val (.mv (.tmp 16))⟩] [3, 4, 5, 6, 7, 8, 9, 10, 11, 12, 13, 14, 15, 16])
  .ret))⟩
theorem H.appeals_target : Has P F.appeals_target C.appeals_target := ⟨Try.f44, Try.func44, by kernel_rfl, by kernel_rfl⟩

/-- podium/appeals.kinds$2 -/
noncomputable def C.appeals_kinds_2 : MFunc := ⟨7, 2, [],
  (.seq (.region [
    ⟨(some 3), none, .box T.apiDecision (.tmp 1)⟩] [])
  (.region [
    ⟨(some 4), none, .val (.mv (.tmp 0))⟩,
    ⟨(some 5), none, .val (.fieldAddr 3 (.tmp 3))⟩,
    ⟨(some 6), none, .val (.load 1 false (.tmp 5))⟩,
    ⟨none, none, .delete (false, [.int]) (.tmp 4) (.tmp 6)⟩] [4, 5, 6]))⟩
theorem H.appeals_kinds_2 : Has P F.appeals_kinds_2 C.appeals_kinds_2 := ⟨Try.f45, Try.func45, by kernel_rfl, by kernel_rfl⟩

/-- podium/appeals.kinds$3 -/
noncomputable def C.appeals_kinds_3 : MFunc := ⟨15, 1, [.tmp 2],
  (.seq (.region [
    ⟨(some 1), none, .box T.apiDecision (.tmp 0)⟩,
    ⟨(some 2), none, .val (.mv (.const (.bool false)))⟩] [])
  (.seq (.region [
    ⟨(some 3), none, .val (.load 14 true (.tmp 1))⟩,
    ⟨(some 4), none, .call (.const (.func (.func F.appeals_target) [] [])) [(.tmp 3)]⟩,
    ⟨(some 5), none, .val (.mv (.tmp 4))⟩,
    ⟨(some 6), (some (5, true)), .val (.fieldAddr 4 (.tmp 1))⟩,
    ⟨(some 7), (some (5, true)), .val (.load 1 false (.tmp 6))⟩,
    ⟨(some 8), (some (5, true)), .val (.bin .geq T.int (.tmp 7) (.const (.int 0)))⟩,
    ⟨(some 9), none, .val (.pick (.tmp 5) (.tmp 8) (.const (.bool false)))⟩,
    ⟨(some 10), none, .val (.mv (.tmp 9))⟩,
    ⟨(some 11), (some (10, true)), .val (.fieldAddr 4 (.tmp 1))⟩,
    ⟨(some 12), (some (10, true)), .val (.load 1 false (.tmp 11))⟩,
    ⟨(some 13), (some (10, true)), .val (.bin .leq T.int (.tmp 12) (.const (.int 1000)))⟩,
    ⟨(some 14), none, .val (.pick (.tmp 10) (.tmp 13) (.const (.bool false)))⟩,
    ⟨(some 2), none, .val (.mv (.tmp 14))⟩] [3, 4, 5, 6, 7, 8, 9, 10, 11, 12, 13, 14])
  .ret))⟩
theorem H.appeals_kinds_3 : Has P F.appeals_kinds_3 C.appeals_kinds_3 := ⟨Try.f46, Try.func46, by kernel_rfl, by kernel_rfl⟩

/-- podium/appeals.kinds$4 -/
noncomputable def C.appeals_kinds_4 : MFunc := ⟨23, 2, [],
  (.seq (.region [
    ⟨(some 3), none, .box T.apiDecision (.tmp 1)⟩] [])
  (.seq (.region [
    ⟨(some 7), none, .val (.mv (.tmp 0))⟩,
    ⟨(some 8), none, .val (.fieldAddr 3 (.tmp 3))⟩,
    ⟨(some 9), none, .val (.load 1 false (.tmp 8))⟩,
    ⟨(some 10), none, .val (.lookup (false, [.int]) (.agg [(.int 0), (.int 0), (.int 0), (.int 0), (.int 0), (.int 0), (.int 0), (.int 0), (.int 0)]) true (.tmp 7) (.tmp 9))⟩,
    ⟨(some 6), none, .val (.mv (.tmp 10))⟩,
    ⟨(some 11), none, .val (.extract 0 (.tmp 6))⟩,
    ⟨(some 12), none, .val (.extract 1 (.tmp 6))⟩,
    ⟨(some 4), none, .alloc T.apiEvent [(.int 0), (.int 0), (.int 0), (.int 0), (.int 0), (.int 0), (.int 0), (.int 0), (.int 0)]⟩,
    ⟨none, none, .store 9 (.tmp 4) (.tmp 11)⟩,
    ⟨(some 5), none, .val (.mv (.tmp 12))⟩] [7, 8, 9, 10, 6, 11, 12])
  (.seq (.region [
    ⟨(some 13), none, .val (.mv (.tmp 5))⟩] [])
  (.cond (.tmp 13)
  (.seq (.region [
    ⟨(some 14), none, .val (.fieldAddr 4 (.tmp 3))⟩,
    ⟨(some 15), none, .val (.load 1 false (.tmp 14))⟩,
    ⟨(some 16), none, .val (.fieldAddr 6 (.tmp 4))⟩,
    ⟨none, none, .store 1 (.tmp 16) (.tmp 15)⟩] [14, 15, 16])
  (.seq (.region [
    ⟨(some 17), none, .val (.load 9 true (.tmp 4))⟩,
    ⟨(some 18), none, .call (.const (.func (.func F.appeals_valid) [] [])) [(.tmp 17)]⟩] [17])
  (.cond (.tmp 18)
  (.region [
    ⟨(some 19), none, .val (.mv (.tmp 0))⟩,
    ⟨(some 20), none, .val (.fieldAddr 3 (.tmp 3))⟩,
    ⟨(some 21), none, .val (.load 1 false (.tmp 20))⟩,
    ⟨(some 22), none, .val (.load 9 true (.tmp 4))⟩,
    ⟨none, none, .mapSet (false, [.int]) (.tmp 19) (.tmp 21) (.tmp 22)⟩] [19, 20, 21, 22])
  .skip)))
  .skip))))⟩
theorem H.appeals_kinds_4 : Has P F.appeals_kinds_4 C.appeals_kinds_4 := ⟨Try.f47, Try.func47, by kernel_rfl, by kernel_rfl⟩

/-- podium/appeals.valid -/
noncomputable def C.appeals_valid : MFunc := ⟨7, 1, [.tmp 2],
  (.seq (.region [
    ⟨(some 1), none, .box T.apiEvent (.tmp 0)⟩,
    ⟨(some 2), none, .val (.mv (.const (.bool false)))⟩] [])
  (.seq (.region [
    ⟨(some 3), none, .val (.load 9 true (.tmp 1))⟩,
    ⟨(some 4), none, .val (.buildSlice T.apiEvent 1 [(.int 0), (.int 0), (.int 0), (.int 0), (.int 0), (.int 0), (.int 0), (.int 0), (.int 0)] [(0, 9, (.tmp 3))])⟩,
    ⟨(some 5), none, .call (.const (.func (.func F.record_Check) [] [])) [(.tmp 4)]⟩,
    ⟨(some 6), none, .val (.bin .eql T.apiErrno (.tmp 5) (.const (.int 0)))⟩,
    ⟨(some 2), none, .val (.mv (.tmp 6))⟩] [3, 4, 5, 6])
  .ret))⟩
theorem H.appeals_valid : Has P F.appeals_valid C.appeals_valid := ⟨Try.f48, Try.func48, by kernel_rfl, by kernel_rfl⟩

/-- podium/appeals.kinds$5 -/
noncomputable def C.appeals_kinds_5 : MFunc := ⟨16, 1, [.tmp 2],
  (.seq (.region [
    ⟨(some 1), none, .box T.apiDecision (.tmp 0)⟩,
    ⟨(some 2), none, .val (.mv (.const (.bool false)))⟩] [])
  (.seq (.region [
    ⟨(some 3), none, .val (.fieldAddr 3 (.tmp 1))⟩,
    ⟨(some 4), none, .val (.load 1 false (.tmp 3))⟩,
    ⟨(some 5), none, .val (.bin .eql T.int (.tmp 4) (.const (.int 0)))⟩,
    ⟨(some 6), none, .val (.mv (.tmp 5))⟩,
    ⟨(some 7), (some (6, true)), .val (.fieldAddr 4 (.tmp 1))⟩,
    ⟨(some 8), (some (6, true)), .val (.load 1 false (.tmp 7))⟩,
    ⟨(some 9), (some (6, true)), .val (.bin .eql T.int (.tmp 8) (.const (.int 0)))⟩,
    ⟨(some 10), none, .val (.pick (.tmp 6) (.tmp 9) (.const (.bool false)))⟩,
    ⟨(some 11), none, .val (.mv (.tmp 10))⟩,
    ⟨(some 12), (some (11, true)), .val (.fieldAddr 5 (.tmp 1))⟩,
    ⟨(some 13), (some (11, true)), .val (.load 9 true (.tmp 12))⟩,
    ⟨(some 14), (some (11, true)), .call (.const (.func (.func F.appeals_valid) [] [])) [(.tmp 13)]⟩,
    ⟨(some 15), none, .val (.pick (.tmp 11) (.tmp 14) (.const (.bool false)))⟩,
    ⟨(some 2), none, .val (.mv (.tmp 15))⟩] [3, 4, 5, 6, 7, 8, 9, 10, 11, 12, 13, 14, 15])
  .ret))⟩
theorem H.appeals_kinds_5 : Has P F.appeals_kinds_5 C.appeals_kinds_5 := ⟨Try.f49, Try.func49, by kernel_rfl, by kernel_rfl⟩

/-- podium/appeals.kinds$6 -/
noncomputable def C.appeals_kinds_6 : MFunc := ⟨22, 2, [],
  (.seq (.region [
    ⟨(some 3), none, .box T.apiDecision (.tmp 1)⟩] [])
  (.seq (.region [
    ⟨(some 7), none, .val (.mv (.tmp 0))⟩,
    ⟨(some 8), none, .val (.fieldAddr 5 (.tmp 3))⟩,
    ⟨(some 9), none, .val (.fieldAddr 0 (.tmp 8))⟩,
    ⟨(some 10), none, .val (.load 1 false (.tmp 9))⟩,
    ⟨(some 11), none, .val (.lookup (false, [.int]) (.agg [(.int 0), (.int 0), (.int 0), (.int 0), (.int 0), (.int 0), (.int 0), (.int 0), (.int 0)]) true (.tmp 7) (.tmp 10))⟩,
    ⟨(some 6), none, .val (.mv (.tmp 11))⟩,
    ⟨(some 12), none, .val (.extract 0 (.tmp 6))⟩,
    ⟨(some 13), none, .val (.extract 1 (.tmp 6))⟩,
    ⟨(some 4), none, .alloc T.apiEvent [(.int 0), (.int 0), (.int 0), (.int 0), (.int 0), (.int 0), (.int 0), (.int 0), (.int 0)]⟩,
    ⟨none, none, .store 9 (.tmp 4) (.tmp 12)⟩,
    ⟨(some 5), none, .val (.mv (.tmp 13))⟩] [7, 8, 9, 10, 11, 6, 12, 13, 4])
  (.seq (.region [
    ⟨(some 14), none, .val (.mv (.tmp 5))⟩,
    ⟨(some 15), none, .val (.un .not (.tmp 14))⟩] [14])
  (.cond (.tmp 15)
  (.region [
    ⟨(some 16), none, .val (.mv (.tmp 0))⟩,
    ⟨(some 17), none, .val (.fieldAddr 5 (.tmp 3))⟩,
    ⟨(some 18), none, .val (.fieldAddr 0 (.tmp 17))⟩,
    ⟨(some 19), none, .val (.load 1 false (.tmp 18))⟩,
    ⟨(some 20), none, .val (.fieldAddr 5 (.tmp 3))⟩,
    ⟨(some 21), none, .val (.load 9 true (.tmp 20))⟩,
    ⟨none, none, .mapSet (false, [.int]) (.tmp 16) (.tmp 19) (.tmp 21)⟩] [16, 17, 18, 19, 20, 21])
  .skip))))⟩
theorem H.appeals_kinds_6 : Has P F.appeals_kinds_6 C.appeals_kinds_6 := ⟨Try.f50, Try.func50, by kernel_rfl, by kernel_rfl⟩

/-- podium/podiumref51.event -/
noncomputable def C.podiumref51_event : MFunc := ⟨7, 1, [.tmp 2],
  (.seq (.region [
    ⟨(some 1), none, .box T.apiEvent (.tmp 0)⟩,
    ⟨(some 2), none, .val (.mv (.const (.bool false)))⟩] [])
  (.seq (.region [
    ⟨(some 3), none, .val (.load 9 true (.tmp 1))⟩,
    ⟨(some 4), none, .val (.buildSlice T.apiEvent 1 [(.int 0), (.int 0), (.int 0), (.int 0), (.int 0), (.int 0), (.int 0), (.int 0), (.int 0)] [(0, 9, (.tmp 3))])⟩,
    ⟨(some 5), none, .call (.const (.func (.func F.podiumref49_Check) [] [])) [(.tmp 4)]⟩,
    ⟨(some 6), none, .val (.bin .eql T.apiErrno (.tmp 5) (.const (.int 0)))⟩,
    ⟨(some 2), none, .val (.mv (.tmp 6))⟩] [3, 4, 5, 6])
  .ret))⟩
theorem H.podiumref51_event : Has P F.podiumref51_event C.podiumref51_event := ⟨Try.f51, Try.func51, by kernel_rfl, by kernel_rfl⟩

/-- slices.Clone[[]podium/api.Event,podium/api.Event] -/
noncomputable def C.slices_Clone__LapiEvent_apiEvent : MFunc := ⟨8, 1, [.tmp 2],
  (.seq (.region [
    ⟨(some 2), none, .val (.mv (.const .nil))⟩] [])
  (.seq (.seq (.region [
    ⟨(some 3), none, .val (.mv (.tmp 0))⟩,
    ⟨(some 4), none, .eqNil false .slice (.tmp 3)⟩] [3])
  (.cond (.tmp 4)
  (.seq (.region [
    ⟨(some 2), none, .val (.mv (.const .nil))⟩] [])
  .ret)
  .skip))
  (.seq (.region [
    ⟨(some 5), none, .val (.buildSlice T.apiEvent 0 [] [])⟩,
    ⟨(some 6), none, .val (.mv (.tmp 0))⟩,
    ⟨(some 7), none, .append T.apiEvent 72 9 (.tmp 5) (.tmp 6)⟩,
    ⟨(some 2), none, .val (.mv (.tmp 7))⟩] [5, 6, 7])
  .ret)))⟩
theorem H.slices_Clone__LapiEvent_apiEvent : Has P F.slices_Clone__LapiEvent_apiEvent C.slices_Clone__LapiEvent_apiEvent := ⟨Try.f52, Try.func52, by kernel_rfl, by kernel_rfl⟩

/-- slices.SortStableFunc[[]podium/api.Event,podium/api.Event] -/
noncomputable def C.slices_SortStableFunc__LapiEvent_apiEvent : MFunc := ⟨9, 2, [],
  (.region [
    ⟨(some 4), none, .val (.mv (.tmp 0))⟩,
    ⟨(some 5), none, .val (.mv (.tmp 0))⟩,
    ⟨(some 6), none, .val (.len (.tmp 5))⟩,
    ⟨(some 7), none, .val (.mv (.tmp 1))⟩,
    ⟨(some 8), none, .call (.const (.func (.func F.slices_stableCmpFunc__apiEvent) [] [])) [(.tmp 4), (.tmp 6), (.tmp 7)]⟩] [4, 5, 6, 7, 8])⟩
theorem H.slices_SortStableFunc__LapiEvent_apiEvent : Has P F.slices_SortStableFunc__LapiEvent_apiEvent C.slices_SortStableFunc__LapiEvent_apiEvent := ⟨Try.f53, Try.func53, by kernel_rfl, by kernel_rfl⟩

/-- podium/appeals.by[podium/api.Event]$1 -/
noncomputable def C.appeals_by__apiEvent_1 : MFunc := ⟨13, 3, [.tmp 5],
  (.seq (.region [
    ⟨(some 3), none, .box T.apiEvent (.tmp 0)⟩,
    ⟨(some 4), none, .box T.apiEvent (.tmp 1)⟩,
    ⟨(some 5), none, .val (.mv (.const (.int 0)))⟩] [])
  (.seq (.draw true [
    (.early, ⟨(some 6), none, .val (.load 1 false (.tmp 2))⟩),
    (.early, ⟨(some 7), none, .val (.load 9 true (.tmp 3))⟩),
    (.late, ⟨(some 9), none, .val (.load 1 false (.tmp 2))⟩),
    (.late, ⟨(some 10), none, .val (.load 9 true (.tmp 4))⟩),
    (.hard, ⟨(some 8), none, .call (.tmp 6) [(.tmp 7)]⟩),
    (.hard, ⟨(some 11), none, .call (.tmp 9) [(.tmp 10)]⟩),
    (.hard, ⟨(some 12), none, .call (.const (.func (.func F.cmp_Compare__int) [] [])) [(.tmp 8), (.tmp 11)]⟩),
    (.late, ⟨(some 5), none, .val (.mv (.tmp 12))⟩)] [6, 7, 8, 9, 10, 11, 12])
  .ret))⟩
theorem H.appeals_by__apiEvent_1 : Has P F.appeals_by__apiEvent_1 C.appeals_by__apiEvent_1 := ⟨Try.f54, Try.func54, by kernel_rfl, by kernel_rfl⟩

/-- slices.AppendSeq[[]podium/api.Event,podium/api.Event] -/
noncomputable def C.slices_AppendSeq__LapiEvent_apiEvent : MFunc := ⟨13, 2, [.tmp 4],
  (.seq (.region [
    ⟨(some 2), none, .box T.LapiEvent (.tmp 0)⟩,
    ⟨(some 4), none, .val (.mv (.const .nil))⟩] [])
  (.seq (.seq (.region [
    ⟨(some 6), none, .val (.mv (.tmp 1))⟩] [])
  (.block 0 (.rangeFunc (.tmp 6) [7] (.region [
    ⟨(some 5), none, .alloc T.apiEvent [(.int 0), (.int 0), (.int 0), (.int 0), (.int 0), (.int 0), (.int 0), (.int 0), (.int 0)]⟩,
    ⟨none, none, .store 9 (.tmp 5) (.tmp 7)⟩] [])
  (.block 1 (.region [
    ⟨(some 8), none, .val (.load 1 false (.tmp 2))⟩,
    ⟨(some 9), none, .val (.load 9 true (.tmp 5))⟩,
    ⟨(some 10), none, .val (.buildSlice T.apiEvent 1 [(.int 0), (.int 0), (.int 0), (.int 0), (.int 0), (.int 0), (.int 0), (.int 0), (.int 0)] [(0, 9, (.tmp 9))])⟩,
    ⟨(some 11), none, .append T.apiEvent 72 9 (.tmp 8) (.tmp 10)⟩,
    ⟨none, none, .store 1 (.tmp 2) (.tmp 11)⟩] [8, 9, 10, 11])))))
  (.seq (.region [
    ⟨(some 12), none, .val (.load 1 false (.tmp 2))⟩,
    ⟨(some 4), none, .val (.mv (.tmp 12))⟩] [12])
  .ret)))⟩
theorem H.slices_AppendSeq__LapiEvent_apiEvent : Has P F.slices_AppendSeq__LapiEvent_apiEvent C.slices_AppendSeq__LapiEvent_apiEvent := ⟨Try.f55, Try.func55, by kernel_rfl, by kernel_rfl⟩

/-- maps.Values[podium/appeals.events,int,podium/api.Event]$1 -/
noncomputable def C.maps_Values__appealsevents_int_apiEvent_1 : MFunc := ⟨15, 2, [],
  (.seq (.region [
    ⟨(some 5), none, .val (.load 1 false (.tmp 1))⟩,
    ⟨(some 6), none, .rangeMap (.tmp 5)⟩] [5])
  (.block 0 (.loop (.seq (.region [
    ⟨(some 7), none, .next (.tmp 6)⟩,
    ⟨(some 8), none, .val (.extract 0 (.tmp 7))⟩] [7])
  (.seq (.cond (.tmp 8)
  .skip
  (.exit 0))
  (.block 1 (.seq (.region [
    ⟨(some 9), none, .entry (.tmp 6)⟩,
    ⟨(some 10), none, .val (.extract 1 (.tmp 9))⟩,
    ⟨(some 4), none, .alloc T.apiEvent [(.int 0), (.int 0), (.int 0), (.int 0), (.int 0), (.int 0), (.int 0), (.int 0), (.int 0)]⟩,
    ⟨none, none, .store 9 (.tmp 4) (.tmp 10)⟩] [9, 10])
  (.seq (.region [
    ⟨(some 11), none, .val (.mv (.tmp 0))⟩,
    ⟨(some 12), none, .val (.load 9 true (.tmp 4))⟩,
    ⟨(some 13), none, .call (.tmp 11) [(.tmp 12)]⟩,
    ⟨(some 14), none, .val (.un .not (.tmp 13))⟩] [11, 12, 13])
  (.cond (.tmp 14)
  .ret
  .skip)))))))))⟩
theorem H.maps_Values__appealsevents_int_apiEvent_1 : Has P F.maps_Values__appealsevents_int_apiEvent_1 C.maps_Values__appealsevents_int_apiEvent_1 := ⟨Try.f56, Try.func56, by kernel_rfl, by kernel_rfl⟩

/-- podium/podiumref49.Right -/
noncomputable def C.podiumref49_Right : MFunc := ⟨79, 1, [.tmp 2],
  (.seq (.region [
    ⟨(some 1), none, .box T.apiEvent (.tmp 0)⟩,
    ⟨(some 2), none, .val (.mv (.const (.bool false)))⟩] [])
  (.seq (.seq (.region [
    ⟨(some 3), none, .val (.fieldAddr 0 (.tmp 1))⟩,
    ⟨(some 4), none, .val (.load 1 false (.tmp 3))⟩,
    ⟨(some 5), none, .call (.const (.func (.func F.podiumref49_in) [] [])) [(.tmp 4), (.const (.int 0)), (.const (.int 1048576))]⟩,
    ⟨(some 6), none, .val (.un .not (.tmp 5))⟩,
    ⟨(some 7), none, .val (.mv (.tmp 6))⟩,
    ⟨(some 8), (some (7, false)), .val (.fieldAddr 2 (.tmp 1))⟩,
    ⟨(some 9), (some (7, false)), .val (.load 1 false (.tmp 8))⟩,
    ⟨(some 10), (some (7, false)), .call (.const (.func (.func F.podiumref49_in) [] [])) [(.tmp 9), (.const (.int 0)), (.const (.int 7))]⟩,
    ⟨(some 11), (some (7, false)), .val (.un .not (.tmp 10))⟩,
    ⟨(some 12), none, .val (.pick (.tmp 7) (.const (.bool true)) (.tmp 11))⟩,
    ⟨(some 13), none, .val (.mv (.tmp 12))⟩,
    ⟨(some 14), (some (13, false)), .val (.fieldAddr 3 (.tmp 1))⟩,
    ⟨(some 15), (some (13, false)), .val (.load 1 false (.tmp 14))⟩,
    ⟨(some 16), (some (13, false)), .call (.const (.func (.func F.podiumref49_in) [] [])) [(.tmp 15), (.const (.int 0)), (.const (.int 4095))]⟩,
    ⟨(some 17), (some (13, false)), .val (.un .not (.tmp 16))⟩,
    ⟨(some 18), none, .val (.pick (.tmp 13) (.const (.bool true)) (.tmp 17))⟩,
    ⟨(some 19), none, .val (.mv (.tmp 18))⟩,
    ⟨(some 20), (some (19, false)), .val (.fieldAddr 7 (.tmp 1))⟩,
    ⟨(some 21), (some (19, false)), .val (.load 1 false (.tmp 20))⟩,
    ⟨(some 22), (some (19, false)), .call (.const (.func (.func F.podiumref49_in) [] [])) [(.tmp 21), (.const (.int 0)), (.const (.int 2097151))]⟩,
    ⟨(some 23), (some (19, false)), .val (.un .not (.tmp 22))⟩,
    ⟨(some 24), none, .val (.pick (.tmp 19) (.const (.bool true)) (.tmp 23))⟩,
    ⟨(some 25), none, .val (.mv (.tmp 24))⟩,
    ⟨(some 26), (some (25, false)), .val (.fieldAddr 8 (.tmp 1))⟩,
    ⟨(some 27), (some (25, false)), .val (.load 1 false (.tmp 26))⟩,
    ⟨(some 28), (some (25, false)), .call (.const (.func (.func F.podiumref49_in) [] [])) [(.tmp 27), (.const (.int 0)), (.const (.int 2097151))]⟩,
    ⟨(some 29), (some (25, false)), .val (.un .not (.tmp 28))⟩,
    ⟨(some 30), none, .val (.pick (.tmp 25) (.const (.bool true)) (.tmp 29))⟩] [3, 4, 5, 6, 7, 8, 9, 10, 11, 12, 13, 14, 15, 16, 17, 18, 19, 20, 21, 22, 23, 24, 25, 26, 27, 28, 29])
  (.cond (.tmp 30)
  (.seq (.region [
    ⟨(some 2), none, .val (.mv (.const (.bool false)))⟩] [])
  .ret)
  .skip))
  (.seq (.seq (.region [
    ⟨(some 31), none, .val (.fieldAddr 1 (.tmp 1))⟩,
    ⟨(some 32), none, .val (.load 1 false (.tmp 31))⟩] [31])
  (.block 0 (.seq (.region [
    ⟨(some 34), none, .val (.bin .eql T.int (.tmp 32) (.const (.int 1)))⟩,
    ⟨(some 33), none, .val (.mv (.tmp 34))⟩] [34])
  (.cond (.tmp 33)
  (.seq (.region [
    ⟨(some 35), none, .val (.fieldAddr 4 (.tmp 1))⟩,
    ⟨(some 36), none, .val (.load 1 false (.tmp 35))⟩,
    ⟨(some 37), none, .call (.const (.func (.func F.podiumref49_in) [] [])) [(.tmp 36), (.const (.int 0)), (.const (.int 255))]⟩,
    ⟨(some 38), none, .val (.mv (.tmp 37))⟩,
    ⟨(some 39), (some (38, true)), .val (.fieldAddr 5 (.tmp 1))⟩,
    ⟨(some 40), (some (38, true)), .val (.load 1 false (.tmp 39))⟩,
    ⟨(some 41), (some (38, true)), .call (.const (.func (.func F.podiumref49_in) [] [])) [(.tmp 40), (.const (.int 0)), (.const (.int 63))]⟩,
    ⟨(some 42), none, .val (.pick (.tmp 38) (.tmp 41) (.const (.bool false)))⟩,
    ⟨(some 43), none, .val (.mv (.tmp 42))⟩,
    ⟨(some 44), (some (43, true)), .val (.fieldAddr 6 (.tmp 1))⟩,
    ⟨(some 45), (some (43, true)), .val (.load 1 false (.tmp 44))⟩,
    ⟨(some 46), (some (43, true)), .call (.const (.func (.func F.podiumref49_in) [] [])) [(.tmp 45), (.const (.int 0)), (.const (.int 1000))]⟩,
    ⟨(some 47), none, .val (.pick (.tmp 43) (.tmp 46) (.const (.bool false)))⟩,
    ⟨(some 2), none, .val (.mv (.tmp 47))⟩] [35, 36, 37, 38, 39, 40, 41, 42, 43, 44, 45, 46, 47])
  .ret)
  (.seq (.seq (.region [
    ⟨(some 49), none, .val (.bin .eql T.int (.tmp 32) (.const (.int 2)))⟩,
    ⟨(some 48), none, .val (.mv (.tmp 49))⟩] [49])
  (.cond (.tmp 48)
  .skip
  (.region [
    ⟨(some 50), none, .val (.bin .eql T.int (.tmp 32) (.const (.int 3)))⟩,
    ⟨(some 48), none, .val (.mv (.tmp 50))⟩] [50])))
  (.cond (.tmp 48)
  (.seq (.region [
    ⟨(some 51), none, .val (.fieldAddr 4 (.tmp 1))⟩,
    ⟨(some 52), none, .val (.load 1 false (.tmp 51))⟩,
    ⟨(some 53), none, .val (.bin .eql T.int (.tmp 52) (.const (.int 0)))⟩,
    ⟨(some 54), none, .val (.mv (.tmp 53))⟩,
    ⟨(some 55), (some (54, true)), .val (.fieldAddr 5 (.tmp 1))⟩,
    ⟨(some 56), (some (54, true)), .val (.load 1 false (.tmp 55))⟩,
    ⟨(some 57), (some (54, true)), .call (.const (.func (.func F.podiumref49_in) [] [])) [(.tmp 56), (.const (.int 0)), (.const (.int 63))]⟩,
    ⟨(some 58), none, .val (.pick (.tmp 54) (.tmp 57) (.const (.bool false)))⟩,
    ⟨(some 59), none, .val (.mv (.tmp 58))⟩,
    ⟨(some 60), (some (59, true)), .val (.fieldAddr 6 (.tmp 1))⟩,
    ⟨(some 61), (some (59, true)), .val (.load 1 false (.tmp 60))⟩,
    ⟨(some 62), (some (59, true)), .call (.const (.func (.func F.podiumref49_in) [] [])) [(.tmp 61), (.const (.int 0)), (.const (.int 1000))]⟩,
    ⟨(some 63), none, .val (.pick (.tmp 59) (.tmp 62) (.const (.bool false)))⟩,
    ⟨(some 2), none, .val (.mv (.tmp 63))⟩] [51, 52, 53, 54, 55, 56, 57, 58, 59, 60, 61, 62, 63])
  .ret)
  (.seq (.region [
    ⟨(some 65), none, .val (.bin .eql T.int (.tmp 32) (.const (.int 4)))⟩,
    ⟨(some 64), none, .val (.mv (.tmp 65))⟩] [65])
  (.cond (.tmp 64)
  (.seq (.region [
    ⟨(some 66), none, .val (.fieldAddr 4 (.tmp 1))⟩,
    ⟨(some 67), none, .val (.load 1 false (.tmp 66))⟩,
    ⟨(some 68), none, .val (.bin .eql T.int (.tmp 67) (.const (.int 0)))⟩,
    ⟨(some 69), none, .val (.mv (.tmp 68))⟩,
    ⟨(some 70), (some (69, true)), .val (.fieldAddr 5 (.tmp 1))⟩,
    ⟨(some 71), (some (69, true)), .val (.load 1 false (.tmp 70))⟩,
    ⟨(some 72), (some (69, true)), .val (.bin .eql T.int (.tmp 71) (.const (.int 0)))⟩,
    ⟨(some 73), none, .val (.pick (.tmp 69) (.tmp 72) (.const (.bool false)))⟩,
    ⟨(some 74), none, .val (.mv (.tmp 73))⟩,
    ⟨(some 75), (some (74, true)), .val (.fieldAddr 6 (.tmp 1))⟩,
    ⟨(some 76), (some (74, true)), .val (.load 1 false (.tmp 75))⟩,
    ⟨(some 77), (some (74, true)), .call (.const (.func (.func F.podiumref49_in) [] [])) [(.tmp 76), (.const (.int 0)), (.const (.int 1))]⟩,
    ⟨(some 78), none, .val (.pick (.tmp 74) (.tmp 77) (.const (.bool false)))⟩,
    ⟨(some 2), none, .val (.mv (.tmp 78))⟩] [66, 67, 68, 69, 70, 71, 72, 73, 74, 75, 76, 77, 78])
  .ret)
  .skip))))))))
  (.seq (.region [
    ⟨(some 2), none, .val (.mv (.const (.bool false)))⟩] [])
  .ret))))⟩
theorem H.podiumref49_Right : Has P F.podiumref49_Right C.podiumref49_Right := ⟨Try.f57, Try.func57, by kernel_rfl, by kernel_rfl⟩

/-- podium/podiumref51.Find -/
noncomputable def C.podiumref51_Find : MFunc := ⟨20, 2, [.tmp 4],
  (.seq (.region [
    ⟨(some 4), none, .val (.mv (.const (.int 0)))⟩] [])
  (.seq (.seq (.region [
    ⟨(some 5), none, .val (.mv (.const (.int 0)))⟩] [])
  (.block 0 (.loop (.seq (.seq (.region [
    ⟨(some 6), none, .val (.mv (.tmp 5))⟩,
    ⟨(some 7), none, .val (.mv (.tmp 0))⟩,
    ⟨(some 8), none, .val (.len (.tmp 7))⟩,
    ⟨(some 9), none, .val (.bin .lss T.int (.tmp 6) (.tmp 8))⟩] [6, 7, 8])
  (.cond (.tmp 9)
  .skip
  (.exit 0)))
  (.seq (.block 1 (.seq (.region [
    ⟨(some 12), none, .val (.mv (.tmp 0))⟩,
    ⟨(some 13), none, .val (.mv (.tmp 5))⟩,
    ⟨(some 14), none, .val (.indexAddr 9 (.tmp 12) (.tmp 13))⟩,
    ⟨(some 15), none, .val (.fieldAddr 0 (.tmp 14))⟩,
    ⟨(some 16), none, .val (.load 1 false (.tmp 15))⟩,
    ⟨(some 17), none, .val (.mv (.tmp 1))⟩,
    ⟨(some 18), none, .val (.bin .eql T.int (.tmp 16) (.tmp 17))⟩] [12, 13, 14, 15, 16, 17])
  (.cond (.tmp 18)
  (.seq (.region [
    ⟨(some 19), none, .val (.mv (.tmp 5))⟩,
    ⟨(some 4), none, .val (.mv (.tmp 19))⟩] [19])
  .ret)
  .skip)))
  (.region [
    ⟨(some 10), none, .val (.mv (.tmp 5))⟩,
    ⟨(some 11), none, .val (.bin .add T.int (.tmp 10) (.const (.int 1)))⟩,
    ⟨(some 5), none, .val (.mv (.tmp 11))⟩] [10, 11]))))))
  (.seq (.region [
    ⟨(some 4), none, .val (.mv (.const (.int (-1))))⟩] [])
  .ret)))⟩
theorem H.podiumref51_Find : Has P F.podiumref51_Find C.podiumref51_Find := ⟨Try.f58, Try.func58, by kernel_rfl, by kernel_rfl⟩

/-- podium/record.kinds$1 -/
noncomputable def C.record_kinds_1 : MFunc := ⟨11, 1, [.tmp 2],
  (.seq (.region [
    ⟨(some 1), none, .box T.apiEvent (.tmp 0)⟩,
    ⟨(some 2), none, .val (.mv (.const (.bool false)))⟩] [])
  (.seq (.region [
    ⟨(some 3), none, .val (.fieldAddr 5 (.tmp 1))⟩,
    ⟨(some 4), none, .val (.load 1 false (.tmp 3))⟩,
    ⟨(some 5), none, .call (.const (.func (.func F.record_between) [] [])) [(.tmp 4), (.const (.int 0)), (.const (.int 63))]⟩,
    ⟨(some 6), none, .val (.mv (.tmp 5))⟩,
    ⟨(some 7), (some (6, true)), .val (.fieldAddr 6 (.tmp 1))⟩,
    ⟨(some 8), (some (6, true)), .val (.load 1 false (.tmp 7))⟩,
    ⟨(some 9), (some (6, true)), .call (.const (.func (.func F.record_between) [] [])) [(.tmp 8), (.const (.int 0)), (.const (.int 1000))]⟩,
    ⟨(some 10), none, .val (.pick (.tmp 6) (.tmp 9) (.const (.bool false)))⟩,
    ⟨(some 2), none, .val (.mv (.tmp 10))⟩] [3, 4, 5, 6, 7, 8, 9, 10])
  .ret))⟩
theorem H.record_kinds_1 : Has P F.record_kinds_1 C.record_kinds_1 := ⟨Try.f59, Try.func59, by kernel_rfl, by kernel_rfl⟩

/-- podium/record.between -/
noncomputable def C.record_between : MFunc := ⟨15, 3, [.tmp 6],
  (.seq (.region [
    ⟨(some 6), none, .val (.mv (.const (.bool false)))⟩] [])
  (.seq (.region [
    ⟨(some 7), none, .val (.mv (.tmp 0))⟩,
    ⟨(some 8), none, .val (.mv (.tmp 1))⟩,
    ⟨(some 9), none, .val (.bin .geq T.int (.tmp 7) (.tmp 8))⟩,
    ⟨(some 10), none, .val (.mv (.tmp 9))⟩,
    ⟨(some 11), (some (10, true)), .val (.mv (.tmp 0))⟩,
    ⟨(some 12), (some (10, true)), .val (.mv (.tmp 2))⟩,
    ⟨(some 13), (some (10, true)), .val (.bin .leq T.int (.tmp 11) (.tmp 12))⟩,
    ⟨(some 14), none, .val (.pick (.tmp 10) (.tmp 13) (.const (.bool false)))⟩,
    ⟨(some 6), none, .val (.mv (.tmp 14))⟩] [7, 8, 9, 10, 11, 12, 13, 14])
  .ret))⟩
theorem H.record_between : Has P F.record_between C.record_between := ⟨Try.f60, Try.func60, by kernel_rfl, by kernel_rfl⟩

/-- podium/record.kinds$2 -/
noncomputable def C.record_kinds_2 : MFunc := ⟨12, 2, [.tmp 3],
  (.seq (.region [
    ⟨(some 2), none, .box T.apiEvent (.tmp 0)⟩,
    ⟨(some 3), none, .val (.mv (.const (.bool false)))⟩] [])
  (.seq (.region [
    ⟨(some 4), none, .val (.fieldAddr 4 (.tmp 2))⟩,
    ⟨(some 5), none, .val (.load 1 false (.tmp 4))⟩,
    ⟨(some 6), none, .val (.bin .eql T.int (.tmp 5) (.const (.int 0)))⟩,
    ⟨(some 7), none, .val (.mv (.tmp 6))⟩,
    ⟨(some 8), (some (7, true)), .val (.load 1 false (.tmp 1))⟩,
    ⟨(some 9), (some (7, true)), .val (.load 9 true (.tmp 2))⟩,
    ⟨(some 10), (some (7, true)), .call (.tmp 8) [(.tmp 9)]⟩,
    ⟨(some 11), none, .val (.pick (.tmp 7) (.tmp 10) (.const (.bool false)))⟩,
    ⟨(some 3), none, .val (.mv (.tmp 11))⟩] [4, 5, 6, 7, 8, 9, 10, 11])
  .ret))⟩
theorem H.record_kinds_2 : Has P F.record_kinds_2 C.record_kinds_2 := ⟨Try.f61, Try.func61, by kernel_rfl, by kernel_rfl⟩

/-- podium/record.kinds$3 -/
noncomputable def C.record_kinds_3 : MFunc := ⟨12, 2, [.tmp 3],
  (.seq (.region [
    ⟨(some 2), none, .box T.apiEvent (.tmp 0)⟩,
    ⟨(some 3), none, .val (.mv (.const (.bool false)))⟩] [])
  (.seq (.region [
    ⟨(some 4), none, .val (.fieldAddr 4 (.tmp 2))⟩,
    ⟨(some 5), none, .val (.load 1 false (.tmp 4))⟩,
    ⟨(some 6), none, .call (.const (.func (.func F.record_between) [] [])) [(.tmp 5), (.const (.int 0)), (.const (.int 255))]⟩,
    ⟨(some 7), none, .val (.mv (.tmp 6))⟩,
    ⟨(some 8), (some (7, true)), .val (.load 1 false (.tmp 1))⟩,
    ⟨(some 9), (some (7, true)), .val (.load 9 true (.tmp 2))⟩,
    ⟨(some 10), (some (7, true)), .call (.tmp 8) [(.tmp 9)]⟩,
    ⟨(some 11), none, .val (.pick (.tmp 7) (.tmp 10) (.const (.bool false)))⟩,
    ⟨(some 3), none, .val (.mv (.tmp 11))⟩] [4, 5, 6, 7, 8, 9, 10, 11])
  .ret))⟩
theorem H.record_kinds_3 : Has P F.record_kinds_3 C.record_kinds_3 := ⟨Try.f62, Try.func62, by kernel_rfl, by kernel_rfl⟩

/-- podium/record.kinds$4 -/
noncomputable def C.record_kinds_4 : MFunc := ⟨16, 1, [.tmp 2],
  (.seq (.region [
    ⟨(some 1), none, .box T.apiEvent (.tmp 0)⟩,
    ⟨(some 2), none, .val (.mv (.const (.bool false)))⟩] [])
  (.seq (.region [
    ⟨(some 3), none, .val (.fieldAddr 4 (.tmp 1))⟩,
    ⟨(some 4), none, .val (.load 1 false (.tmp 3))⟩,
    ⟨(some 5), none, .val (.bin .eql T.int (.tmp 4) (.const (.int 0)))⟩,
    ⟨(some 6), none, .val (.mv (.tmp 5))⟩,
    ⟨(some 7), (some (6, true)), .val (.fieldAddr 5 (.tmp 1))⟩,
    ⟨(some 8), (some (6, true)), .val (.load 1 false (.tmp 7))⟩,
    ⟨(some 9), (some (6, true)), .val (.bin .eql T.int (.tmp 8) (.const (.int 0)))⟩,
    ⟨(some 10), none, .val (.pick (.tmp 6) (.tmp 9) (.const (.bool false)))⟩,
    ⟨(some 11), none, .val (.mv (.tmp 10))⟩,
    ⟨(some 12), (some (11, true)), .val (.fieldAddr 6 (.tmp 1))⟩,
    ⟨(some 13), (some (11, true)), .val (.load 1 false (.tmp 12))⟩,
    ⟨(some 14), (some (11, true)), .call (.const (.func (.func F.record_between) [] [])) [(.tmp 13), (.const (.int 0)), (.const (.int 1))]⟩,
    ⟨(some 15), none, .val (.pick (.tmp 11) (.tmp 14) (.const (.bool false)))⟩,
    ⟨(some 2), none, .val (.mv (.tmp 15))⟩] [3, 4, 5, 6, 7, 8, 9, 10, 11, 12, 13, 14, 15])
  .ret))⟩
theorem H.record_kinds_4 : Has P F.record_kinds_4 C.record_kinds_4 := ⟨Try.f63, Try.func63, by kernel_rfl, by kernel_rfl⟩

/-- slices.stableCmpFunc[podium/api.Decision] -/
noncomputable def C.slices_stableCmpFunc__apiDecision : MFunc := ⟨63, 3, [],
  (.seq (.region [
    ⟨(some 6), none, .val (.mv (.const (.int 20)))⟩] [])
  (.seq (.region [
    ⟨(some 10), none, .val (.mv (.tmp 6))⟩,
    ⟨(some 7), none, .val (.mv (.const (.int 0)))⟩,
    ⟨(some 8), none, .val (.mv (.tmp 10))⟩] [10])
  (.seq (.block 0 (.loop (.seq (.seq (.region [
    ⟨(some 11), none, .val (.mv (.tmp 8))⟩,
    ⟨(some 12), none, .val (.mv (.tmp 1))⟩,
    ⟨(some 13), none, .val (.bin .leq T.int (.tmp 11) (.tmp 12))⟩] [11, 12])
  (.cond (.tmp 13)
  .skip
  (.exit 0)))
  (.block 1 (.seq (.region [
    ⟨(some 14), none, .val (.mv (.tmp 0))⟩,
    ⟨(some 15), none, .val (.mv (.tmp 7))⟩,
    ⟨(some 16), none, .val (.mv (.tmp 8))⟩,
    ⟨(some 17), none, .val (.mv (.tmp 2))⟩,
    ⟨(some 18), none, .call (.const (.func (.func F.slices_insertionSortCmpFunc__apiDecision) [] [])) [(.tmp 14), (.tmp 15), (.tmp 16), (.tmp 17)]⟩] [14, 15, 16, 17, 18])
  (.seq (.region [
    ⟨(some 19), none, .val (.mv (.tmp 8))⟩,
    ⟨(some 7), none, .val (.mv (.tmp 19))⟩] [19])
  (.region [
    ⟨(some 20), none, .val (.mv (.tmp 8))⟩,
    ⟨(some 21), none, .val (.mv (.tmp 6))⟩,
    ⟨(some 22), none, .val (.bin .add T.int (.tmp 20) (.tmp 21))⟩,
    ⟨(some 8), none, .val (.mv (.tmp 22))⟩] [20, 21, 22])))))))
  (.seq (.region [
    ⟨(some 23), none, .val (.mv (.tmp 0))⟩,
    ⟨(some 24), none, .val (.mv (.tmp 7))⟩,
    ⟨(some 25), none, .val (.mv (.tmp 1))⟩,
    ⟨(some 26), none, .val (.mv (.tmp 2))⟩,
    ⟨(some 27), none, .call (.const (.func (.func F.slices_insertionSortCmpFunc__apiDecision) [] [])) [(.tmp 23), (.tmp 24), (.tmp 25), (.tmp 26)]⟩] [23, 24, 25, 26, 27])
  (.block 2 (.loop (.seq (.seq (.region [
    ⟨(some 28), none, .val (.mv (.tmp 6))⟩,
    ⟨(some 29), none, .val (.mv (.tmp 1))⟩,
    ⟨(some 30), none, .val (.bin .lss T.int (.tmp 28) (.tmp 29))⟩] [28, 29])
  (.cond (.tmp 30)
  .skip
  (.exit 2)))
  (.block 3 (.seq (.region [
    ⟨(some 31), none, .val (.mv (.tmp 6))⟩,
    ⟨(some 32), none, .val (.bin .mul T.int (.const (.int 2)) (.tmp 31))⟩,
    ⟨(some 7), none, .val (.mv (.const (.int 0)))⟩,
    ⟨(some 8), none, .val (.mv (.tmp 32))⟩] [31, 32])
  (.seq (.block 4 (.loop (.seq (.seq (.region [
    ⟨(some 33), none, .val (.mv (.tmp 8))⟩,
    ⟨(some 34), none, .val (.mv (.tmp 1))⟩,
    ⟨(some 35), none, .val (.bin .leq T.int (.tmp 33) (.tmp 34))⟩] [33, 34])
  (.cond (.tmp 35)
  .skip
  (.exit 4)))
  (.block 5 (.seq (.region [
    ⟨(some 36), none, .val (.mv (.tmp 0))⟩,
    ⟨(some 37), none, .val (.mv (.tmp 7))⟩,
    ⟨(some 38), none, .val (.mv (.tmp 7))⟩,
    ⟨(some 39), none, .val (.mv (.tmp 6))⟩,
    ⟨(some 40), none, .val (.bin .add T.int (.tmp 38) (.tmp 39))⟩,
    ⟨(some 41), none, .val (.mv (.tmp 8))⟩,
    ⟨(some 42), none, .val (.mv (.tmp 2))⟩,
    ⟨(some 43), none, .call (.const (.func (.func F.slices_symMergeCmpFunc__apiDecision) [] [])) [(.tmp 36), (.tmp 37), (.tmp 40), (.tmp 41), (.tmp 42)]⟩] [36, 37, 38, 39, 40, 41, 42, 43])
  (.seq (.region [
    ⟨(some 44), none, .val (.mv (.tmp 8))⟩,
    ⟨(some 7), none, .val (.mv (.tmp 44))⟩] [44])
  (.region [
    ⟨(some 45), none, .val (.mv (.tmp 8))⟩,
    ⟨(some 46), none, .val (.mv (.tmp 6))⟩,
    ⟨(some 47), none, .val (.bin .mul T.int (.const (.int 2)) (.tmp 46))⟩,
    ⟨(some 48), none, .val (.bin .add T.int (.tmp 45) (.tmp 47))⟩,
    ⟨(some 8), none, .val (.mv (.tmp 48))⟩] [45, 46, 47, 48])))))))
  (.seq (.seq (.region [
    ⟨(some 49), none, .val (.mv (.tmp 7))⟩,
    ⟨(some 50), none, .val (.mv (.tmp 6))⟩,
    ⟨(some 51), none, .val (.bin .add T.int (.tmp 49) (.tmp 50))⟩,
    ⟨(some 9), none, .val (.mv (.tmp 51))⟩] [49, 50, 51])
  (.seq (.region [
    ⟨(some 52), none, .val (.mv (.tmp 9))⟩,
    ⟨(some 53), none, .val (.mv (.tmp 1))⟩,
    ⟨(some 54), none, .val (.bin .lss T.int (.tmp 52) (.tmp 53))⟩] [52, 53])
  (.cond (.tmp 54)
  (.region [
    ⟨(some 55), none, .val (.mv (.tmp 0))⟩,
    ⟨(some 56), none, .val (.mv (.tmp 7))⟩,
    ⟨(some 57), none, .val (.mv (.tmp 9))⟩,
    ⟨(some 58), none, .val (.mv (.tmp 1))⟩,
    ⟨(some 59), none, .val (.mv (.tmp 2))⟩,
    ⟨(some 60), none, .call (.const (.func (.func F.slices_symMergeCmpFunc__apiDecision) [] [])) [(.tmp 55), (.tmp 56), (.tmp 57), (.tmp 58), (.tmp 59)]⟩] [55, 56, 57, 58, 59, 60])
  .skip)))
  (.region [
    ⟨(some 61), none, .val (.mv (.tmp 6))⟩,
    ⟨(some 62), none, .val (.bin .mul T.int (.tmp 61) (.const (.int 2)))⟩,
    ⟨(some 6), none, .val (.mv (.tmp 62))⟩] [61, 62]))))))))))))⟩
theorem H.slices_stableCmpFunc__apiDecision : Has P F.slices_stableCmpFunc__apiDecision C.slices_stableCmpFunc__apiDecision := ⟨Try.f64, Try.func64, by kernel_rfl, by kernel_rfl⟩

/-- cmp.isNaN[int] -/
noncomputable def C.cmp_isNaN__int : MFunc := ⟨6, 1, [.tmp 2],
  (.seq (.region [
    ⟨(some 2), none, .val (.mv (.const (.bool false)))⟩] [])
  (.seq (.region [
    ⟨(some 3), none, .val (.mv (.tmp 0))⟩,
    ⟨(some 4), none, .val (.mv (.tmp 0))⟩,
    ⟨(some 5), none, .val (.bin .neq T.int (.tmp 3) (.tmp 4))⟩,
    ⟨(some 2), none, .val (.mv (.tmp 5))⟩] [3, 4, 5])
  .ret))⟩
theorem H.cmp_isNaN__int : Has P F.cmp_isNaN__int C.cmp_isNaN__int := ⟨Try.f65, Try.func65, by kernel_rfl, by kernel_rfl⟩

/-- slices.stableCmpFunc[podium/api.Event] -/
noncomputable def C.slices_stableCmpFunc__apiEvent : MFunc := ⟨63, 3, [],
  (.seq (.region [
    ⟨(some 6), none, .val (.mv (.const (.int 20)))⟩] [])
  (.seq (.region [
    ⟨(some 10), none, .val (.mv (.tmp 6))⟩,
    ⟨(some 7), none, .val (.mv (.const (.int 0)))⟩,
    ⟨(some 8), none, .val (.mv (.tmp 10))⟩] [10])
  (.seq (.block 0 (.loop (.seq (.seq (.region [
    ⟨(some 11), none, .val (.mv (.tmp 8))⟩,
    ⟨(some 12), none, .val (.mv (.tmp 1))⟩,
    ⟨(some 13), none, .val (.bin .leq T.int (.tmp 11) (.tmp 12))⟩] [11, 12])
  (.cond (.tmp 13)
  .skip
  (.exit 0)))
  (.block 1 (.seq (.region [
    ⟨(some 14), none, .val (.mv (.tmp 0))⟩,
    ⟨(some 15), none, .val (.mv (.tmp 7))⟩,
    ⟨(some 16), none, .val (.mv (.tmp 8))⟩,
    ⟨(some 17), none, .val (.mv (.tmp 2))⟩,
    ⟨(some 18), none, .call (.const (.func (.func F.slices_insertionSortCmpFunc__apiEvent) [] [])) [(.tmp 14), (.tmp 15), (.tmp 16), (.tmp 17)]⟩] [14, 15, 16, 17, 18])
  (.seq (.region [
    ⟨(some 19), none, .val (.mv (.tmp 8))⟩,
    ⟨(some 7), none, .val (.mv (.tmp 19))⟩] [19])
  (.region [
    ⟨(some 20), none, .val (.mv (.tmp 8))⟩,
    ⟨(some 21), none, .val (.mv (.tmp 6))⟩,
    ⟨(some 22), none, .val (.bin .add T.int (.tmp 20) (.tmp 21))⟩,
    ⟨(some 8), none, .val (.mv (.tmp 22))⟩] [20, 21, 22])))))))
  (.seq (.region [
    ⟨(some 23), none, .val (.mv (.tmp 0))⟩,
    ⟨(some 24), none, .val (.mv (.tmp 7))⟩,
    ⟨(some 25), none, .val (.mv (.tmp 1))⟩,
    ⟨(some 26), none, .val (.mv (.tmp 2))⟩,
    ⟨(some 27), none, .call (.const (.func (.func F.slices_insertionSortCmpFunc__apiEvent) [] [])) [(.tmp 23), (.tmp 24), (.tmp 25), (.tmp 26)]⟩] [23, 24, 25, 26, 27])
  (.block 2 (.loop (.seq (.seq (.region [
    ⟨(some 28), none, .val (.mv (.tmp 6))⟩,
    ⟨(some 29), none, .val (.mv (.tmp 1))⟩,
    ⟨(some 30), none, .val (.bin .lss T.int (.tmp 28) (.tmp 29))⟩] [28, 29])
  (.cond (.tmp 30)
  .skip
  (.exit 2)))
  (.block 3 (.seq (.region [
    ⟨(some 31), none, .val (.mv (.tmp 6))⟩,
    ⟨(some 32), none, .val (.bin .mul T.int (.const (.int 2)) (.tmp 31))⟩,
    ⟨(some 7), none, .val (.mv (.const (.int 0)))⟩,
    ⟨(some 8), none, .val (.mv (.tmp 32))⟩] [31, 32])
  (.seq (.block 4 (.loop (.seq (.seq (.region [
    ⟨(some 33), none, .val (.mv (.tmp 8))⟩,
    ⟨(some 34), none, .val (.mv (.tmp 1))⟩,
    ⟨(some 35), none, .val (.bin .leq T.int (.tmp 33) (.tmp 34))⟩] [33, 34])
  (.cond (.tmp 35)
  .skip
  (.exit 4)))
  (.block 5 (.seq (.region [
    ⟨(some 36), none, .val (.mv (.tmp 0))⟩,
    ⟨(some 37), none, .val (.mv (.tmp 7))⟩,
    ⟨(some 38), none, .val (.mv (.tmp 7))⟩,
    ⟨(some 39), none, .val (.mv (.tmp 6))⟩,
    ⟨(some 40), none, .val (.bin .add T.int (.tmp 38) (.tmp 39))⟩,
    ⟨(some 41), none, .val (.mv (.tmp 8))⟩,
    ⟨(some 42), none, .val (.mv (.tmp 2))⟩,
    ⟨(some 43), none, .call (.const (.func (.func F.slices_symMergeCmpFunc__apiEvent) [] [])) [(.tmp 36), (.tmp 37), (.tmp 40), (.tmp 41), (.tmp 42)]⟩] [36, 37, 38, 39, 40, 41, 42, 43])
  (.seq (.region [
    ⟨(some 44), none, .val (.mv (.tmp 8))⟩,
    ⟨(some 7), none, .val (.mv (.tmp 44))⟩] [44])
  (.region [
    ⟨(some 45), none, .val (.mv (.tmp 8))⟩,
    ⟨(some 46), none, .val (.mv (.tmp 6))⟩,
    ⟨(some 47), none, .val (.bin .mul T.int (.const (.int 2)) (.tmp 46))⟩,
    ⟨(some 48), none, .val (.bin .add T.int (.tmp 45) (.tmp 47))⟩,
    ⟨(some 8), none, .val (.mv (.tmp 48))⟩] [45, 46, 47, 48])))))))
  (.seq (.seq (.region [
    ⟨(some 49), none, .val (.mv (.tmp 7))⟩,
    ⟨(some 50), none, .val (.mv (.tmp 6))⟩,
    ⟨(some 51), none, .val (.bin .add T.int (.tmp 49) (.tmp 50))⟩,
    ⟨(some 9), none, .val (.mv (.tmp 51))⟩] [49, 50, 51])
  (.seq (.region [
    ⟨(some 52), none, .val (.mv (.tmp 9))⟩,
    ⟨(some 53), none, .val (.mv (.tmp 1))⟩,
    ⟨(some 54), none, .val (.bin .lss T.int (.tmp 52) (.tmp 53))⟩] [52, 53])
  (.cond (.tmp 54)
  (.region [
    ⟨(some 55), none, .val (.mv (.tmp 0))⟩,
    ⟨(some 56), none, .val (.mv (.tmp 7))⟩,
    ⟨(some 57), none, .val (.mv (.tmp 9))⟩,
    ⟨(some 58), none, .val (.mv (.tmp 1))⟩,
    ⟨(some 59), none, .val (.mv (.tmp 2))⟩,
    ⟨(some 60), none, .call (.const (.func (.func F.slices_symMergeCmpFunc__apiEvent) [] [])) [(.tmp 55), (.tmp 56), (.tmp 57), (.tmp 58), (.tmp 59)]⟩] [55, 56, 57, 58, 59, 60])
  .skip)))
  (.region [
    ⟨(some 61), none, .val (.mv (.tmp 6))⟩,
    ⟨(some 62), none, .val (.bin .mul T.int (.tmp 61) (.const (.int 2)))⟩,
    ⟨(some 6), none, .val (.mv (.tmp 62))⟩] [61, 62]))))))))))))⟩
theorem H.slices_stableCmpFunc__apiEvent : Has P F.slices_stableCmpFunc__apiEvent C.slices_stableCmpFunc__apiEvent := ⟨Try.f66, Try.func66, by kernel_rfl, by kernel_rfl⟩

/-- podium/podiumref49.in -/
noncomputable def C.podiumref49_in : MFunc := ⟨15, 3, [.tmp 6],
  (.seq (.region [
    ⟨(some 6), none, .val (.mv (.const (.bool false)))⟩] [])
  (.seq (.region [
    ⟨(some 7), none, .val (.mv (.tmp 0))⟩,
    ⟨(some 8), none, .val (.mv (.tmp 1))⟩,
    ⟨(some 9), none, .val (.bin .geq T.int (.tmp 7) (.tmp 8))⟩,
    ⟨(some 10), none, .val (.mv (.tmp 9))⟩,
    ⟨(some 11), (some (10, true)), .val (.mv (.tmp 0))⟩,
    ⟨(some 12), (some (10, true)), .val (.mv (.tmp 2))⟩,
    ⟨(some 13), (some (10, true)), .val (.bin .leq T.int (.tmp 11) (.tmp 12))⟩,
    ⟨(some 14), none, .val (.pick (.tmp 10) (.tmp 13) (.const (.bool false)))⟩,
    ⟨(some 6), none, .val (.mv (.tmp 14))⟩] [7, 8, 9, 10, 11, 12, 13, 14])
  .ret))⟩
theorem H.podiumref49_in : Has P F.podiumref49_in C.podiumref49_in := ⟨Try.f67, Try.func67, by kernel_rfl, by kernel_rfl⟩

/-- slices.insertionSortCmpFunc[podium/api.Decision] -/
noncomputable def C.slices_insertionSortCmpFunc__apiDecision : MFunc := ⟨53, 4, [],
  (.seq (.region [
    ⟨(some 10), none, .val (.mv (.tmp 1))⟩,
    ⟨(some 11), none, .val (.bin .add T.int (.tmp 10) (.const (.int 1)))⟩,
    ⟨(some 8), none, .val (.mv (.tmp 11))⟩] [10, 11])
  (.block 0 (.loop (.seq (.seq (.region [
    ⟨(some 12), none, .val (.mv (.tmp 8))⟩,
    ⟨(some 13), none, .val (.mv (.tmp 2))⟩,
    ⟨(some 14), none, .val (.bin .lss T.int (.tmp 12) (.tmp 13))⟩] [12, 13])
  (.cond (.tmp 14)
  .skip
  (.exit 0)))
  (.seq (.block 1 (.seq (.region [
    ⟨(some 17), none, .val (.mv (.tmp 8))⟩,
    ⟨(some 9), none, .val (.mv (.tmp 17))⟩] [17])
  (.block 2 (.loop (.seq (.seq (.draw true [
    (.early, ⟨(some 18), none, .val (.mv (.tmp 9))⟩),
    (.early, ⟨(some 19), none, .val (.mv (.tmp 1))⟩),
    (.early, ⟨(some 20), none, .val (.bin .gtr T.int (.tmp 18) (.tmp 19))⟩),
    (.early, ⟨(some 21), none, .val (.mv (.tmp 20))⟩),
    (.early, ⟨(some 22), (some (21, true)), .val (.mv (.tmp 3))⟩),
    (.early, ⟨(some 23), (some (21, true)), .val (.mv (.tmp 0))⟩),
    (.early, ⟨(some 24), (some (21, true)), .val (.mv (.tmp 9))⟩),
    (.early, ⟨(some 25), (some (21, true)), .val (.indexAddr 14 (.tmp 23) (.tmp 24))⟩),
    (.early, ⟨(some 26), (some (21, true)), .val (.load 14 true (.tmp 25))⟩),
    (.early, ⟨(some 27), (some (21, true)), .val (.mv (.tmp 0))⟩),
    (.early, ⟨(some 28), (some (21, true)), .val (.mv (.tmp 9))⟩),
    (.early, ⟨(some 29), (some (21, true)), .val (.bin .sub T.int (.tmp 28) (.const (.int 1)))⟩),
    (.early, ⟨(some 30), (some (21, true)), .val (.indexAddr 14 (.tmp 27) (.tmp 29))⟩),
    (.early, ⟨(some 31), (some (21, true)), .val (.load 14 true (.tmp 30))⟩),
    (.hard, ⟨(some 32), (some (21, true)), .call (.tmp 22) [(.tmp 26), (.tmp 31)]⟩),
    (.late, ⟨(some 33), (some (21, true)), .val (.bin .lss T.int (.tmp 32) (.const (.int 0)))⟩),
    (.late, ⟨(some 34), none, .val (.pick (.tmp 21) (.tmp 33) (.const (.bool false)))⟩)] [18, 19, 20, 21, 22, 23, 24, 25, 26, 27, 28, 29, 30, 31, 32, 33])
  (.cond (.tmp 34)
  .skip
  (.exit 2)))
  (.seq (.block 3 (.draw true [
    (.early, ⟨(some 37), none, .val (.mv (.tmp 0))⟩),
    (.early, ⟨(some 38), none, .val (.mv (.tmp 9))⟩),
    (.late, ⟨(some 39), none, .val (.mv (.tmp 0))⟩),
    (.late, ⟨(some 40), none, .val (.mv (.tmp 9))⟩),
    (.late, ⟨(some 41), none, .val (.bin .sub T.int (.tmp 40) (.const (.int 1)))⟩),
    (.early, ⟨(some 42), none, .val (.mv (.tmp 0))⟩),
    (.early, ⟨(some 43), none, .val (.mv (.tmp 9))⟩),
    (.early, ⟨(some 44), none, .val (.bin .sub T.int (.tmp 43) (.const (.int 1)))⟩),
    (.early, ⟨(some 45), none, .val (.indexAddr 14 (.tmp 42) (.tmp 44))⟩),
    (.early, ⟨(some 46), none, .val (.load 14 true (.tmp 45))⟩),
    (.early, ⟨(some 47), none, .val (.mv (.tmp 0))⟩),
    (.early, ⟨(some 48), none, .val (.mv (.tmp 9))⟩),
    (.early, ⟨(some 49), none, .val (.indexAddr 14 (.tmp 47) (.tmp 48))⟩),
    (.early, ⟨(some 50), none, .val (.load 14 true (.tmp 49))⟩),
    (.early, ⟨(some 51), none, .val (.indexAddr 14 (.tmp 37) (.tmp 38))⟩),
    (.hard, ⟨none, none, .store 14 (.tmp 51) (.tmp 46)⟩),
    (.late, ⟨(some 52), none, .val (.indexAddr 14 (.tmp 39) (.tmp 41))⟩),
    (.hard, ⟨none, none, .store 14 (.tmp 52) (.tmp 50)⟩)] [37, 38, 39, 40, 41, 42, 43, 44, 45, 46, 47, 48, 49, 50, 51, 52]))
  (.region [
    ⟨(some 35), none, .val (.mv (.tmp 9))⟩,
    ⟨(some 36), none, .val (.bin .sub T.int (.tmp 35) (.const (.int 1)))⟩,
    ⟨(some 9), none, .val (.mv (.tmp 36))⟩] [35, 36])))))))
  (.region [
    ⟨(some 15), none, .val (.mv (.tmp 8))⟩,
    ⟨(some 16), none, .val (.bin .add T.int (.tmp 15) (.const (.int 1)))⟩,
    ⟨(some 8), none, .val (.mv (.tmp 16))⟩] [15, 16]))))))⟩
theorem H.slices_insertionSortCmpFunc__apiDecision : Has P F.slices_insertionSortCmpFunc__apiDecision C.slices_insertionSortCmpFunc__apiDecision := ⟨Try.f68, Try.func68, by kernel_rfl, by kernel_rfl⟩

/-- slices.insertionSortCmpFunc[podium/api.Event] -/
noncomputable def C.slices_insertionSortCmpFunc__apiEvent : MFunc := ⟨53, 4, [],
  (.seq (.region [
    ⟨(some 10), none, .val (.mv (.tmp 1))⟩,
    ⟨(some 11), none, .val (.bin .add T.int (.tmp 10) (.const (.int 1)))⟩,
    ⟨(some 8), none, .val (.mv (.tmp 11))⟩] [10, 11])
  (.block 0 (.loop (.seq (.seq (.region [
    ⟨(some 12), none, .val (.mv (.tmp 8))⟩,
    ⟨(some 13), none, .val (.mv (.tmp 2))⟩,
    ⟨(some 14), none, .val (.bin .lss T.int (.tmp 12) (.tmp 13))⟩] [12, 13])
  (.cond (.tmp 14)
  .skip
  (.exit 0)))
  (.seq (.block 1 (.seq (.region [
    ⟨(some 17), none, .val (.mv (.tmp 8))⟩,
    ⟨(some 9), none, .val (.mv (.tmp 17))⟩] [17])
  (.block 2 (.loop (.seq (.seq (.draw true [
    (.early, ⟨(some 18), none, .val (.mv (.tmp 9))⟩),
    (.early, ⟨(some 19), none, .val (.mv (.tmp 1))⟩),
    (.early, ⟨(some 20), none, .val (.bin .gtr T.int (.tmp 18) (.tmp 19))⟩),
    (.early, ⟨(some 21), none, .val (.mv (.tmp 20))⟩),
    (.early, ⟨(some 22), (some (21, true)), .val (.mv (.tmp 3))⟩),
    (.early, ⟨(some 23), (some (21, true)), .val (.mv (.tmp 0))⟩),
    (.early, ⟨(some 24), (some (21, true)), .val (.mv (.tmp 9))⟩),
    (.early, ⟨(some 25), (some (21, true)), .val (.indexAddr 9 (.tmp 23) (.tmp 24))⟩),
    (.early, ⟨(some 26), (some (21, true)), .val (.load 9 true (.tmp 25))⟩),
    (.early, ⟨(some 27), (some (21, true)), .val (.mv (.tmp 0))⟩),
    (.early, ⟨(some 28), (some (21, true)), .val (.mv (.tmp 9))⟩),
    (.early, ⟨(some 29), (some (21, true)), .val (.bin .sub T.int (.tmp 28) (.const (.int 1)))⟩),
    (.early, ⟨(some 30), (some (21, true)), .val (.indexAddr 9 (.tmp 27) (.tmp 29))⟩),
    (.early, ⟨(some 31), (some (21, true)), .val (.load 9 true (.tmp 30))⟩),
    (.hard, ⟨(some 32), (some (21, true)), .call (.tmp 22) [(.tmp 26), (.tmp 31)]⟩),
    (.late, ⟨(some 33), (some (21, true)), .val (.bin .lss T.int (.tmp 32) (.const (.int 0)))⟩),
    (.late, ⟨(some 34), none, .val (.pick (.tmp 21) (.tmp 33) (.const (.bool false)))⟩)] [18, 19, 20, 21, 22, 23, 24, 25, 26, 27, 28, 29, 30, 31, 32, 33])
  (.cond (.tmp 34)
  .skip
  (.exit 2)))
  (.seq (.block 3 (.draw true [
    (.early, ⟨(some 37), none, .val (.mv (.tmp 0))⟩),
    (.early, ⟨(some 38), none, .val (.mv (.tmp 9))⟩),
    (.late, ⟨(some 39), none, .val (.mv (.tmp 0))⟩),
    (.late, ⟨(some 40), none, .val (.mv (.tmp 9))⟩),
    (.late, ⟨(some 41), none, .val (.bin .sub T.int (.tmp 40) (.const (.int 1)))⟩),
    (.early, ⟨(some 42), none, .val (.mv (.tmp 0))⟩),
    (.early, ⟨(some 43), none, .val (.mv (.tmp 9))⟩),
    (.early, ⟨(some 44), none, .val (.bin .sub T.int (.tmp 43) (.const (.int 1)))⟩),
    (.early, ⟨(some 45), none, .val (.indexAddr 9 (.tmp 42) (.tmp 44))⟩),
    (.early, ⟨(some 46), none, .val (.load 9 true (.tmp 45))⟩),
    (.early, ⟨(some 47), none, .val (.mv (.tmp 0))⟩),
    (.early, ⟨(some 48), none, .val (.mv (.tmp 9))⟩),
    (.early, ⟨(some 49), none, .val (.indexAddr 9 (.tmp 47) (.tmp 48))⟩),
    (.early, ⟨(some 50), none, .val (.load 9 true (.tmp 49))⟩),
    (.early, ⟨(some 51), none, .val (.indexAddr 9 (.tmp 37) (.tmp 38))⟩),
    (.hard, ⟨none, none, .store 9 (.tmp 51) (.tmp 46)⟩),
    (.late, ⟨(some 52), none, .val (.indexAddr 9 (.tmp 39) (.tmp 41))⟩),
    (.hard, ⟨none, none, .store 9 (.tmp 52) (.tmp 50)⟩)] [37, 38, 39, 40, 41, 42, 43, 44, 45, 46, 47, 48, 49, 50, 51, 52]))
  (.region [
    ⟨(some 35), none, .val (.mv (.tmp 9))⟩,
    ⟨(some 36), none, .val (.bin .sub T.int (.tmp 35) (.const (.int 1)))⟩,
    ⟨(some 9), none, .val (.mv (.tmp 36))⟩] [35, 36])))))))
  (.region [
    ⟨(some 15), none, .val (.mv (.tmp 8))⟩,
    ⟨(some 16), none, .val (.bin .add T.int (.tmp 15) (.const (.int 1)))⟩,
    ⟨(some 8), none, .val (.mv (.tmp 16))⟩] [15, 16]))))))⟩
theorem H.slices_insertionSortCmpFunc__apiEvent : Has P F.slices_insertionSortCmpFunc__apiEvent C.slices_insertionSortCmpFunc__apiEvent := ⟨Try.f70, Try.func70, by kernel_rfl, by kernel_rfl⟩

/-- slices.symMergeCmpFunc[podium/api.Event] -/
noncomputable def C.slices_symMergeCmpFunc__apiEvent : MFunc := ⟨220, 5, [],
  (.seq (.seq (.region [
    ⟨(some 25), none, .val (.mv (.tmp 2))⟩,
    ⟨(some 26), none, .val (.mv (.tmp 1))⟩,
    ⟨(some 27), none, .val (.bin .sub T.int (.tmp 25) (.tmp 26))⟩,
    ⟨(some 28), none, .val (.bin .eql T.int (.tmp 27) (.const (.int 1)))⟩] [25, 26, 27])
  (.cond (.tmp 28)
  (.seq (.region [
    ⟨(some 29), none, .val (.mv (.tmp 2))⟩,
    ⟨(some 10), none, .val (.mv (.tmp 29))⟩] [29])
  (.seq (.region [
    ⟨(some 30), none, .val (.mv (.tmp 3))⟩,
    ⟨(some 11), none, .val (.mv (.tmp 30))⟩] [30])
  (.seq (.block 0 (.loop (.seq (.seq (.region [
    ⟨(some 31), none, .val (.mv (.tmp 10))⟩,
    ⟨(some 32), none, .val (.mv (.tmp 11))⟩,
    ⟨(some 33), none, .val (.bin .lss T.int (.tmp 31) (.tmp 32))⟩] [31, 32])
  (.cond (.tmp 33)
  .skip
  (.exit 0)))
  (.block 1 (.seq (.region [
    ⟨(some 34), none, .val (.mv (.tmp 10))⟩,
    ⟨(some 35), none, .val (.mv (.tmp 11))⟩,
    ⟨(some 36), none, .val (.bin .add T.int (.tmp 34) (.tmp 35))⟩,
    ⟨(some 37), none, .val (.toInt .u64 (.tmp 36))⟩,
    ⟨(some 38), none, .val (.bin .shr T.uint (.tmp 37) (.const (.val (.int .u64 1))))⟩,
    ⟨(some 39), none, .val (.toInt .i64 (.tmp 38))⟩,
    ⟨(some 12), none, .val (.mv (.tmp 39))⟩] [34, 35, 36, 37, 38, 39])
  (.seq (.draw true [
    (.early, ⟨(some 40), none, .val (.mv (.tmp 4))⟩),
    (.early, ⟨(some 41), none, .val (.mv (.tmp 0))⟩),
    (.early, ⟨(some 42), none, .val (.mv (.tmp 12))⟩),
    (.early, ⟨(some 43), none, .val (.indexAddr 9 (.tmp 41) (.tmp 42))⟩),
    (.early, ⟨(some 44), none, .val (.load 9 true (.tmp 43))⟩),
    (.early, ⟨(some 45), none, .val (.mv (.tmp 0))⟩),
    (.early, ⟨(some 46), none, .val (.mv (.tmp 1))⟩),
    (.early, ⟨(some 47), none, .val (.indexAddr 9 (.tmp 45) (.tmp 46))⟩),
    (.early, ⟨(some 48), none, .val (.load 9 true (.tmp 47))⟩),
    (.hard, ⟨(some 49), none, .call (.tmp 40) [(.tmp 44), (.tmp 48)]⟩),
    (.late, ⟨(some 50), none, .val (.bin .lss T.int (.tmp 49) (.const (.int 0)))⟩)] [40, 41, 42, 43, 44, 45, 46, 47, 48, 49])
  (.cond (.tmp 50)
  (.region [
    ⟨(some 51), none, .val (.mv (.tmp 12))⟩,
    ⟨(some 52), none, .val (.bin .add T.int (.tmp 51) (.const (.int 1)))⟩,
    ⟨(some 10), none, .val (.mv (.tmp 52))⟩] [51, 52])
  (.region [
    ⟨(some 53), none, .val (.mv (.tmp 12))⟩,
    ⟨(some 11), none, .val (.mv (.tmp 53))⟩] [53]))))))))
  (.seq (.seq (.region [
    ⟨(some 54), none, .val (.mv (.tmp 1))⟩,
    ⟨(some 13), none, .val (.mv (.tmp 54))⟩] [54])
  (.block 2 (.loop (.seq (.seq (.region [
    ⟨(some 55), none, .val (.mv (.tmp 13))⟩,
    ⟨(some 56), none, .val (.mv (.tmp 10))⟩,
    ⟨(some 57), none, .val (.bin .sub T.int (.tmp 56) (.const (.int 1)))⟩,
    ⟨(some 58), none, .val (.bin .lss T.int (.tmp 55) (.tmp 57))⟩] [55, 56, 57])
  (.cond (.tmp 58)
  .skip
  (.exit 2)))
  (.seq (.block 3 (.draw true [
    (.early, ⟨(some 61), none, .val (.mv (.tmp 0))⟩),
    (.early, ⟨(some 62), none, .val (.mv (.tmp 13))⟩),
    (.late, ⟨(some 63), none, .val (.mv (.tmp 0))⟩),
    (.late, ⟨(some 64), none, .val (.mv (.tmp 13))⟩),
    (.late, ⟨(some 65), none, .val (.bin .add T.int (.tmp 64) (.const (.int 1)))⟩),
    (.early, ⟨(some 66), none, .val (.mv (.tmp 0))⟩),
    (.early, ⟨(some 67), none, .val (.mv (.tmp 13))⟩),
    (.early, ⟨(some 68), none, .val (.bin .add T.int (.tmp 67) (.const (.int 1)))⟩),
    (.early, ⟨(some 69), none, .val (.indexAddr 9 (.tmp 66) (.tmp 68))⟩),
    (.early, ⟨(some 70), none, .val (.load 9 true (.tmp 69))⟩),
    (.early, ⟨(some 71), none, .val (.mv (.tmp 0))⟩),
    (.early, ⟨(some 72), none, .val (.mv (.tmp 13))⟩),
    (.early, ⟨(some 73), none, .val (.indexAddr 9 (.tmp 71) (.tmp 72))⟩),
    (.early, ⟨(some 74), none, .val (.load 9 true (.tmp 73))⟩),
    (.early, ⟨(some 75), none, .val (.indexAddr 9 (.tmp 61) (.tmp 62))⟩),
    (.hard, ⟨none, none, .store 9 (.tmp 75) (.tmp 70)⟩),
    (.late, ⟨(some 76), none, .val (.indexAddr 9 (.tmp 63) (.tmp 65))⟩),
    (.hard, ⟨none, none, .store 9 (.tmp 76) (.tmp 74)⟩)] [61, 62, 63, 64, 65, 66, 67, 68, 69, 70, 71, 72, 73, 74, 75, 76]))
  (.region [
    ⟨(some 59), none, .val (.mv (.tmp 13))⟩,
    ⟨(some 60), none, .val (.bin .add T.int (.tmp 59) (.const (.int 1)))⟩,
    ⟨(some 13), none, .val (.mv (.tmp 60))⟩] [59, 60]))))))
  .ret))))
  .skip))
  (.seq (.seq (.region [
    ⟨(some 77), none, .val (.mv (.tmp 3))⟩,
    ⟨(some 78), none, .val (.mv (.tmp 2))⟩,
    ⟨(some 79), none, .val (.bin .sub T.int (.tmp 77) (.tmp 78))⟩,
    ⟨(some 80), none, .val (.bin .eql T.int (.tmp 79) (.const (.int 1)))⟩] [77, 78, 79])
  (.cond (.tmp 80)
  (.seq (.region [
    ⟨(some 81), none, .val (.mv (.tmp 1))⟩,
    ⟨(some 14), none, .val (.mv (.tmp 81))⟩] [81])
  (.seq (.region [
    ⟨(some 82), none, .val (.mv (.tmp 2))⟩,
    ⟨(some 15), none, .val (.mv (.tmp 82))⟩] [82])
  (.seq (.block 4 (.loop (.seq (.seq (.region [
    ⟨(some 83), none, .val (.mv (.tmp 14))⟩,
    ⟨(some 84), none, .val (.mv (.tmp 15))⟩,
    ⟨(some 85), none, .val (.bin .lss T.int (.tmp 83) (.tmp 84))⟩] [83, 84])
  (.cond (.tmp 85)
  .skip
  (.exit 4)))
  (.block 5 (.seq (.region [
    ⟨(some 86), none, .val (.mv (.tmp 14))⟩,
    ⟨(some 87), none, .val (.mv (.tmp 15))⟩,
    ⟨(some 88), none, .val (.bin .add T.int (.tmp 86) (.tmp 87))⟩,
    ⟨(some 89), none, .val (.toInt .u64 (.tmp 88))⟩,
    ⟨(some 90), none, .val (.bin .shr T.uint (.tmp 89) (.const (.val (.int .u64 1))))⟩,
    ⟨(some 91), none, .val (.toInt .i64 (.tmp 90))⟩,
    ⟨(some 16), none, .val (.mv (.tmp 91))⟩] [86, 87, 88, 89, 90, 91])
  (.seq (.draw true [
    (.early, ⟨(some 92), none, .val (.mv (.tmp 4))⟩),
    (.early, ⟨(some 93), none, .val (.mv (.tmp 0))⟩),
    (.early, ⟨(some 94), none, .val (.mv (.tmp 2))⟩),
    (.early, ⟨(some 95), none, .val (.indexAddr 9 (.tmp 93) (.tmp 94))⟩),
    (.early, ⟨(some 96), none, .val (.load 9 true (.tmp 95))⟩),
    (.early, ⟨(some 97), none, .val (.mv (.tmp 0))⟩),
    (.early, ⟨(some 98), none, .val (.mv (.tmp 16))⟩),
    (.early, ⟨(some 99), none, .val (.indexAddr 9 (.tmp 97) (.tmp 98))⟩),
    (.early, ⟨(some 100), none, .val (.load 9 true (.tmp 99))⟩),
    (.hard, ⟨(some 101), none, .call (.tmp 92) [(.tmp 96), (.tmp 100)]⟩),
    (.late, ⟨(some 102), none, .val (.bin .lss T.int (.tmp 101) (.const (.int 0)))⟩),
    (.late, ⟨(some 103), none, .val (.un .not (.tmp 102))⟩)] [92, 93, 94, 95, 96, 97, 98, 99, 100, 101, 102])
  (.cond (.tmp 103)
  (.region [
    ⟨(some 104), none, .val (.mv (.tmp 16))⟩,
    ⟨(some 105), none, .val (.bin .add T.int (.tmp 104) (.const (.int 1)))⟩,
    ⟨(some 14), none, .val (.mv (.tmp 105))⟩] [104, 105])
  (.region [
    ⟨(some 106), none, .val (.mv (.tmp 16))⟩,
    ⟨(some 15), none, .val (.mv (.tmp 106))⟩] [106]))))))))
  (.seq (.seq (.region [
    ⟨(some 107), none, .val (.mv (.tmp 2))⟩,
    ⟨(some 17), none, .val (.mv (.tmp 107))⟩] [107])
  (.block 6 (.loop (.seq (.seq (.region [
    ⟨(some 108), none, .val (.mv (.tmp 17))⟩,
    ⟨(some 109), none, .val (.mv (.tmp 14))⟩,
    ⟨(some 110), none, .val (.bin .gtr T.int (.tmp 108) (.tmp 109))⟩] [108, 109])
  (.cond (.tmp 110)
  .skip
  (.exit 6)))
  (.seq (.block 7 (.draw true [
    (.early, ⟨(some 113), none, .val (.mv (.tmp 0))⟩),
    (.early, ⟨(some 114), none, .val (.mv (.tmp 17))⟩),
    (.late, ⟨(some 115), none, .val (.mv (.tmp 0))⟩),
    (.late, ⟨(some 116), none, .val (.mv (.tmp 17))⟩),
    (.late, ⟨(some 117), none, .val (.bin .sub T.int (.tmp 116) (.const (.int 1)))⟩),
    (.early, ⟨(some 118), none, .val (.mv (.tmp 0))⟩),
    (.early, ⟨(some 119), none, .val (.mv (.tmp 17))⟩),
    (.early, ⟨(some 120), none, .val (.bin .sub T.int (.tmp 119) (.const (.int 1)))⟩),
    (.early, ⟨(some 121), none, .val (.indexAddr 9 (.tmp 118) (.tmp 120))⟩),
    (.early, ⟨(some 122), none, .val (.load 9 true (.tmp 121))⟩),
    (.early, ⟨(some 123), none, .val (.mv (.tmp 0))⟩),
    (.early, ⟨(some 124), none, .val (.mv (.tmp 17))⟩),
    (.early, ⟨(some 125), none, .val (.indexAddr 9 (.tmp 123) (.tmp 124))⟩),
    (.early, ⟨(some 126), none, .val (.load 9 true (.tmp 125))⟩),
    (.early, ⟨(some 127), none, .val (.indexAddr 9 (.tmp 113) (.tmp 114))⟩),
    (.hard, ⟨none, none, .store 9 (.tmp 127) (.tmp 122)⟩),
    (.late, ⟨(some 128), none, .val (.indexAddr 9 (.tmp 115) (.tmp 117))⟩),
    (.hard, ⟨none, none, .store 9 (.tmp 128) (.tmp 126)⟩)] [113, 114, 115, 116, 117, 118, 119, 120, 121, 122, 123, 124, 125, 126, 127, 128]))
  (.region [
    ⟨(some 111), none, .val (.mv (.tmp 17))⟩,
    ⟨(some 112), none, .val (.bin .sub T.int (.tmp 111) (.const (.int 1)))⟩,
    ⟨(some 17), none, .val (.mv (.tmp 112))⟩] [111, 112]))))))
  .ret))))
  .skip))
  (.seq (.region [
    ⟨(some 129), none, .val (.mv (.tmp 1))⟩,
    ⟨(some 130), none, .val (.mv (.tmp 3))⟩,
    ⟨(some 131), none, .val (.bin .add T.int (.tmp 129) (.tmp 130))⟩,
    ⟨(some 132), none, .val (.toInt .u64 (.tmp 131))⟩,
    ⟨(some 133), none, .val (.bin .shr T.uint (.tmp 132) (.const (.val (.int .u64 1))))⟩,
    ⟨(some 134), none, .val (.toInt .i64 (.tmp 133))⟩,
    ⟨(some 18), none, .val (.mv (.tmp 134))⟩] [129, 130, 131, 132, 133, 134])
  (.seq (.region [
    ⟨(some 135), none, .val (.mv (.tmp 18))⟩,
    ⟨(some 136), none, .val (.mv (.tmp 2))⟩,
    ⟨(some 137), none, .val (.bin .add T.int (.tmp 135) (.tmp 136))⟩,
    ⟨(some 19), none, .val (.mv (.tmp 137))⟩] [135, 136, 137])
  (.seq (.region [
    ⟨(some 20), none, .val (.mv (.const (.int 0)))⟩,
    ⟨(some 21), none, .val (.mv (.const (.int 0)))⟩] [])
  (.seq (.seq (.region [
    ⟨(some 138), none, .val (.mv (.tmp 2))⟩,
    ⟨(some 139), none, .val (.mv (.tmp 18))⟩,
    ⟨(some 140), none, .val (.bin .gtr T.int (.tmp 138) (.tmp 139))⟩] [138, 139])
  (.cond (.tmp 140)
  (.seq (.region [
    ⟨(some 141), none, .val (.mv (.tmp 19))⟩,
    ⟨(some 142), none, .val (.mv (.tmp 3))⟩,
    ⟨(some 143), none, .val (.bin .sub T.int (.tmp 141) (.tmp 142))⟩,
    ⟨(some 20), none, .val (.mv (.tmp 143))⟩] [141, 142, 143])
  (.region [
    ⟨(some 144), none, .val (.mv (.tmp 18))⟩,
    ⟨(some 21), none, .val (.mv (.tmp 144))⟩] [144]))
  (.seq (.region [
    ⟨(some 145), none, .val (.mv (.tmp 1))⟩,
    ⟨(some 20), none, .val (.mv (.tmp 145))⟩] [145])
  (.region [
    ⟨(some 146), none, .val (.mv (.tmp 2))⟩,
    ⟨(some 21), none, .val (.mv (.tmp 146))⟩] [146]))))
  (.seq (.region [
    ⟨(some 147), none, .val (.mv (.tmp 19))⟩,
    ⟨(some 148), none, .val (.bin .sub T.int (.tmp 147) (.const (.int 1)))⟩,
    ⟨(some 22), none, .val (.mv (.tmp 148))⟩] [147, 148])
  (.seq (.block 8 (.loop (.seq (.seq (.region [
    ⟨(some 149), none, .val (.mv (.tmp 20))⟩,
    ⟨(some 150), none, .val (.mv (.tmp 21))⟩,
    ⟨(some 151), none, .val (.bin .lss T.int (.tmp 149) (.tmp 150))⟩] [149, 150])
  (.cond (.tmp 151)
  .skip
  (.exit 8)))
  (.block 9 (.seq (.region [
    ⟨(some 152), none, .val (.mv (.tmp 20))⟩,
    ⟨(some 153), none, .val (.mv (.tmp 21))⟩,
    ⟨(some 154), none, .val (.bin .add T.int (.tmp 152) (.tmp 153))⟩,
    ⟨(some 155), none, .val (.toInt .u64 (.tmp 154))⟩,
    ⟨(some 156), none, .val (.bin .shr T.uint (.tmp 155) (.const (.val (.int .u64 1))))⟩,
    ⟨(some 157), none, .val (.toInt .i64 (.tmp 156))⟩,
    ⟨(some 23), none, .val (.mv (.tmp 157))⟩] [152, 153, 154, 155, 156, 157])
  (.seq (.draw true [
    (.early, ⟨(some 158), none, .val (.mv (.tmp 4))⟩),
    (.early, ⟨(some 159), none, .val (.mv (.tmp 0))⟩),
    (.early, ⟨(some 160), none, .val (.mv (.tmp 22))⟩),
    (.early, ⟨(some 161), none, .val (.mv (.tmp 23))⟩),
    (.early, ⟨(some 162), none, .val (.bin .sub T.int (.tmp 160) (.tmp 161))⟩),
    (.early, ⟨(some 163), none, .val (.indexAddr 9 (.tmp 159) (.tmp 162))⟩),
    (.early, ⟨(some 164), none, .val (.load 9 true (.tmp 163))⟩),
    (.early, ⟨(some 165), none, .val (.mv (.tmp 0))⟩),
    (.early, ⟨(some 166), none, .val (.mv (.tmp 23))⟩),
    (.early, ⟨(some 167), none, .val (.indexAddr 9 (.tmp 165) (.tmp 166))⟩),
    (.early, ⟨(some 168), none, .val (.load 9 true (.tmp 167))⟩),
    (.hard, ⟨(some 169), none, .call (.tmp 158) [(.tmp 164), (.tmp 168)]⟩),
    (.late, ⟨(some 170), none, .val (.bin .lss T.int (.tmp 169) (.const (.int 0)))⟩),
    (.late, ⟨(some 171), none, .val (.un .not (.tmp 170))⟩)] [158, 159, 160, 161, 162, 163, 164, 165, 166, 167, 168, 169, 170])
  (.cond (.tmp 171)
  (.region [
    ⟨(some 172), none, .val (.mv (.tmp 23))⟩,
    ⟨(some 173), none, .val (.bin .add T.int (.tmp 172) (.const (.int 1)))⟩,
    ⟨(some 20), none, .val (.mv (.tmp 173))⟩] [172, 173])
  (.region [
    ⟨(some 174), none, .val (.mv (.tmp 23))⟩,
    ⟨(some 21), none, .val (.mv (.tmp 174))⟩] [174]))))))))
  (.seq (.region [
    ⟨(some 175), none, .val (.mv (.tmp 19))⟩,
    ⟨(some 176), none, .val (.mv (.tmp 20))⟩,
    ⟨(some 177), none, .val (.bin .sub T.int (.tmp 175) (.tmp 176))⟩,
    ⟨(some 24), none, .val (.mv (.tmp 177))⟩] [175, 176, 177])
  (.seq (.seq (.region [
    ⟨(some 178), none, .val (.mv (.tmp 20))⟩,
    ⟨(some 179), none, .val (.mv (.tmp 2))⟩,
    ⟨(some 180), none, .val (.bin .lss T.int (.tmp 178) (.tmp 179))⟩,
    ⟨(some 181), none, .val (.mv (.tmp 180))⟩,
    ⟨(some 182), (some (181, true)), .val (.mv (.tmp 2))⟩,
    ⟨(some 183), (some (181, true)), .val (.mv (.tmp 24))⟩,
    ⟨(some 184), (some (181, true)), .val (.bin .lss T.int (.tmp 182) (.tmp 183))⟩,
    ⟨(some 185), none, .val (.pick (.tmp 181) (.tmp 184) (.const (.bool false)))⟩] [178, 179, 180, 181, 182, 183, 184])
  (.cond (.tmp 185)
  (.region [
    ⟨(some 186), none, .val (.mv (.tmp 0))⟩,
    ⟨(some 187), none, .val (.mv (.tmp 20))⟩,
    ⟨(some 188), none, .val (.mv (.tmp 2))⟩,
    ⟨(some 189), none, .val (.mv (.tmp 24))⟩,
    ⟨(some 190), none, .val (.mv (.tmp 4))⟩,
    ⟨(some 191), none, .call (.const (.func (.func F.slices_rotateCmpFunc__apiEvent) [] [])) [(.tmp 186), (.tmp 187), (.tmp 188), (.tmp 189), (.tmp 190)]⟩] [186, 187, 188, 189, 190, 191])
  .skip))
  (.seq (.seq (.region [
    ⟨(some 192), none, .val (.mv (.tmp 1))⟩,
    ⟨(some 193), none, .val (.mv (.tmp 20))⟩,
    ⟨(some 194), none, .val (.bin .lss T.int (.tmp 192) (.tmp 193))⟩,
    ⟨(some 195), none, .val (.mv (.tmp 194))⟩,
    ⟨(some 196), (some (195, true)), .val (.mv (.tmp 20))⟩,
    ⟨(some 197), (some (195, true)), .val (.mv (.tmp 18))⟩,
    ⟨(some 198), (some (195, true)), .val (.bin .lss T.int (.tmp 196) (.tmp 197))⟩,
    ⟨(some 199), none, .val (.pick (.tmp 195) (.tmp 198) (.const (.bool false)))⟩] [192, 193, 194, 195, 196, 197, 198])
  (.cond (.tmp 199)
  (.region [
    ⟨(some 200), none, .val (.mv (.tmp 0))⟩,
    ⟨(some 201), none, .val (.mv (.tmp 1))⟩,
    ⟨(some 202), none, .val (.mv (.tmp 20))⟩,
    ⟨(some 203), none, .val (.mv (.tmp 18))⟩,
    ⟨(some 204), none, .val (.mv (.tmp 4))⟩,
    ⟨(some 205), none, .call (.const (.func (.func F.slices_symMergeCmpFunc__apiEvent) [] [])) [(.tmp 200), (.tmp 201), (.tmp 202), (.tmp 203), (.tmp 204)]⟩] [200, 201, 202, 203, 204, 205])
  .skip))
  (.seq (.region [
    ⟨(some 206), none, .val (.mv (.tmp 18))⟩,
    ⟨(some 207), none, .val (.mv (.tmp 24))⟩,
    ⟨(some 208), none, .val (.bin .lss T.int (.tmp 206) (.tmp 207))⟩,
    ⟨(some 209), none, .val (.mv (.tmp 208))⟩,
    ⟨(some 210), (some (209, true)), .val (.mv (.tmp 24))⟩,
    ⟨(some 211), (some (209, true)), .val (.mv (.tmp 3))⟩,
    ⟨(some 212), (some (209, true)), .val (.bin .lss T.int (.tmp 210) (.tmp 211))⟩,
    ⟨(some 213), none, .val (.pick (.tmp 209) (.tmp 212) (.const (.bool false)))⟩] [206, 207, 208, 209, 210, 211, 212])
  (.cond (.tmp 213)
  (.region [
    ⟨(some 214), none, .val (.mv (.tmp 0))⟩,
    ⟨(some 215), none, .val (.mv (.tmp 18))⟩,
    ⟨(some 216), none, .val (.mv (.tmp 24))⟩,
    ⟨(some 217), none, .val (.mv (.tmp 3))⟩,
    ⟨(some 218), none, .val (.mv (.tmp 4))⟩,
    ⟨(some 219), none, .call (.const (.func (.func F.slices_symMergeCmpFunc__apiEvent) [] [])) [(.tmp 214), (.tmp 215), (.tmp 216), (.tmp 217), (.tmp 218)]⟩] [214, 215, 216, 217, 218, 219])
  .skip)))))))))))))⟩
theorem H.slices_symMergeCmpFunc__apiEvent : Has P F.slices_symMergeCmpFunc__apiEvent C.slices_symMergeCmpFunc__apiEvent := ⟨Try.f71, Try.func71, by kernel_rfl, by kernel_rfl⟩

/-- slices.rotateCmpFunc[podium/api.Event] -/
noncomputable def C.slices_rotateCmpFunc__apiEvent : MFunc := ⟨58, 5, [],
  (.seq (.region [
    ⟨(some 12), none, .val (.mv (.tmp 2))⟩,
    ⟨(some 13), none, .val (.mv (.tmp 1))⟩,
    ⟨(some 14), none, .val (.bin .sub T.int (.tmp 12) (.tmp 13))⟩,
    ⟨(some 10), none, .val (.mv (.tmp 14))⟩] [12, 13, 14])
  (.seq (.region [
    ⟨(some 15), none, .val (.mv (.tmp 3))⟩,
    ⟨(some 16), none, .val (.mv (.tmp 2))⟩,
    ⟨(some 17), none, .val (.bin .sub T.int (.tmp 15) (.tmp 16))⟩,
    ⟨(some 11), none, .val (.mv (.tmp 17))⟩] [15, 16, 17])
  (.seq (.block 0 (.loop (.seq (.seq (.region [
    ⟨(some 18), none, .val (.mv (.tmp 10))⟩,
    ⟨(some 19), none, .val (.mv (.tmp 11))⟩,
    ⟨(some 20), none, .val (.bin .neq T.int (.tmp 18) (.tmp 19))⟩] [18, 19])
  (.cond (.tmp 20)
  .skip
  (.exit 0)))
  (.block 1 (.seq (.region [
    ⟨(some 21), none, .val (.mv (.tmp 10))⟩,
    ⟨(some 22), none, .val (.mv (.tmp 11))⟩,
    ⟨(some 23), none, .val (.bin .gtr T.int (.tmp 21) (.tmp 22))⟩] [21, 22])
  (.cond (.tmp 23)
  (.seq (.region [
    ⟨(some 24), none, .val (.mv (.tmp 0))⟩,
    ⟨(some 25), none, .val (.mv (.tmp 2))⟩,
    ⟨(some 26), none, .val (.mv (.tmp 10))⟩,
    ⟨(some 27), none, .val (.bin .sub T.int (.tmp 25) (.tmp 26))⟩,
    ⟨(some 28), none, .val (.mv (.tmp 2))⟩,
    ⟨(some 29), none, .val (.mv (.tmp 11))⟩,
    ⟨(some 30), none, .val (.mv (.tmp 4))⟩,
    ⟨(some 31), none, .call (.const (.func (.func F.slices_swapRangeCmpFunc__apiEvent) [] [])) [(.tmp 24), (.tmp 27), (.tmp 28), (.tmp 29), (.tmp 30)]⟩] [24, 25, 26, 27, 28, 29, 30, 31])
  (.region [
    ⟨(some 32), none, .val (.mv (.tmp 10))⟩,
    ⟨(some 33), none, .val (.mv (.tmp 11))⟩,
    ⟨(some 34), none, .val (.bin .sub T.int (.tmp 32) (.tmp 33))⟩,
    ⟨(some 10), none, .val (.mv (.tmp 34))⟩] [32, 33, 34]))
  (.seq (.region [
    ⟨(some 35), none, .val (.mv (.tmp 0))⟩,
    ⟨(some 36), none, .val (.mv (.tmp 2))⟩,
    ⟨(some 37), none, .val (.mv (.tmp 10))⟩,
    ⟨(some 38), none, .val (.bin .sub T.int (.tmp 36) (.tmp 37))⟩,
    ⟨(some 39), none, .val (.mv (.tmp 2))⟩,
    ⟨(some 40), none, .val (.mv (.tmp 11))⟩,
    ⟨(some 41), none, .val (.bin .add T.int (.tmp 39) (.tmp 40))⟩,
    ⟨(some 42), none, .val (.mv (.tmp 10))⟩,
    ⟨(some 43), none, .val (.bin .sub T.int (.tmp 41) (.tmp 42))⟩,
    ⟨(some 44), none, .val (.mv (.tmp 10))⟩,
    ⟨(some 45), none, .val (.mv (.tmp 4))⟩,
    ⟨(some 46), none, .call (.const (.func (.func F.slices_swapRangeCmpFunc__apiEvent) [] [])) [(.tmp 35), (.tmp 38), (.tmp 43), (.tmp 44), (.tmp 45)]⟩] [35, 36, 37, 38, 39, 40, 41, 42, 43, 44, 45, 46])
  (.region [
    ⟨(some 47), none, .val (.mv (.tmp 11))⟩,
    ⟨(some 48), none, .val (.mv (.tmp 10))⟩,
    ⟨(some 49), none, .val (.bin .sub T.int (.tmp 47) (.tmp 48))⟩,
    ⟨(some 11), none, .val (.mv (.tmp 49))⟩] [47, 48, 49]))))))))
  (.region [
    ⟨(some 50), none, .val (.mv (.tmp 0))⟩,
    ⟨(some 51), none, .val (.mv (.tmp 2))⟩,
    ⟨(some 52), none, .val (.mv (.tmp 10))⟩,
    ⟨(some 53), none, .val (.bin .sub T.int (.tmp 51) (.tmp 52))⟩,
    ⟨(some 54), none, .val (.mv (.tmp 2))⟩,
    ⟨(some 55), none, .val (.mv (.tmp 10))⟩,
    ⟨(some 56), none, .val (.mv (.tmp 4))⟩,
    ⟨(some 57), none, .call (.const (.func (.func F.slices_swapRangeCmpFunc__apiEvent) [] [])) [(.tmp 50), (.tmp 53), (.tmp 54), (.tmp 55), (.tmp 56)]⟩] [50, 51, 52, 53, 54, 55, 56, 57]))))⟩
theorem H.slices_rotateCmpFunc__apiEvent : Has P F.slices_rotateCmpFunc__apiEvent C.slices_rotateCmpFunc__apiEvent := ⟨Try.f73, Try.func73, by kernel_rfl, by kernel_rfl⟩

/-- slices.swapRangeCmpFunc[podium/api.Event] -/
noncomputable def C.slices_swapRangeCmpFunc__apiEvent : MFunc := ⟨38, 5, [],
  (.seq (.region [
    ⟨(some 10), none, .val (.mv (.const (.int 0)))⟩] [])
  (.block 0 (.loop (.seq (.seq (.region [
    ⟨(some 11), none, .val (.mv (.tmp 10))⟩,
    ⟨(some 12), none, .val (.mv (.tmp 3))⟩,
    ⟨(some 13), none, .val (.bin .lss T.int (.tmp 11) (.tmp 12))⟩] [11, 12])
  (.cond (.tmp 13)
  .skip
  (.exit 0)))
  (.seq (.block 1 (.draw true [
    (.early, ⟨(some 16), none, .val (.mv (.tmp 0))⟩),
    (.early, ⟨(some 17), none, .val (.mv (.tmp 1))⟩),
    (.early, ⟨(some 18), none, .val (.mv (.tmp 10))⟩),
    (.early, ⟨(some 19), none, .val (.bin .add T.int (.tmp 17) (.tmp 18))⟩),
    (.late, ⟨(some 20), none, .val (.mv (.tmp 0))⟩),
    (.late, ⟨(some 21), none, .val (.mv (.tmp 2))⟩),
    (.late, ⟨(some 22), none, .val (.mv (.tmp 10))⟩),
    (.late, ⟨(some 23), none, .val (.bin .add T.int (.tmp 21) (.tmp 22))⟩),
    (.early, ⟨(some 24), none, .val (.mv (.tmp 0))⟩),
    (.early, ⟨(some 25), none, .val (.mv (.tmp 2))⟩),
    (.early, ⟨(some 26), none, .val (.mv (.tmp 10))⟩),
    (.early, ⟨(some 27), none, .val (.bin .add T.int (.tmp 25) (.tmp 26))⟩),
    (.early, ⟨(some 28), none, .val (.indexAddr 9 (.tmp 24) (.tmp 27))⟩),
    (.early, ⟨(some 29), none, .val (.load 9 true (.tmp 28))⟩),
    (.early, ⟨(some 30), none, .val (.mv (.tmp 0))⟩),
    (.early, ⟨(some 31), none, .val (.mv (.tmp 1))⟩),
    (.early, ⟨(some 32), none, .val (.mv (.tmp 10))⟩),
    (.early, ⟨(some 33), none, .val (.bin .add T.int (.tmp 31) (.tmp 32))⟩),
    (.early, ⟨(some 34), none, .val (.indexAddr 9 (.tmp 30) (.tmp 33))⟩),
    (.early, ⟨(some 35), none, .val (.load 9 true (.tmp 34))⟩),
    (.early, ⟨(some 36), none, .val (.indexAddr 9 (.tmp 16) (.tmp 19))⟩),
    (.hard, ⟨none, none, .store 9 (.tmp 36) (.tmp 29)⟩),
    (.late, ⟨(some 37), none, .val (.indexAddr 9 (.tmp 20) (.tmp 23))⟩),
    (.hard, ⟨none, none, .store 9 (.tmp 37) (.tmp 35)⟩)] [16, 17, 18, 19, 20, 21, 22, 23, 24, 25, 26, 27, 28, 29, 30, 31, 32, 33, 34, 35, 36, 37]))
  (.region [
    ⟨(some 14), none, .val (.mv (.tmp 10))⟩,
    ⟨(some 15), none, .val (.bin .add T.int (.tmp 14) (.const (.int 1)))⟩,
    ⟨(some 10), none, .val (.mv (.tmp 15))⟩] [14, 15]))))))⟩
theorem H.slices_swapRangeCmpFunc__apiEvent : Has P F.slices_swapRangeCmpFunc__apiEvent C.slices_swapRangeCmpFunc__apiEvent := ⟨Try.f75, Try.func75, by kernel_rfl, by kernel_rfl⟩

end Go.Proofs.Ythkjdppifnmakaa
