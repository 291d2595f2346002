/- The compact code of this seat's functions (printed by a program of ours out of the translation; each is checked against the loaded program). -/
import Derived.Test.YtgjgcflgjpigpaaProg
import Derived.Test.YtgjgcflgjpigpaaLRd
set_option maxRecDepth 100000
namespace Go.Proofs.Ytgjgcflgjpigpaa
open Go.Pv

noncomputable abbrev P : Program := Try.prog
theorem hmix : P.follows .mixedOrders = true := by kernel_rfl

namespace T
abbrev t : Nat := 0
abbrev func : Nat := 1
abbrev int64 : Nat := 2
abbrev int : Nat := 3
abbrev bool : Nat := 4
abbrev uint8 : Nat := 5
abbrev internalabiBoundsErrorCode : Nat := 6
abbrev structxint64yintsignedboolcodeabiBoundsErrorCode : Nat := 7
abbrev runtimeboundsError : Nat := 8
abbrev string : Nat := 9
abbrev runtimeerrorString : Nat := 10
abbrev runtimeplainError : Nat := 11
abbrev uintptr : Nat := 12
abbrev structmsgstringaddruintptr : Nat := 13
abbrev runtimeerrorAddressString : Nat := 14
abbrev runtimeTypeAssertionError : Nat := 15
abbrev runtimePanicNilError : Nat := 16
abbrev abiType : Nat := 17
abbrev structtypabiType : Nat := 18
abbrev internalruntimemapsunhashableTypeError : Nat := 19
abbrev interface : Nat := 20
abbrev int32 : Nat := 21
abbrev Lint : Nat := 22
abbrev LapiPlace : Nat := 23
abbrev LLint : Nat := 24
abbrev funcbool : Nat := 25
abbrev funcLLintbool : Nat := 26
abbrev apiErrno : Nat := 27
abbrev LintapiErrno : Nat := 28
abbrev funcLintLapiPlaceLintapiErrno : Nat := 29
abbrev funcLLintintLintapiErrno : Nat := 30
abbrev funcLintLintbool : Nat := 31
abbrev funcLintLapiPlaceLLintintbool : Nat := 32
abbrev LapiRecord : Nat := 33
abbrev funcLapiRecordbool : Nat := 34
abbrev LapiRecordapiErrno : Nat := 35
abbrev funcLapiRecordLapiRecordapiErrno : Nat := 36
abbrev funcLapiRecordLapiRecordbool : Nat := 37
abbrev funcLLintuint8bool : Nat := 38
abbrev funcLapiPlaceapiErrno : Nat := 39
abbrev structEntryintRankintByint : Nat := 40
abbrev apiPlace : Nat := 41
abbrev funcLintLapiPlacebool : Nat := 42
abbrev funcLintintuint8uint8bool : Nat := 43
abbrev structNegboolMagLint : Nat := 44
abbrev apiBig : Nat := 45
abbrev structNumapiBigDenapiBig : Nat := 46
abbrev apiRatio : Nat := 47
abbrev structNointEntryintAtintScoreapiRatio : Nat := 48
abbrev apiRecord : Nat := 49
abbrev intapiErrno : Nat := 50
abbrev funcapiRatioapiRatiointapiErrno : Nat := 51
abbrev funcLapiRecordintbool : Nat := 52
abbrev funcintintintapiRecord : Nat := 53
abbrev funcLintfuncintintintbool : Nat := 54
abbrev funcintintint : Nat := 55
abbrev funcLintbool : Nat := 56
abbrev funcintbool : Nat := 57
abbrev funcLLintfuncLintboolbool : Nat := 58
abbrev funcintintintbool : Nat := 59
abbrev funcLintintint : Nat := 60
abbrev funcLintintLint : Nat := 61
abbrev funcapiRatiointbool : Nat := 62
abbrev funcapiRecordintbool : Nat := 63
abbrev structeapiErrno : Nat := 64
abbrev seasonbook : Nat := 65
abbrev funcapiRecordapiRecordbool : Nat := 66
abbrev funcLapiRecordLapiRecord : Nat := 67
abbrev funcLapiRecordfuncapiRecordapiRecordint : Nat := 68
abbrev funcapiRecordapiRecordint : Nat := 69
abbrev funciterSeqapiRecordLapiRecord : Nat := 70
abbrev funcfuncapiRecordbool : Nat := 71
abbrev iterSeqapiRecord : Nat := 72
abbrev funcLapiRecordfuncapiRecordapiRecordbooliterSeqapiRecord : Nat := 73
abbrev funcapiRatioapiRatiobool : Nat := 74
abbrev funcapiRatioapiErrno : Nat := 75
abbrev funcapiErrno : Nat := 76
abbrev apiErrno_2 : Nat := 77
abbrev funcapiRatio : Nat := 78
abbrev LapiBig : Nat := 79
abbrev funcapiBigLapiBig : Nat := 80
abbrev funcintapiErrnoint : Nat := 81
abbrev funcapiBigapiBigintapiErrno : Nat := 82
abbrev funcintapiRatio : Nat := 83
abbrev funcLintfuncintboolbool : Nat := 84
abbrev mapintbool : Nat := 85
abbrev funcLLintfuncLintboolint : Nat := 86
abbrev funcapiBigintbool : Nat := 87
abbrev seasonbook_2 : Nat := 88
abbrev funcLapiRecordintfuncapiRecordapiRecordint : Nat := 89
abbrev funcLapiRecorditerSeqapiRecordLapiRecord : Nat := 90
abbrev funcapiRecordbool : Nat := 91
abbrev apiBigapiBigapiErrno : Nat := 92
abbrev funcapiRatioapiRatioapiBigapiBigapiErrno : Nat := 93
abbrev funcapiBigapiBigbool : Nat := 94
abbrev funcapiBigapiErrno : Nat := 95
abbrev funcapiBigbool : Nat := 96
abbrev apiBigapiErrno : Nat := 97
abbrev funcapiBigapiBigapiBigapiErrno : Nat := 98
abbrev funcintapiBig : Nat := 99
abbrev LapiRatio : Nat := 100
abbrev funcboolapiErrno : Nat := 101
abbrev funcapiBigapiErrnoapiBig : Nat := 102
abbrev funcapiBig : Nat := 103
abbrev funcnatdigitsnatdigitsint : Nat := 104
abbrev funcLintfuncintboolint : Nat := 105
abbrev funcLapiRecordintintfuncapiRecordapiRecordint : Nat := 106
abbrev funcLapiRecordintintintfuncapiRecordapiRecordint : Nat := 107
abbrev funcapiBigapiBigapiErrno : Nat := 108
abbrev funcLintLintint : Nat := 109
abbrev LintLint : Nat := 110
abbrev funcLintLintLintLint : Nat := 111
abbrev funcboolLintapiBigapiErrno : Nat := 112
abbrev funcboolnatdigitsapiBig : Nat := 113
abbrev natdigits : Nat := 114
abbrev funcnatdigitsnatdigitsnatdigits : Nat := 115
abbrev apiErrnobool : Nat := 116
abbrev funcfuncintintbool : Nat := 117
abbrev iterSeq2intint : Nat := 118
abbrev funcnatdigitsiterSeq2intint : Nat := 119
abbrev natdigitsnatdigits : Nat := 120
abbrev funcnatdigitsnatdigitsnatdigitsnatdigits : Nat := 121
abbrev uint : Nat := 122
abbrev funcLintLintLint : Nat := 123
abbrev funcLintLint : Nat := 124
abbrev funcnatdigitsnatdigits : Nat := 125
abbrev natdigitsint : Nat := 126
abbrev funcnatdigitsintnatdigitsint : Nat := 127
abbrev funcintintbool : Nat := 128
abbrev funcuint64int : Nat := 129
abbrev uint64 : Nat := 130
abbrev funcnatdigitsintnatdigits : Nat := 131
abbrev funcintfuncintintnatdigits : Nat := 132
abbrev funcnatdigitsintint : Nat := 133
abbrev funcintint : Nat := 134
abbrev funcstring : Nat := 135
abbrev structinterfaceabiTypeconcreteabiTypeassertedabiTypemissingMethodstring : Nat := 136
abbrev runtimeTypeAssertionError_2 : Nat := 137
abbrev t0runtimePanicNilError : Nat := 138
abbrev struct0runtimePanicNilError : Nat := 139
abbrev runtimePanicNilError_2 : Nat := 140
abbrev funcint : Nat := 141
abbrev uint32 : Nat := 142
abbrev internalabiTFlag : Nat := 143
abbrev internalabiKind : Nat := 144
abbrev funcunsafePointerunsafePointerbool : Nat := 145
abbrev uint8_2 : Nat := 146
abbrev internalabiNameOff : Nat := 147
abbrev internalabiTypeOff : Nat := 148
abbrev structSizeuintptrPtrBytesuintptrHashuint32TFlagabiTFlagAlignuint8FieldAlignuint8KindabiKindEqualfuncunsafePointerunsafePointerboolGCDatauint8StrabiNameOffPtrToThisabiTypeOff : Nat := 149
abbrev internalabiType : Nat := 150
abbrev unsafePointer : Nat := 151
end T
namespace F
abbrev podiumlaw26_SeasonSpec : Nat := 3
abbrev podiumlaw26_SeasonRecordsSpec : Nat := 4
abbrev podiumlaw26_SeasonBest : Nat := 5
abbrev podiumlaw26_SeasonRanks : Nat := 6
abbrev podiumlaw26_SeasonMore : Nat := 7
abbrev podiumlaw26_SeasonRising : Nat := 8
abbrev podiumlaw26_sane : Nat := 9
abbrev podiumref26_FewPoints : Nat := 10
abbrev season_Points : Nat := 11
abbrev podiumref26_Points : Nat := 12
abbrev season_Total : Nat := 13
abbrev podiumref26_Total : Nat := 14
abbrev podiumref26_SameInts : Nat := 15
abbrev podiumref26_Few : Nat := 16
abbrev season_Records : Nat := 17
abbrev podiumref26_Records : Nat := 18
abbrev podiumref26_Same : Nat := 19
abbrev podiumref23_Check : Nat := 20
abbrev podiumref26_Listed : Nat := 21
abbrev ratio_Cmp : Nat := 22
abbrev podiumlaw26_score : Nat := 23
abbrev slices_IsSortedFunc__Lint_int : Nat := 24
abbrev season_Points_1 : Nat := 25
abbrev cmp_Compare__int : Nat := 26
abbrev season_amounts : Nat := 27
abbrev standing_Check : Nat := 28
abbrev podiumref26_amount : Nat := 29
abbrev slices_ContainsFunc__LLint_Lint : Nat := 30
abbrev season_Total_1 : Nat := 31
abbrev season_between : Nat := 32
abbrev season_Total_2 : Nat := 33
abbrev season_greatest : Nat := 34
abbrev podiumref26_put : Nat := 35
abbrev podiumref10_Few : Nat := 36
abbrev season_right : Nat := 37
abbrev Pseason_book_less : Nat := 38
abbrev slices_Clone__LapiRecord_apiRecord : Nat := 39
abbrev slices_SortStableFunc__LapiRecord_apiRecord : Nat := 40
abbrev season_Records_1 : Nat := 41
abbrev slices_Collect__apiRecord : Nat := 42
abbrev season_records : Nat := 43
abbrev podiumref10_Cmp : Nat := 44
abbrev podiumref10_Same : Nat := 45
abbrev podiumref10_Check : Nat := 46
abbrev ratio_caught : Nat := 47
abbrev ratio_valid : Nat := 48
abbrev ratio_products : Nat := 49
abbrev ratio_did__int : Nat := 50
abbrev nat_Cmp : Nat := 51
abbrev podiumref10_Int : Nat := 52
abbrev cmp_isNaN__int : Nat := 53
abbrev slices_ContainsFunc__Lint_int : Nat := 54
abbrev season_amounts_1 : Nat := 55
abbrev slices_IndexFunc__LLint_Lint : Nat := 56
abbrev podiumref10_FewBig : Nat := 57
abbrev ratio_Check : Nat := 58
abbrev slices_stableCmpFunc__apiRecord : Nat := 59
abbrev slices_AppendSeq__LapiRecord_apiRecord : Nat := 60
abbrev season_records_1 : Nat := 61
abbrev podiumref10_valid : Nat := 62
abbrev podiumref10_cross : Nat := 63
abbrev podiumref09_Cmp : Nat := 64
abbrev podiumref10_SameBig : Nat := 65
abbrev podiumref09_Check : Nat := 66
abbrev podiumref10_zero : Nat := 67
abbrev podiumref09_Gcd : Nat := 68
abbrev podiumref09_Make : Nat := 69
abbrev ratio_need : Nat := 70
abbrev ratio_did__apiBig : Nat := 71
abbrev nat_Mul : Nat := 72
abbrev nat_caught : Nat := 73
abbrev nat_check : Nat := 74
abbrev nat_compare : Nat := 75
abbrev slices_IndexFunc__Lint_int : Nat := 76
abbrev nat_Check : Nat := 77
abbrev ratio_positive : Nat := 78
abbrev nat_Gcd : Nat := 79
abbrev slices_insertionSortCmpFunc__apiRecord : Nat := 80
abbrev slices_symMergeCmpFunc__apiRecord : Nat := 81
abbrev podiumref09_Mul : Nat := 82
abbrev podiumref09_two : Nat := 83
abbrev podiumref09_cmp : Nat := 84
abbrev podiumref09_divide : Nat := 85
abbrev podiumref09_of : Nat := 86
abbrev nat_big : Nat := 87
abbrev nat_mul : Nat := 88
abbrev nat_down : Nat := 89
abbrev nat_Check_1 : Nat := 90
abbrev nat_div : Nat := 91
abbrev slices_rotateCmpFunc__apiRecord : Nat := 92
abbrev podiumref09_times : Nat := 93
abbrev podiumref09_trim : Nat := 94
abbrev podiumref09_less : Nat := 95
abbrev nat_trim : Nat := 96
abbrev slices_Backward__natdigits_int : Nat := 97
abbrev nat_short : Nat := 98
abbrev nat_long : Nat := 99
abbrev slices_swapRangeCmpFunc__apiRecord : Nat := 100
abbrev podiumref09_digit : Nat := 101
abbrev slices_Backward__natdigits_int_1 : Nat := 102
abbrev math_bits_LeadingZeros64 : Nat := 103
abbrev nat_moved : Nat := 104
abbrev math_bits_Len64 : Nat := 105
abbrev nat_carried : Nat := 106
abbrev nat_moved_1 : Nat := 107
abbrev nat_at : Nat := 108
end F

/-- podium/podiumlaw26.sane -/
noncomputable def C.podiumlaw26_sane : MFunc := ⟨108, 0, [.tmp 0],
 (.seq (.region [
 ⟨some 0, none, .val (.mv (.const (.bool false)))⟩] [])
 (.seq (.region [
 ⟨some 17, none, .val (.build [(.int 0), (.int 0), (.int 0)] [(0, 1, (.const (.int 0))), (1, 1, (.const (.int 1))), (2, 1, (.const (.int (-1))))])⟩,
 ⟨some 18, none, .val (.build [(.int 0), (.int 0), (.int 0)] [(0, 1, (.const (.int 1))), (1, 1, (.const (.int 2)))])⟩,
 ⟨some 19, none, .val (.build [(.int 0), (.int 0), (.int 0)] [(0, 1, (.const (.int 2))), (1, 1, (.const (.int 2))), (2, 1, (.const (.int (-1))))])⟩,
 ⟨some 20, none, .val (.build [(.int 0), (.int 0), (.int 0)] [(0, 1, (.const (.int 3))), (1, 1, (.const (.int 4)))])⟩,
 ⟨some 21, none, .val (.buildSlice T.apiPlace 4 [(.int 0), (.int 0), (.int 0), (.int 0), (.int 0), (.int 0), (.int 0), (.int 0), (.int 0), (.int 0), (.int 0), (.int 0)] [(0, 3, (.tmp 17)), (3, 3, (.tmp 18)), (6, 3, (.tmp 19)), (9, 3, (.tmp 20))])⟩,
 ⟨some 1, none, .val (.mv (.tmp 21))⟩] [17, 18, 19, 20, 21])
 (.seq (.region [
 ⟨some 23, none, .val (.buildSlice T.int 3 [(.int 0), (.int 0), (.int 0)] [(0, 1, (.const (.int 10))), (1, 1, (.const (.int 6))), (2, 1, (.const (.int 3)))])⟩,
 ⟨some 24, none, .val (.mv (.tmp 1))⟩,
 ⟨some 25, none, .call (.const (.func (.func F.season_Points) [] [])) [(.tmp 23), (.tmp 24)]⟩,
 ⟨some 22, none, .val (.mv (.tmp 25))⟩,
 ⟨some 26, none, .val (.extract 0 (.tmp 22))⟩,
 ⟨some 27, none, .val (.extract 1 (.tmp 22))⟩,
 ⟨some 2, none, .val (.mv (.tmp 26))⟩,
 ⟨some 3, none, .val (.mv (.tmp 27))⟩] [23, 24, 25, 22, 26, 27])
 (.seq (.region [
 ⟨some 29, none, .val (.buildSlice T.int 2 [(.int 0), (.int 0)] [(0, 1, (.const (.int 3))), (1, 1, (.const (.int 5)))])⟩,
 ⟨some 30, none, .call (.const (.func (.func F.season_Points) [] [])) [(.tmp 29), (.const .nil)]⟩,
 ⟨some 28, none, .val (.mv (.tmp 30))⟩,
 ⟨some 31, none, .val (.extract 0 (.tmp 28))⟩,
 ⟨some 32, none, .val (.extract 1 (.tmp 28))⟩,
 ⟨some 4, none, .val (.mv (.tmp 31))⟩,
 ⟨some 5, none, .val (.mv (.tmp 32))⟩] [29, 30, 28, 31, 32, 4])
 (.seq (.region [
 ⟨some 34, none, .call (.const (.func (.func F.season_Total) [] [])) [(.const .nil), (.const (.int 65))]⟩,
 ⟨some 33, none, .val (.mv (.tmp 34))⟩,
 ⟨some 35, none, .val (.extract 0 (.tmp 33))⟩,
 ⟨some 36, none, .val (.extract 1 (.tmp 33))⟩,
 ⟨some 6, none, .val (.mv (.tmp 35))⟩,
 ⟨some 7, none, .val (.mv (.tmp 36))⟩] [34, 33, 35, 36, 6])
 (.seq (.region [
 ⟨some 38, none, .val (.buildSlice T.int 3 [(.int 0), (.int 0), (.int 0)] [(0, 1, (.const (.int 4))), (1, 1, (.const (.int 9))), (2, 1, (.const (.int 7)))])⟩,
 ⟨some 39, none, .val (.buildSlice T.int 0 [] [])⟩,
 ⟨some 40, none, .val (.buildSlice T.Lint 2 [.nil, .nil] [(0, 1, (.tmp 38)), (1, 1, (.tmp 39))])⟩,
 ⟨some 41, none, .call (.const (.func (.func F.season_Total) [] [])) [(.tmp 40), (.const (.int 2))]⟩,
 ⟨some 37, none, .val (.mv (.tmp 41))⟩,
 ⟨some 42, none, .val (.extract 0 (.tmp 37))⟩,
 ⟨some 43, none, .val (.extract 1 (.tmp 37))⟩,
 ⟨some 8, none, .val (.mv (.tmp 42))⟩,
 ⟨some 9, none, .val (.mv (.tmp 43))⟩] [38, 39, 40, 41, 37, 42, 43])
 (.seq (.region [
 ⟨some 45, none, .call (.const (.func (.func F.podiumlaw26_score) [] [])) [(.const (.int 1)), (.const (.int 3)), (.const (.int 5))]⟩,
 ⟨some 46, none, .call (.const (.func (.func F.podiumlaw26_score) [] [])) [(.const (.int 2)), (.const (.int 1)), (.const (.int 7))]⟩,
 ⟨some 47, none, .call (.const (.func (.func F.podiumlaw26_score) [] [])) [(.const (.int 4)), (.const (.int 8)), (.const (.int 9))]⟩,
 ⟨some 48, none, .val (.buildSlice T.apiRecord 3 [(.int 0), (.int 0), (.int 0), (.bool false), .nil, (.bool false), .nil, (.int 0), (.int 0), (.int 0), (.bool false), .nil, (.bool false), .nil, (.int 0), (.int 0), (.int 0), (.bool false), .nil, (.bool false), .nil] [(0, 7, (.tmp 45)), (7, 7, (.tmp 46)), (14, 7, (.tmp 47))])⟩,
 ⟨some 49, none, .call (.const (.func (.func F.season_Records) [] [])) [(.tmp 48)]⟩,
 ⟨some 44, none, .val (.mv (.tmp 49))⟩,
 ⟨some 50, none, .val (.extract 0 (.tmp 44))⟩,
 ⟨some 51, none, .val (.extract 1 (.tmp 44))⟩,
 ⟨some 10, none, .val (.mv (.tmp 50))⟩,
 ⟨some 11, none, .val (.mv (.tmp 51))⟩] [45, 46, 47, 48, 49, 44, 50, 51])
 (.seq (.region [
 ⟨some 53, none, .call (.const (.func (.func F.podiumlaw26_score) [] [])) [(.const (.int 1)), (.const (.int 3)), (.const (.int 5))]⟩,
 ⟨some 54, none, .call (.const (.func (.func F.podiumlaw26_score) [] [])) [(.const (.int 1)), (.const (.int 4)), (.const (.int 6))]⟩,
 ⟨some 55, none, .val (.buildSlice T.apiRecord 2 [(.int 0), (.int 0), (.int 0), (.bool false), .nil, (.bool false), .nil, (.int 0), (.int 0), (.int 0), (.bool false), .nil, (.bool false), .nil] [(0, 7, (.tmp 53)), (7, 7, (.tmp 54))])⟩,
 ⟨some 56, none, .call (.const (.func (.func F.season_Records) [] [])) [(.tmp 55)]⟩,
 ⟨some 52, none, .val (.mv (.tmp 56))⟩,
 ⟨some 57, none, .val (.extract 0 (.tmp 52))⟩,
 ⟨some 58, none, .val (.extract 1 (.tmp 52))⟩,
 ⟨some 12, none, .val (.mv (.tmp 57))⟩,
 ⟨some 13, none, .val (.mv (.tmp 58))⟩] [53, 54, 55, 56, 52, 57, 58, 12])
 (.seq (.region [
 ⟨some 60, none, .mkSlice T.apiRecord 88 7 [(.int 0), (.int 0), (.int 0), (.bool false), .nil, (.bool false), .nil] (.const (.int 4097)) (.const (.int 4097))⟩,
 ⟨some 61, none, .call (.const (.func (.func F.season_Records) [] [])) [(.tmp 60)]⟩,
 ⟨some 59, none, .val (.mv (.tmp 61))⟩,
 ⟨some 62, none, .val (.extract 0 (.tmp 59))⟩,
 ⟨some 63, none, .val (.extract 1 (.tmp 59))⟩,
 ⟨some 14, none, .val (.mv (.tmp 62))⟩,
 ⟨some 15, none, .val (.mv (.tmp 63))⟩] [60, 61, 59, 62, 63, 14])
 (.seq (.region [
 ⟨some 64, none, .val (.mv (.tmp 3))⟩,
 ⟨some 65, none, .val (.bin .eql T.apiErrno (.tmp 64) (.const (.int 0)))⟩,
 ⟨some 66, none, .val (.mv (.tmp 65))⟩,
 ⟨some 67, some (66, true), .val (.mv (.tmp 5))⟩,
 ⟨some 68, some (66, true), .val (.bin .eql T.apiErrno (.tmp 67) (.const (.int 260)))⟩,
 ⟨some 69, none, .val (.pick (.tmp 66) (.tmp 68) (.const (.bool false)))⟩,
 ⟨some 70, none, .val (.mv (.tmp 69))⟩,
 ⟨some 71, some (70, true), .val (.mv (.tmp 7))⟩,
 ⟨some 72, some (70, true), .val (.bin .eql T.apiErrno (.tmp 71) (.const (.int 260)))⟩,
 ⟨some 73, none, .val (.pick (.tmp 70) (.tmp 72) (.const (.bool false)))⟩,
 ⟨some 74, none, .val (.mv (.tmp 73))⟩,
 ⟨some 75, some (74, true), .val (.mv (.tmp 9))⟩,
 ⟨some 76, some (74, true), .val (.bin .eql T.apiErrno (.tmp 75) (.const (.int 0)))⟩,
 ⟨some 77, none, .val (.pick (.tmp 74) (.tmp 76) (.const (.bool false)))⟩,
 ⟨some 78, none, .val (.mv (.tmp 77))⟩,
 ⟨some 79, some (78, true), .val (.mv (.tmp 11))⟩,
 ⟨some 80, some (78, true), .val (.bin .eql T.apiErrno (.tmp 79) (.const (.int 0)))⟩,
 ⟨some 81, none, .val (.pick (.tmp 78) (.tmp 80) (.const (.bool false)))⟩,
 ⟨some 82, none, .val (.mv (.tmp 81))⟩,
 ⟨some 83, some (82, true), .val (.mv (.tmp 13))⟩,
 ⟨some 84, some (82, true), .val (.bin .eql T.apiErrno (.tmp 83) (.const (.int 260)))⟩,
 ⟨some 85, none, .val (.pick (.tmp 82) (.tmp 84) (.const (.bool false)))⟩,
 ⟨some 86, none, .val (.mv (.tmp 85))⟩,
 ⟨some 87, some (86, true), .val (.mv (.tmp 15))⟩,
 ⟨some 88, some (86, true), .val (.bin .eql T.apiErrno (.tmp 87) (.const (.int 2)))⟩,
 ⟨some 89, none, .val (.pick (.tmp 86) (.tmp 88) (.const (.bool false)))⟩,
 ⟨some 16, none, .val (.mv (.tmp 89))⟩] [64, 65, 66, 67, 68, 69, 70, 71, 72, 73, 74, 75, 76, 77, 78, 79, 80, 81, 82, 83, 84, 85, 86, 87, 88, 89])
 (.seq (.region [
 ⟨some 90, none, .val (.mv (.tmp 16))⟩,
 ⟨some 91, none, .val (.mv (.tmp 90))⟩,
 ⟨some 92, some (91, true), .val (.mv (.tmp 2))⟩,
 ⟨some 93, some (91, true), .val (.buildSlice T.int 4 [(.int 0), (.int 0), (.int 0), (.int 0)] [(0, 1, (.const (.int 10))), (1, 1, (.const (.int 6))), (2, 1, (.const (.int 6))), (3, 1, (.const (.int 0)))])⟩,
 ⟨some 94, some (91, true), .call (.const (.func (.func F.podiumref26_SameInts) [] [])) [(.tmp 92), (.tmp 93)]⟩,
 ⟨some 95, none, .val (.pick (.tmp 91) (.tmp 94) (.const (.bool false)))⟩,
 ⟨some 96, none, .val (.mv (.tmp 95))⟩,
 ⟨some 97, some (96, true), .val (.mv (.tmp 8))⟩,
 ⟨some 98, some (96, true), .val (.buildSlice T.int 2 [(.int 0), (.int 0)] [(0, 1, (.const (.int 16))), (1, 1, (.const (.int 0)))])⟩,
 ⟨some 99, some (96, true), .call (.const (.func (.func F.podiumref26_SameInts) [] [])) [(.tmp 97), (.tmp 98)]⟩,
 ⟨some 100, none, .val (.pick (.tmp 96) (.tmp 99) (.const (.bool false)))⟩,
 ⟨some 101, none, .val (.mv (.tmp 100))⟩,
 ⟨some 102, some (101, true), .val (.mv (.tmp 10))⟩,
 ⟨some 103, some (101, true), .call (.const (.func (.func F.podiumlaw26_score) [] [])) [(.const (.int 2)), (.const (.int 1)), (.const (.int 7))]⟩,
 ⟨some 104, some (101, true), .call (.const (.func (.func F.podiumlaw26_score) [] [])) [(.const (.int 4)), (.const (.int 8)), (.const (.int 9))]⟩,
 ⟨some 105, some (101, true), .val (.buildSlice T.apiRecord 2 [(.int 0), (.int 0), (.int 0), (.bool false), .nil, (.bool false), .nil, (.int 0), (.int 0), (.int 0), (.bool false), .nil, (.bool false), .nil] [(0, 7, (.tmp 103)), (7, 7, (.tmp 104))])⟩,
 ⟨some 106, some (101, true), .call (.const (.func (.func F.podiumref26_Same) [] [])) [(.tmp 102), (.tmp 105)]⟩,
 ⟨some 107, none, .val (.pick (.tmp 101) (.tmp 106) (.const (.bool false)))⟩,
 ⟨some 0, none, .val (.mv (.tmp 107))⟩] [90, 91, 92, 93, 94, 95, 96, 97, 98, 99, 100, 101, 102, 103, 104, 105, 106, 107])
  .ret)))))))))))⟩
theorem H.podiumlaw26_sane : Has P F.podiumlaw26_sane C.podiumlaw26_sane := ⟨Try.f9, Try.func9, by kernel_rfl, by kernel_rfl⟩

/-- podium/podiumref26.FewPoints -/
noncomputable def C.podiumref26_FewPoints : MFunc := ⟨33, 1, [.tmp 2],
 (.seq (.region [
 ⟨some 2, none, .val (.mv (.const (.bool false)))⟩] [])
 (.seq (.seq (.region [
 ⟨some 4, none, .val (.mv (.tmp 0))⟩,
 ⟨some 5, none, .val (.len (.tmp 4))⟩,
 ⟨some 6, none, .val (.bin .gtr T.int (.tmp 5) (.const (.int 20)))⟩,
 ⟨some 7, none, .val (.mv (.tmp 6))⟩,
 ⟨some 8, some (7, true), .val (.mv (.tmp 0))⟩,
 ⟨some 9, some (7, true), .val (.len (.tmp 8))⟩,
 ⟨some 10, some (7, true), .val (.bin .leq T.int (.tmp 9) (.const (.int 4096)))⟩,
 ⟨some 11, none, .val (.pick (.tmp 7) (.tmp 10) (.const (.bool false)))⟩,
 ⟨some 12, none, .val (.mv (.tmp 11))⟩,
 ⟨some 13, some (12, false), .val (.mv (.tmp 0))⟩,
 ⟨some 14, some (12, false), .val (.len (.tmp 13))⟩,
 ⟨some 15, some (12, false), .val (.bin .gtr T.int (.tmp 14) (.const (.int 5000)))⟩,
 ⟨some 16, none, .val (.pick (.tmp 12) (.const (.bool true)) (.tmp 15))⟩] [4, 5, 6, 7, 8, 9, 10, 11, 12, 13, 14, 15])
 (.cond (.tmp 16)
 (.seq (.region [
 ⟨some 2, none, .val (.mv (.const (.bool false)))⟩] [])
  .ret)
  .skip))
 (.seq (.seq (.region [
 ⟨some 3, none, .val (.mv (.const (.int 0)))⟩] [])
 (.block 0 (.loop (.seq (.seq (.region [
 ⟨some 17, none, .val (.mv (.tmp 3))⟩,
 ⟨some 18, none, .val (.mv (.tmp 0))⟩,
 ⟨some 19, none, .val (.len (.tmp 18))⟩,
 ⟨some 20, none, .val (.bin .lss T.int (.tmp 17) (.tmp 19))⟩,
 ⟨some 21, none, .val (.mv (.tmp 20))⟩,
 ⟨some 22, some (21, true), .val (.mv (.tmp 3))⟩,
 ⟨some 23, some (21, true), .val (.bin .lss T.int (.tmp 22) (.const (.int 30)))⟩,
 ⟨some 24, none, .val (.pick (.tmp 21) (.tmp 23) (.const (.bool false)))⟩] [17, 18, 19, 20, 21, 22, 23])
 (.cond (.tmp 24)
  .skip
 (.exit 0)))
 (.seq (.block 1 (.seq (.region [
 ⟨some 27, none, .val (.mv (.tmp 0))⟩,
 ⟨some 28, none, .val (.mv (.tmp 3))⟩,
 ⟨some 29, none, .val (.indexAddr 1 (.tmp 27) (.tmp 28))⟩,
 ⟨some 30, none, .val (.load 1 false (.tmp 29))⟩,
 ⟨some 31, none, .val (.len (.tmp 30))⟩,
 ⟨some 32, none, .val (.bin .gtr T.int (.tmp 31) (.const (.int 70)))⟩] [27, 28, 29, 30, 31])
 (.cond (.tmp 32)
 (.seq (.region [
 ⟨some 2, none, .val (.mv (.const (.bool false)))⟩] [])
  .ret)
  .skip)))
 (.region [
 ⟨some 25, none, .val (.mv (.tmp 3))⟩,
 ⟨some 26, none, .val (.bin .add T.int (.tmp 25) (.const (.int 1)))⟩,
 ⟨some 3, none, .val (.mv (.tmp 26))⟩] [25, 26]))))))
 (.seq (.region [
 ⟨some 2, none, .val (.mv (.const (.bool true)))⟩] [])
  .ret))))⟩
theorem H.podiumref26_FewPoints : Has P F.podiumref26_FewPoints C.podiumref26_FewPoints := ⟨Try.f10, Try.func10, by kernel_rfl, by kernel_rfl⟩

/-- podium/season.Points -/
noncomputable def C.season_Points : MFunc := ⟨51, 2, [.tmp 4, .tmp 5],
 (.seq (.region [
 ⟨some 4, none, .val (.mv (.const .nil))⟩,
 ⟨some 5, none, .val (.mv (.const (.int 0)))⟩] [])
 (.seq (.seq (.region [
 ⟨some 11, none, .val (.mv (.tmp 0))⟩,
 ⟨some 12, none, .val (.len (.tmp 11))⟩,
 ⟨some 13, none, .val (.bin .gtr T.int (.tmp 12) (.const (.int 64)))⟩] [11, 12])
 (.cond (.tmp 13)
 (.seq (.region [
 ⟨some 4, none, .val (.mv (.const .nil))⟩,
 ⟨some 5, none, .val (.mv (.const (.int 2)))⟩] [])
  .ret)
  .skip))
 (.seq (.region [
 ⟨some 14, none, .val (.mv (.tmp 0))⟩,
 ⟨some 15, none, .call (.const (.func (.func F.slices_IsSortedFunc__Lint_int) [] [])) [(.tmp 14), (.const (.func (.func F.season_Points_1) [] []))]⟩,
 ⟨some 6, none, .val (.mv (.tmp 15))⟩] [14, 15])
 (.seq (.seq (.region [
 ⟨some 16, none, .val (.mv (.tmp 0))⟩,
 ⟨some 17, none, .call (.const (.func (.func F.season_amounts) [] [])) [(.tmp 16)]⟩,
 ⟨some 18, none, .val (.un .not (.tmp 17))⟩,
 ⟨some 19, none, .val (.mv (.tmp 18))⟩,
 ⟨some 20, some (19, false), .val (.mv (.tmp 6))⟩,
 ⟨some 21, some (19, false), .val (.un .not (.tmp 20))⟩,
 ⟨some 22, none, .val (.pick (.tmp 19) (.const (.bool true)) (.tmp 21))⟩] [16, 17, 18, 19, 20, 21])
 (.cond (.tmp 22)
 (.seq (.region [
 ⟨some 4, none, .val (.mv (.const .nil))⟩,
 ⟨some 5, none, .val (.mv (.const (.int 260)))⟩] [])
  .ret)
  .skip))
 (.seq (.seq (.region [
 ⟨some 23, none, .val (.mv (.tmp 1))⟩,
 ⟨some 24, none, .call (.const (.func (.func F.standing_Check) [] [])) [(.tmp 23)]⟩,
 ⟨some 7, none, .val (.mv (.tmp 24))⟩] [23, 24])
 (.seq (.region [
 ⟨some 25, none, .val (.mv (.tmp 7))⟩,
 ⟨some 26, none, .val (.bin .neq T.apiErrno (.tmp 25) (.const (.int 0)))⟩] [25])
 (.cond (.tmp 26)
 (.seq (.region [
 ⟨some 27, none, .val (.mv (.tmp 7))⟩,
 ⟨some 4, none, .val (.mv (.const .nil))⟩,
 ⟨some 5, none, .val (.mv (.tmp 27))⟩] [27])
  .ret)
  .skip)))
 (.seq (.seq (.region [
 ⟨some 28, none, .val (.mv (.tmp 1))⟩,
 ⟨some 29, none, .val (.len (.tmp 28))⟩,
 ⟨some 30, none, .val (.mv (.const (.int 0)))⟩] [])
 (.block 0 (.loop (.seq (.region [
 ⟨some 31, none, .val (.bin .lss T.int (.tmp 30) (.tmp 29))⟩] [])
 (.seq (.cond (.tmp 31)
  .skip
 (.exit 0))
 (.seq (.block 1 (.seq (.region [
 ⟨some 32, none, .val (.indexAddr 3 (.tmp 28) (.tmp 30))⟩,
 ⟨some 33, none, .val (.load 3 true (.tmp 32))⟩,
 ⟨some 9, none, .alloc T.apiPlace [(.int 0), (.int 0), (.int 0)]⟩,
 ⟨none, none, .store 3 (.tmp 9) (.tmp 33)⟩] [32, 33])
 (.seq (.region [
 ⟨some 10, none, .val (.mv (.const (.int 0)))⟩] [])
 (.seq (.seq (.region [
 ⟨some 34, none, .val (.fieldAddr 1 (.tmp 9))⟩,
 ⟨some 35, none, .val (.load 1 false (.tmp 34))⟩,
 ⟨some 36, none, .val (.mv (.tmp 0))⟩,
 ⟨some 37, none, .val (.len (.tmp 36))⟩,
 ⟨some 38, none, .val (.bin .leq T.int (.tmp 35) (.tmp 37))⟩] [34, 35, 36, 37])
 (.cond (.tmp 38)
 (.region [
 ⟨some 39, none, .val (.mv (.tmp 0))⟩,
 ⟨some 40, none, .val (.fieldAddr 1 (.tmp 9))⟩,
 ⟨some 41, none, .val (.load 1 false (.tmp 40))⟩,
 ⟨some 42, none, .val (.bin .sub T.int (.tmp 41) (.const (.int 1)))⟩,
 ⟨some 43, none, .val (.indexAddr 1 (.tmp 39) (.tmp 42))⟩,
 ⟨some 44, none, .val (.load 1 false (.tmp 43))⟩,
 ⟨some 10, none, .val (.mv (.tmp 44))⟩] [39, 40, 41, 42, 43, 44])
  .skip))
 (.region [
 ⟨some 45, none, .val (.mv (.tmp 4))⟩,
 ⟨some 46, none, .val (.mv (.tmp 10))⟩,
 ⟨some 47, none, .val (.buildSlice T.int 1 [(.int 0)] [(0, 1, (.tmp 46))])⟩,
 ⟨some 48, none, .append T.int 8 1 (.tmp 45) (.tmp 47)⟩,
 ⟨some 4, none, .val (.mv (.tmp 48))⟩] [45, 46, 47, 48])))))
 (.region [
 ⟨some 49, none, .val (.bin .add T.int (.tmp 30) (.const (.int 1)))⟩,
 ⟨some 30, none, .val (.mv (.tmp 49))⟩] [49])))))))
 (.seq (.region [
 ⟨some 50, none, .val (.mv (.tmp 4))⟩,
 ⟨some 4, none, .val (.mv (.tmp 50))⟩,
 ⟨some 5, none, .val (.mv (.const (.int 0)))⟩] [50])
  .ret)))))))⟩
theorem H.season_Points : Has P F.season_Points C.season_Points := ⟨Try.f11, Try.func11, by kernel_rfl, by kernel_rfl⟩

/-- podium/podiumref26.Points -/
noncomputable def C.podiumref26_Points : MFunc := ⟨76, 2, [.tmp 4, .tmp 5],
 (.seq (.region [
 ⟨some 4, none, .val (.mv (.const .nil))⟩,
 ⟨some 5, none, .val (.mv (.const (.int 0)))⟩] [])
 (.seq (.seq (.region [
 ⟨some 11, none, .val (.mv (.tmp 0))⟩,
 ⟨some 12, none, .val (.len (.tmp 11))⟩,
 ⟨some 13, none, .val (.bin .gtr T.int (.tmp 12) (.const (.int 64)))⟩] [11, 12])
 (.cond (.tmp 13)
 (.seq (.region [
 ⟨some 4, none, .val (.mv (.const .nil))⟩,
 ⟨some 5, none, .val (.mv (.const (.int 2)))⟩] [])
  .ret)
  .skip))
 (.seq (.seq (.region [
 ⟨some 6, none, .val (.mv (.const (.int 0)))⟩] [])
 (.block 0 (.loop (.seq (.seq (.region [
 ⟨some 14, none, .val (.mv (.tmp 6))⟩,
 ⟨some 15, none, .val (.mv (.tmp 0))⟩,
 ⟨some 16, none, .val (.len (.tmp 15))⟩,
 ⟨some 17, none, .val (.bin .lss T.int (.tmp 14) (.tmp 16))⟩] [14, 15, 16])
 (.cond (.tmp 17)
  .skip
 (.exit 0)))
 (.seq (.block 1 (.seq (.draw true [
 (.early, ⟨some 20, none, .val (.mv (.tmp 0))⟩),
 (.early, ⟨some 21, none, .val (.mv (.tmp 6))⟩),
 (.early, ⟨some 22, none, .val (.indexAddr 1 (.tmp 20) (.tmp 21))⟩),
 (.early, ⟨some 23, none, .val (.load 1 false (.tmp 22))⟩),
 (.hard, ⟨some 24, none, .call (.const (.func (.func F.podiumref26_amount) [] [])) [(.tmp 23)]⟩),
 (.late, ⟨some 25, none, .val (.un .not (.tmp 24))⟩),
 (.late, ⟨some 26, none, .val (.mv (.tmp 25))⟩),
 (.late, ⟨some 27, some (26, false), .val (.mv (.tmp 6))⟩),
 (.late, ⟨some 28, some (26, false), .val (.bin .gtr T.int (.tmp 27) (.const (.int 0)))⟩),
 (.late, ⟨some 29, some (26, false), .val (.mv (.tmp 28))⟩),
 (.late, ⟨some 30, some (29, true), .val (.mv (.tmp 0))⟩),
 (.late, ⟨some 31, some (29, true), .val (.mv (.tmp 6))⟩),
 (.late, ⟨some 32, some (29, true), .val (.bin .sub T.int (.tmp 31) (.const (.int 1)))⟩),
 (.late, ⟨some 33, some (29, true), .val (.indexAddr 1 (.tmp 30) (.tmp 32))⟩),
 (.late, ⟨some 34, some (29, true), .val (.load 1 false (.tmp 33))⟩),
 (.late, ⟨some 35, some (29, true), .val (.mv (.tmp 0))⟩),
 (.late, ⟨some 36, some (29, true), .val (.mv (.tmp 6))⟩),
 (.late, ⟨some 37, some (29, true), .val (.indexAddr 1 (.tmp 35) (.tmp 36))⟩),
 (.late, ⟨some 38, some (29, true), .val (.load 1 false (.tmp 37))⟩),
 (.late, ⟨some 39, some (29, true), .val (.bin .lss T.int (.tmp 34) (.tmp 38))⟩),
 (.late, ⟨some 40, some (26, false), .val (.pick (.tmp 29) (.tmp 39) (.const (.bool false)))⟩),
 (.late, ⟨some 41, none, .val (.pick (.tmp 26) (.const (.bool true)) (.tmp 40))⟩)] [20, 21, 22, 23, 24, 25, 26, 27, 28, 29, 30, 31, 32, 33, 34, 35, 36, 37, 38, 39, 40])
 (.cond (.tmp 41)
 (.seq (.region [
 ⟨some 4, none, .val (.mv (.const .nil))⟩,
 ⟨some 5, none, .val (.mv (.const (.int 260)))⟩] [])
  .ret)
  .skip)))
 (.region [
 ⟨some 18, none, .val (.mv (.tmp 6))⟩,
 ⟨some 19, none, .val (.bin .add T.int (.tmp 18) (.const (.int 1)))⟩,
 ⟨some 6, none, .val (.mv (.tmp 19))⟩] [18, 19]))))))
 (.seq (.region [
 ⟨some 42, none, .val (.mv (.tmp 1))⟩,
 ⟨some 43, none, .call (.const (.func (.func F.podiumref23_Check) [] [])) [(.tmp 42)]⟩,
 ⟨some 7, none, .val (.mv (.tmp 43))⟩] [42, 43])
 (.seq (.seq (.region [
 ⟨some 44, none, .val (.mv (.tmp 7))⟩,
 ⟨some 45, none, .val (.bin .neq T.apiErrno (.tmp 44) (.const (.int 0)))⟩] [44])
 (.cond (.tmp 45)
 (.seq (.region [
 ⟨some 46, none, .val (.mv (.tmp 7))⟩,
 ⟨some 4, none, .val (.mv (.const .nil))⟩,
 ⟨some 5, none, .val (.mv (.tmp 46))⟩] [46])
  .ret)
  .skip))
 (.seq (.region [
 ⟨some 47, none, .val (.buildSlice T.int 0 [] [])⟩,
 ⟨some 8, none, .val (.mv (.tmp 47))⟩] [47])
 (.seq (.seq (.region [
 ⟨some 9, none, .val (.mv (.const (.int 0)))⟩] [])
 (.block 2 (.loop (.seq (.seq (.region [
 ⟨some 48, none, .val (.mv (.tmp 9))⟩,
 ⟨some 49, none, .val (.mv (.tmp 1))⟩,
 ⟨some 50, none, .val (.len (.tmp 49))⟩,
 ⟨some 51, none, .val (.bin .lss T.int (.tmp 48) (.tmp 50))⟩] [48, 49, 50])
 (.cond (.tmp 51)
  .skip
 (.exit 2)))
 (.seq (.block 3 (.seq (.region [
 ⟨some 10, none, .val (.mv (.const (.int 0)))⟩] [])
 (.seq (.seq (.region [
 ⟨some 54, none, .val (.mv (.tmp 1))⟩,
 ⟨some 55, none, .val (.mv (.tmp 9))⟩,
 ⟨some 56, none, .val (.indexAddr 3 (.tmp 54) (.tmp 55))⟩,
 ⟨some 57, none, .val (.fieldAddr 1 (.tmp 56))⟩,
 ⟨some 58, none, .val (.load 1 false (.tmp 57))⟩,
 ⟨some 59, none, .val (.mv (.tmp 0))⟩,
 ⟨some 60, none, .val (.len (.tmp 59))⟩,
 ⟨some 61, none, .val (.bin .leq T.int (.tmp 58) (.tmp 60))⟩] [54, 55, 56, 57, 58, 59, 60])
 (.cond (.tmp 61)
 (.region [
 ⟨some 62, none, .val (.mv (.tmp 0))⟩,
 ⟨some 63, none, .val (.mv (.tmp 1))⟩,
 ⟨some 64, none, .val (.mv (.tmp 9))⟩,
 ⟨some 65, none, .val (.indexAddr 3 (.tmp 63) (.tmp 64))⟩,
 ⟨some 66, none, .val (.fieldAddr 1 (.tmp 65))⟩,
 ⟨some 67, none, .val (.load 1 false (.tmp 66))⟩,
 ⟨some 68, none, .val (.bin .sub T.int (.tmp 67) (.const (.int 1)))⟩,
 ⟨some 69, none, .val (.indexAddr 1 (.tmp 62) (.tmp 68))⟩,
 ⟨some 70, none, .val (.load 1 false (.tmp 69))⟩,
 ⟨some 10, none, .val (.mv (.tmp 70))⟩] [62, 63, 64, 65, 66, 67, 68, 69, 70])
  .skip))
 (.region [
 ⟨some 71, none, .val (.mv (.tmp 8))⟩,
 ⟨some 72, none, .val (.mv (.tmp 10))⟩,
 ⟨some 73, none, .val (.buildSlice T.int 1 [(.int 0)] [(0, 1, (.tmp 72))])⟩,
 ⟨some 74, none, .append T.int 8 1 (.tmp 71) (.tmp 73)⟩,
 ⟨some 8, none, .val (.mv (.tmp 74))⟩] [71, 72, 73, 74]))))
 (.region [
 ⟨some 52, none, .val (.mv (.tmp 9))⟩,
 ⟨some 53, none, .val (.bin .add T.int (.tmp 52) (.const (.int 1)))⟩,
 ⟨some 9, none, .val (.mv (.tmp 53))⟩] [52, 53]))))))
 (.seq (.region [
 ⟨some 75, none, .val (.mv (.tmp 8))⟩,
 ⟨some 4, none, .val (.mv (.tmp 75))⟩,
 ⟨some 5, none, .val (.mv (.const (.int 0)))⟩] [75])
  .ret))))))))⟩
theorem H.podiumref26_Points : Has P F.podiumref26_Points C.podiumref26_Points := ⟨Try.f12, Try.func12, by kernel_rfl, by kernel_rfl⟩

/-- podium/season.Total -/
noncomputable def C.season_Total : MFunc := ⟨36, 2, [.tmp 4, .tmp 5],
 (.seq (.region [
 ⟨some 4, none, .val (.mv (.const .nil))⟩,
 ⟨some 5, none, .val (.mv (.const (.int 0)))⟩] [])
 (.seq (.seq (.region [
 ⟨some 8, none, .val (.mv (.tmp 0))⟩,
 ⟨some 9, none, .val (.len (.tmp 8))⟩,
 ⟨some 10, none, .val (.bin .gtr T.int (.tmp 9) (.const (.int 4096)))⟩,
 ⟨some 11, none, .val (.mv (.tmp 10))⟩,
 ⟨some 12, some (11, false), .val (.mv (.tmp 0))⟩,
 ⟨some 13, some (11, false), .call (.const (.func (.func F.slices_ContainsFunc__LLint_Lint) [] [])) [(.tmp 12), (.const (.func (.func F.season_Total_1) [] []))]⟩,
 ⟨some 14, none, .val (.pick (.tmp 11) (.const (.bool true)) (.tmp 13))⟩] [8, 9, 10, 11, 12, 13])
 (.cond (.tmp 14)
 (.seq (.region [
 ⟨some 4, none, .val (.mv (.const .nil))⟩,
 ⟨some 5, none, .val (.mv (.const (.int 2)))⟩] [])
  .ret)
  .skip))
 (.seq (.seq (.region [
 ⟨some 15, none, .val (.mv (.tmp 1))⟩,
 ⟨some 16, none, .call (.const (.func (.func F.season_between) [] [])) [(.tmp 15), (.const (.int 0)), (.const (.int 64))]⟩,
 ⟨some 17, none, .val (.un .not (.tmp 16))⟩,
 ⟨some 18, none, .val (.mv (.tmp 17))⟩,
 ⟨some 19, some (18, false), .val (.mv (.tmp 0))⟩,
 ⟨some 20, some (18, false), .call (.const (.func (.func F.slices_ContainsFunc__LLint_Lint) [] [])) [(.tmp 19), (.const (.func (.func F.season_Total_2) [] []))]⟩,
 ⟨some 21, none, .val (.pick (.tmp 18) (.const (.bool true)) (.tmp 20))⟩] [15, 16, 17, 18, 19, 20])
 (.cond (.tmp 21)
 (.seq (.region [
 ⟨some 4, none, .val (.mv (.const .nil))⟩,
 ⟨some 5, none, .val (.mv (.const (.int 260)))⟩] [])
  .ret)
  .skip))
 (.seq (.seq (.region [
 ⟨some 22, none, .val (.mv (.tmp 0))⟩,
 ⟨some 23, none, .val (.len (.tmp 22))⟩,
 ⟨some 24, none, .val (.mv (.const (.int 0)))⟩] [])
 (.block 0 (.loop (.seq (.region [
 ⟨some 25, none, .val (.bin .lss T.int (.tmp 24) (.tmp 23))⟩] [])
 (.seq (.cond (.tmp 25)
  .skip
 (.exit 0))
 (.seq (.block 1 (.seq (.region [
 ⟨some 26, none, .val (.indexAddr 1 (.tmp 22) (.tmp 24))⟩,
 ⟨some 27, none, .val (.load 1 false (.tmp 26))⟩,
 ⟨some 7, none, .val (.mv (.tmp 27))⟩] [26, 27])
 (.region [
 ⟨some 28, none, .val (.mv (.tmp 4))⟩,
 ⟨some 29, none, .val (.mv (.tmp 7))⟩,
 ⟨some 30, none, .val (.mv (.tmp 1))⟩,
 ⟨some 31, none, .call (.const (.func (.func F.season_greatest) [] [])) [(.tmp 29), (.tmp 30)]⟩,
 ⟨some 32, none, .val (.buildSlice T.int 1 [(.int 0)] [(0, 1, (.tmp 31))])⟩,
 ⟨some 33, none, .append T.int 8 1 (.tmp 28) (.tmp 32)⟩,
 ⟨some 4, none, .val (.mv (.tmp 33))⟩] [28, 29, 30, 31, 32, 33])))
 (.region [
 ⟨some 34, none, .val (.bin .add T.int (.tmp 24) (.const (.int 1)))⟩,
 ⟨some 24, none, .val (.mv (.tmp 34))⟩] [34])))))))
 (.seq (.region [
 ⟨some 35, none, .val (.mv (.tmp 4))⟩,
 ⟨some 4, none, .val (.mv (.tmp 35))⟩,
 ⟨some 5, none, .val (.mv (.const (.int 0)))⟩] [35])
  .ret)))))⟩
theorem H.season_Total : Has P F.season_Total C.season_Total := ⟨Try.f13, Try.func13, by kernel_rfl, by kernel_rfl⟩

/-- podium/podiumref26.Total -/
noncomputable def C.podiumref26_Total : MFunc := ⟨91, 2, [.tmp 4, .tmp 5],
 (.seq (.region [
 ⟨some 4, none, .val (.mv (.const .nil))⟩,
 ⟨some 5, none, .val (.mv (.const (.int 0)))⟩] [])
 (.seq (.seq (.region [
 ⟨some 13, none, .val (.mv (.tmp 0))⟩,
 ⟨some 14, none, .val (.len (.tmp 13))⟩,
 ⟨some 15, none, .val (.bin .gtr T.int (.tmp 14) (.const (.int 4096)))⟩] [13, 14])
 (.cond (.tmp 15)
 (.seq (.region [
 ⟨some 4, none, .val (.mv (.const .nil))⟩,
 ⟨some 5, none, .val (.mv (.const (.int 2)))⟩] [])
  .ret)
  .skip))
 (.seq (.seq (.region [
 ⟨some 6, none, .val (.mv (.const (.int 0)))⟩] [])
 (.block 0 (.loop (.seq (.seq (.region [
 ⟨some 16, none, .val (.mv (.tmp 6))⟩,
 ⟨some 17, none, .val (.mv (.tmp 0))⟩,
 ⟨some 18, none, .val (.len (.tmp 17))⟩,
 ⟨some 19, none, .val (.bin .lss T.int (.tmp 16) (.tmp 18))⟩] [16, 17, 18])
 (.cond (.tmp 19)
  .skip
 (.exit 0)))
 (.seq (.block 1 (.seq (.region [
 ⟨some 22, none, .val (.mv (.tmp 0))⟩,
 ⟨some 23, none, .val (.mv (.tmp 6))⟩,
 ⟨some 24, none, .val (.indexAddr 1 (.tmp 22) (.tmp 23))⟩,
 ⟨some 25, none, .val (.load 1 false (.tmp 24))⟩,
 ⟨some 26, none, .val (.len (.tmp 25))⟩,
 ⟨some 27, none, .val (.bin .gtr T.int (.tmp 26) (.const (.int 64)))⟩] [22, 23, 24, 25, 26])
 (.cond (.tmp 27)
 (.seq (.region [
 ⟨some 4, none, .val (.mv (.const .nil))⟩,
 ⟨some 5, none, .val (.mv (.const (.int 2)))⟩] [])
  .ret)
  .skip)))
 (.region [
 ⟨some 20, none, .val (.mv (.tmp 6))⟩,
 ⟨some 21, none, .val (.bin .add T.int (.tmp 20) (.const (.int 1)))⟩,
 ⟨some 6, none, .val (.mv (.tmp 21))⟩] [20, 21]))))))
 (.seq (.seq (.region [
 ⟨some 28, none, .val (.mv (.tmp 1))⟩,
 ⟨some 29, none, .val (.bin .lss T.int (.tmp 28) (.const (.int 0)))⟩,
 ⟨some 30, none, .val (.mv (.tmp 29))⟩,
 ⟨some 31, some (30, false), .val (.mv (.tmp 1))⟩,
 ⟨some 32, some (30, false), .val (.bin .gtr T.int (.tmp 31) (.const (.int 64)))⟩,
 ⟨some 33, none, .val (.pick (.tmp 30) (.const (.bool true)) (.tmp 32))⟩] [28, 29, 30, 31, 32])
 (.cond (.tmp 33)
 (.seq (.region [
 ⟨some 4, none, .val (.mv (.const .nil))⟩,
 ⟨some 5, none, .val (.mv (.const (.int 260)))⟩] [])
  .ret)
  .skip))
 (.seq (.region [
 ⟨some 34, none, .val (.buildSlice T.int 0 [] [])⟩,
 ⟨some 7, none, .val (.mv (.tmp 34))⟩] [34])
 (.seq (.seq (.region [
 ⟨some 8, none, .val (.mv (.const (.int 0)))⟩] [])
 (.block 2 (.loop (.seq (.seq (.region [
 ⟨some 35, none, .val (.mv (.tmp 8))⟩,
 ⟨some 36, none, .val (.mv (.tmp 0))⟩,
 ⟨some 37, none, .val (.len (.tmp 36))⟩,
 ⟨some 38, none, .val (.bin .lss T.int (.tmp 35) (.tmp 37))⟩] [35, 36, 37])
 (.cond (.tmp 38)
  .skip
 (.exit 2)))
 (.seq (.block 3 (.seq (.region [
 ⟨some 41, none, .val (.buildSlice T.int 0 [] [])⟩,
 ⟨some 9, none, .val (.mv (.tmp 41))⟩] [41])
 (.seq (.seq (.region [
 ⟨some 10, none, .val (.mv (.const (.int 0)))⟩] [])
 (.block 4 (.loop (.seq (.seq (.region [
 ⟨some 42, none, .val (.mv (.tmp 10))⟩,
 ⟨some 43, none, .val (.mv (.tmp 0))⟩,
 ⟨some 44, none, .val (.mv (.tmp 8))⟩,
 ⟨some 45, none, .val (.indexAddr 1 (.tmp 43) (.tmp 44))⟩,
 ⟨some 46, none, .val (.load 1 false (.tmp 45))⟩,
 ⟨some 47, none, .val (.len (.tmp 46))⟩,
 ⟨some 48, none, .val (.bin .lss T.int (.tmp 42) (.tmp 47))⟩] [42, 43, 44, 45, 46, 47])
 (.cond (.tmp 48)
  .skip
 (.exit 4)))
 (.seq (.block 5 (.seq (.seq (.region [
 ⟨some 51, none, .val (.mv (.tmp 0))⟩,
 ⟨some 52, none, .val (.mv (.tmp 8))⟩,
 ⟨some 53, none, .val (.indexAddr 1 (.tmp 51) (.tmp 52))⟩,
 ⟨some 54, none, .val (.load 1 false (.tmp 53))⟩,
 ⟨some 55, none, .val (.mv (.tmp 10))⟩,
 ⟨some 56, none, .val (.indexAddr 1 (.tmp 54) (.tmp 55))⟩,
 ⟨some 57, none, .val (.load 1 false (.tmp 56))⟩,
 ⟨some 58, none, .call (.const (.func (.func F.podiumref26_amount) [] [])) [(.tmp 57)]⟩,
 ⟨some 59, none, .val (.un .not (.tmp 58))⟩] [51, 52, 53, 54, 55, 56, 57, 58])
 (.cond (.tmp 59)
 (.seq (.region [
 ⟨some 4, none, .val (.mv (.const .nil))⟩,
 ⟨some 5, none, .val (.mv (.const (.int 260)))⟩] [])
  .ret)
  .skip))
 (.region [
 ⟨some 60, none, .val (.mv (.tmp 9))⟩,
 ⟨some 61, none, .val (.mv (.tmp 0))⟩,
 ⟨some 62, none, .val (.mv (.tmp 8))⟩,
 ⟨some 63, none, .val (.indexAddr 1 (.tmp 61) (.tmp 62))⟩,
 ⟨some 64, none, .val (.load 1 false (.tmp 63))⟩,
 ⟨some 65, none, .val (.mv (.tmp 10))⟩,
 ⟨some 66, none, .val (.indexAddr 1 (.tmp 64) (.tmp 65))⟩,
 ⟨some 67, none, .val (.load 1 false (.tmp 66))⟩,
 ⟨some 68, none, .call (.const (.func (.func F.podiumref26_put) [] [])) [(.tmp 60), (.tmp 67)]⟩,
 ⟨some 9, none, .val (.mv (.tmp 68))⟩] [60, 61, 62, 63, 64, 65, 66, 67, 68])))
 (.region [
 ⟨some 49, none, .val (.mv (.tmp 10))⟩,
 ⟨some 50, none, .val (.bin .add T.int (.tmp 49) (.const (.int 1)))⟩,
 ⟨some 10, none, .val (.mv (.tmp 50))⟩] [49, 50]))))))
 (.seq (.region [
 ⟨some 11, none, .val (.mv (.const (.int 0)))⟩] [])
 (.seq (.seq (.region [
 ⟨some 12, none, .val (.mv (.const (.int 0)))⟩] [])
 (.block 6 (.loop (.seq (.seq (.region [
 ⟨some 69, none, .val (.mv (.tmp 12))⟩,
 ⟨some 70, none, .val (.mv (.tmp 9))⟩,
 ⟨some 71, none, .val (.len (.tmp 70))⟩,
 ⟨some 72, none, .val (.bin .lss T.int (.tmp 69) (.tmp 71))⟩,
 ⟨some 73, none, .val (.mv (.tmp 72))⟩,
 ⟨some 74, some (73, true), .val (.mv (.tmp 12))⟩,
 ⟨some 75, some (73, true), .val (.mv (.tmp 1))⟩,
 ⟨some 76, some (73, true), .val (.bin .lss T.int (.tmp 74) (.tmp 75))⟩,
 ⟨some 77, none, .val (.pick (.tmp 73) (.tmp 76) (.const (.bool false)))⟩] [69, 70, 71, 72, 73, 74, 75, 76])
 (.cond (.tmp 77)
  .skip
 (.exit 6)))
 (.seq (.block 7 (.region [
 ⟨some 80, none, .val (.mv (.tmp 11))⟩,
 ⟨some 81, none, .val (.mv (.tmp 9))⟩,
 ⟨some 82, none, .val (.mv (.tmp 12))⟩,
 ⟨some 83, none, .val (.indexAddr 1 (.tmp 81) (.tmp 82))⟩,
 ⟨some 84, none, .val (.load 1 false (.tmp 83))⟩,
 ⟨some 85, none, .val (.bin .add T.int (.tmp 80) (.tmp 84))⟩,
 ⟨some 11, none, .val (.mv (.tmp 85))⟩] [80, 81, 82, 83, 84, 85]))
 (.region [
 ⟨some 78, none, .val (.mv (.tmp 12))⟩,
 ⟨some 79, none, .val (.bin .add T.int (.tmp 78) (.const (.int 1)))⟩,
 ⟨some 12, none, .val (.mv (.tmp 79))⟩] [78, 79]))))))
 (.region [
 ⟨some 86, none, .val (.mv (.tmp 7))⟩,
 ⟨some 87, none, .val (.mv (.tmp 11))⟩,
 ⟨some 88, none, .val (.buildSlice T.int 1 [(.int 0)] [(0, 1, (.tmp 87))])⟩,
 ⟨some 89, none, .append T.int 8 1 (.tmp 86) (.tmp 88)⟩,
 ⟨some 7, none, .val (.mv (.tmp 89))⟩] [86, 87, 88, 89]))))))
 (.region [
 ⟨some 39, none, .val (.mv (.tmp 8))⟩,
 ⟨some 40, none, .val (.bin .add T.int (.tmp 39) (.const (.int 1)))⟩,
 ⟨some 8, none, .val (.mv (.tmp 40))⟩] [39, 40]))))))
 (.seq (.region [
 ⟨some 90, none, .val (.mv (.tmp 7))⟩,
 ⟨some 4, none, .val (.mv (.tmp 90))⟩,
 ⟨some 5, none, .val (.mv (.const (.int 0)))⟩] [90])
  .ret)))))))⟩
theorem H.podiumref26_Total : Has P F.podiumref26_Total C.podiumref26_Total := ⟨Try.f14, Try.func14, by kernel_rfl, by kernel_rfl⟩

/-- podium/podiumref26.SameInts -/
noncomputable def C.podiumref26_SameInts : MFunc := ⟨26, 2, [.tmp 4],
 (.seq (.region [
 ⟨some 4, none, .val (.mv (.const (.bool false)))⟩] [])
 (.seq (.seq (.region [
 ⟨some 6, none, .val (.mv (.tmp 0))⟩,
 ⟨some 7, none, .val (.len (.tmp 6))⟩,
 ⟨some 8, none, .val (.mv (.tmp 1))⟩,
 ⟨some 9, none, .val (.len (.tmp 8))⟩,
 ⟨some 10, none, .val (.bin .neq T.int (.tmp 7) (.tmp 9))⟩] [6, 7, 8, 9])
 (.cond (.tmp 10)
 (.seq (.region [
 ⟨some 4, none, .val (.mv (.const (.bool false)))⟩] [])
  .ret)
  .skip))
 (.seq (.seq (.region [
 ⟨some 5, none, .val (.mv (.const (.int 0)))⟩] [])
 (.block 0 (.loop (.seq (.seq (.region [
 ⟨some 11, none, .val (.mv (.tmp 5))⟩,
 ⟨some 12, none, .val (.mv (.tmp 0))⟩,
 ⟨some 13, none, .val (.len (.tmp 12))⟩,
 ⟨some 14, none, .val (.bin .lss T.int (.tmp 11) (.tmp 13))⟩] [11, 12, 13])
 (.cond (.tmp 14)
  .skip
 (.exit 0)))
 (.seq (.block 1 (.seq (.draw false [
 (.early, ⟨some 17, none, .val (.mv (.tmp 0))⟩),
 (.early, ⟨some 18, none, .val (.mv (.tmp 5))⟩),
 (.early, ⟨some 19, none, .val (.indexAddr 1 (.tmp 17) (.tmp 18))⟩),
 (.early, ⟨some 20, none, .val (.load 1 false (.tmp 19))⟩),
 (.early, ⟨some 21, none, .val (.mv (.tmp 1))⟩),
 (.early, ⟨some 22, none, .val (.mv (.tmp 5))⟩),
 (.early, ⟨some 23, none, .val (.indexAddr 1 (.tmp 21) (.tmp 22))⟩),
 (.early, ⟨some 24, none, .val (.load 1 false (.tmp 23))⟩),
 (.early, ⟨some 25, none, .val (.bin .neq T.int (.tmp 20) (.tmp 24))⟩)] [17, 18, 19, 20, 21, 22, 23, 24])
 (.cond (.tmp 25)
 (.seq (.region [
 ⟨some 4, none, .val (.mv (.const (.bool false)))⟩] [])
  .ret)
  .skip)))
 (.region [
 ⟨some 15, none, .val (.mv (.tmp 5))⟩,
 ⟨some 16, none, .val (.bin .add T.int (.tmp 15) (.const (.int 1)))⟩,
 ⟨some 5, none, .val (.mv (.tmp 16))⟩] [15, 16]))))))
 (.seq (.region [
 ⟨some 4, none, .val (.mv (.const (.bool true)))⟩] [])
  .ret))))⟩
theorem H.podiumref26_SameInts : Has P F.podiumref26_SameInts C.podiumref26_SameInts := ⟨Try.f15, Try.func15, by kernel_rfl, by kernel_rfl⟩

/-- podium/season.Records -/
noncomputable def C.season_Records : MFunc := ⟨63, 1, [.tmp 2, .tmp 3],
 (.seq (.region [
 ⟨some 2, none, .val (.mv (.const .nil))⟩,
 ⟨some 3, none, .val (.mv (.const (.int 0)))⟩] [])
 (.seq (.seq (.region [
 ⟨some 12, none, .val (.mv (.tmp 0))⟩,
 ⟨some 13, none, .val (.len (.tmp 12))⟩,
 ⟨some 14, none, .val (.bin .gtr T.int (.tmp 13) (.const (.int 4096)))⟩] [12, 13])
 (.cond (.tmp 14)
 (.seq (.region [
 ⟨some 2, none, .val (.mv (.const .nil))⟩,
 ⟨some 3, none, .val (.mv (.const (.int 2)))⟩] [])
  .ret)
  .skip))
 (.seq (.region [
 ⟨some 4, none, .val (.mv (.const (.int (-1))))⟩] [])
 (.seq (.seq (.region [
 ⟨some 15, none, .val (.mv (.tmp 0))⟩,
 ⟨some 16, none, .val (.len (.tmp 15))⟩,
 ⟨some 17, none, .val (.mv (.const (.int 0)))⟩] [])
 (.block 0 (.loop (.seq (.region [
 ⟨some 18, none, .val (.bin .lss T.int (.tmp 17) (.tmp 16))⟩] [])
 (.seq (.cond (.tmp 18)
  .skip
 (.exit 0))
 (.seq (.block 1 (.seq (.region [
 ⟨some 19, none, .val (.indexAddr 7 (.tmp 15) (.tmp 17))⟩,
 ⟨some 20, none, .val (.load 7 true (.tmp 19))⟩,
 ⟨some 6, none, .alloc T.apiRecord [(.int 0), (.int 0), (.int 0), (.bool false), .nil, (.bool false), .nil]⟩,
 ⟨none, none, .store 7 (.tmp 6) (.tmp 20)⟩] [19, 20])
 (.seq (.seq (.region [
 ⟨some 21, none, .val (.load 7 true (.tmp 6))⟩,
 ⟨some 22, none, .val (.mv (.tmp 4))⟩,
 ⟨some 23, none, .call (.const (.func (.func F.season_right) [] [])) [(.tmp 21), (.tmp 22)]⟩,
 ⟨some 24, none, .val (.un .not (.tmp 23))⟩] [21, 22, 23])
 (.cond (.tmp 24)
 (.seq (.region [
 ⟨some 2, none, .val (.mv (.const .nil))⟩,
 ⟨some 3, none, .val (.mv (.const (.int 260)))⟩] [])
  .ret)
  .skip))
 (.region [
 ⟨some 25, none, .val (.fieldAddr 0 (.tmp 6))⟩,
 ⟨some 26, none, .val (.load 1 false (.tmp 25))⟩,
 ⟨some 4, none, .val (.mv (.tmp 26))⟩] [25, 26]))))
 (.region [
 ⟨some 27, none, .val (.bin .add T.int (.tmp 17) (.const (.int 1)))⟩,
 ⟨some 17, none, .val (.mv (.tmp 27))⟩] [27])))))))
 (.seq (.region [
 ⟨some 7, none, .alloc T.seasonbook [(.int 0)]⟩] [])
 (.seq (.region [
 ⟨some 28, none, .val (.mkFunc (.func F.Pseason_book_less) [(.tmp 7)] [])⟩,
 ⟨some 8, none, .val (.mv (.tmp 28))⟩] [28])
 (.seq (.seq (.region [
 ⟨some 29, none, .val (.mv (.tmp 0))⟩,
 ⟨some 30, none, .val (.len (.tmp 29))⟩,
 ⟨some 31, none, .val (.mv (.const (.int 0)))⟩] [29])
 (.block 2 (.loop (.seq (.region [
 ⟨some 32, none, .val (.bin .lss T.int (.tmp 31) (.tmp 30))⟩] [])
 (.seq (.cond (.tmp 32)
  .skip
 (.exit 2))
 (.seq (.block 3 (.seq (.region [
 ⟨some 33, none, .val (.mv (.tmp 31))⟩,
 ⟨some 9, none, .val (.mv (.tmp 33))⟩] [33])
 (.seq (.region [
 ⟨some 34, none, .val (.mv (.tmp 9))⟩,
 ⟨some 35, none, .val (.mv (.const (.int 0)))⟩] [])
 (.block 4 (.loop (.seq (.region [
 ⟨some 36, none, .val (.bin .lss T.int (.tmp 35) (.tmp 34))⟩] [])
 (.seq (.cond (.tmp 36)
  .skip
 (.exit 4))
 (.seq (.block 5 (.seq (.region [
 ⟨some 37, none, .val (.mv (.tmp 35))⟩,
 ⟨some 10, none, .val (.mv (.tmp 37))⟩] [37])
 (.draw false [
 (.early, ⟨some 38, none, .val (.mv (.tmp 8))⟩),
 (.early, ⟨some 39, none, .val (.mv (.tmp 0))⟩),
 (.early, ⟨some 40, none, .val (.mv (.tmp 10))⟩),
 (.early, ⟨some 41, none, .val (.indexAddr 7 (.tmp 39) (.tmp 40))⟩),
 (.early, ⟨some 42, none, .val (.load 7 true (.tmp 41))⟩),
 (.early, ⟨some 43, none, .val (.mv (.tmp 0))⟩),
 (.early, ⟨some 44, none, .val (.mv (.tmp 9))⟩),
 (.early, ⟨some 45, none, .val (.indexAddr 7 (.tmp 43) (.tmp 44))⟩),
 (.early, ⟨some 46, none, .val (.load 7 true (.tmp 45))⟩),
 (.hard, ⟨some 47, none, .call (.tmp 38) [(.tmp 42), (.tmp 46)]⟩)] [38, 39, 40, 41, 42, 43, 44, 45, 46, 47])))
 (.region [
 ⟨some 48, none, .val (.bin .add T.int (.tmp 35) (.const (.int 1)))⟩,
 ⟨some 35, none, .val (.mv (.tmp 48))⟩] [48])))))))))
 (.region [
 ⟨some 49, none, .val (.bin .add T.int (.tmp 31) (.const (.int 1)))⟩,
 ⟨some 31, none, .val (.mv (.tmp 49))⟩] [49])))))))
 (.seq (.seq (.region [
 ⟨some 50, none, .val (.fieldAddr 0 (.tmp 7))⟩,
 ⟨some 51, none, .val (.load 1 false (.tmp 50))⟩,
 ⟨some 52, none, .val (.bin .neq T.apiErrno (.tmp 51) (.const (.int 0)))⟩] [50, 51])
 (.cond (.tmp 52)
 (.seq (.draw false [
 (.early, ⟨some 53, none, .val (.fieldAddr 0 (.tmp 7))⟩),
 (.early, ⟨some 54, none, .val (.load 1 false (.tmp 53))⟩),
 (.early, ⟨some 2, none, .val (.mv (.const .nil))⟩),
 (.early, ⟨some 3, none, .val (.mv (.tmp 54))⟩)] [53, 54])
  .ret)
  .skip))
 (.seq (.region [
 ⟨some 55, none, .val (.mv (.tmp 0))⟩,
 ⟨some 56, none, .call (.const (.func (.func F.slices_Clone__LapiRecord_apiRecord) [] [])) [(.tmp 55)]⟩,
 ⟨some 11, none, .val (.mv (.tmp 56))⟩] [55, 56])
 (.seq (.region [
 ⟨some 57, none, .val (.mv (.tmp 11))⟩,
 ⟨some 58, none, .call (.const (.func (.func F.slices_SortStableFunc__LapiRecord_apiRecord) [] [])) [(.tmp 57), (.const (.func (.func F.season_Records_1) [] []))]⟩] [57, 58])
 (.seq (.region [
 ⟨some 59, none, .val (.mv (.tmp 11))⟩,
 ⟨some 60, none, .val (.mv (.tmp 8))⟩,
 ⟨some 61, none, .call (.const (.func (.func F.season_records) [] [])) [(.tmp 59), (.tmp 60)]⟩,
 ⟨some 62, none, .call (.const (.func (.func F.slices_Collect__apiRecord) [] [])) [(.tmp 61)]⟩,
 ⟨some 2, none, .val (.mv (.tmp 62))⟩,
 ⟨some 3, none, .val (.mv (.const (.int 0)))⟩] [59, 60, 61, 62])
  .ret)))))))))))⟩
theorem H.season_Records : Has P F.season_Records C.season_Records := ⟨Try.f17, Try.func17, by kernel_rfl, by kernel_rfl⟩

/-- podium/podiumref26.Same -/
noncomputable def C.podiumref26_Same : MFunc := ⟨68, 2, [.tmp 4],
 (.seq (.region [
 ⟨some 4, none, .val (.mv (.const (.bool false)))⟩] [])
 (.seq (.seq (.region [
 ⟨some 6, none, .val (.mv (.tmp 0))⟩,
 ⟨some 7, none, .val (.len (.tmp 6))⟩,
 ⟨some 8, none, .val (.mv (.tmp 1))⟩,
 ⟨some 9, none, .val (.len (.tmp 8))⟩,
 ⟨some 10, none, .val (.bin .neq T.int (.tmp 7) (.tmp 9))⟩] [6, 7, 8, 9])
 (.cond (.tmp 10)
 (.seq (.region [
 ⟨some 4, none, .val (.mv (.const (.bool false)))⟩] [])
  .ret)
  .skip))
 (.seq (.seq (.region [
 ⟨some 5, none, .val (.mv (.const (.int 0)))⟩] [])
 (.block 0 (.loop (.seq (.seq (.region [
 ⟨some 11, none, .val (.mv (.tmp 5))⟩,
 ⟨some 12, none, .val (.mv (.tmp 0))⟩,
 ⟨some 13, none, .val (.len (.tmp 12))⟩,
 ⟨some 14, none, .val (.bin .lss T.int (.tmp 11) (.tmp 13))⟩] [11, 12, 13])
 (.cond (.tmp 14)
  .skip
 (.exit 0)))
 (.seq (.block 1 (.seq (.draw true (
 (.early, ⟨some 17, none, .val (.mv (.tmp 0))⟩) ::
 (.early, ⟨some 18, none, .val (.mv (.tmp 5))⟩) ::
 (.early, ⟨some 19, none, .val (.indexAddr 7 (.tmp 17) (.tmp 18))⟩) ::
 (.early, ⟨some 20, none, .val (.fieldAddr 0 (.tmp 19))⟩) ::
 (.early, ⟨some 21, none, .val (.load 1 false (.tmp 20))⟩) ::
 (.early, ⟨some 22, none, .val (.mv (.tmp 1))⟩) ::
 (.early, ⟨some 23, none, .val (.mv (.tmp 5))⟩) ::
 (.early, ⟨some 24, none, .val (.indexAddr 7 (.tmp 22) (.tmp 23))⟩) ::
 (.early, ⟨some 25, none, .val (.fieldAddr 0 (.tmp 24))⟩) ::
 (.early, ⟨some 26, none, .val (.load 1 false (.tmp 25))⟩) ::
 (.early, ⟨some 27, none, .val (.bin .neq T.int (.tmp 21) (.tmp 26))⟩) ::
 (.early, ⟨some 28, none, .val (.mv (.tmp 27))⟩) ::
 (.early, ⟨some 29, some (28, false), .val (.mv (.tmp 0))⟩) ::
 (.early, ⟨some 30, some (28, false), .val (.mv (.tmp 5))⟩) ::
 (.early, ⟨some 31, some (28, false), .val (.indexAddr 7 (.tmp 29) (.tmp 30))⟩) ::
 (.early, ⟨some 32, some (28, false), .val (.fieldAddr 1 (.tmp 31))⟩) ::
 (.early, ⟨some 33, some (28, false), .val (.load 1 false (.tmp 32))⟩) ::
 (.early, ⟨some 34, some (28, false), .val (.mv (.tmp 1))⟩) ::
 (.early, ⟨some 35, some (28, false), .val (.mv (.tmp 5))⟩) ::
 (.early, ⟨some 36, some (28, false), .val (.indexAddr 7 (.tmp 34) (.tmp 35))⟩) ::
 (.early, ⟨some 37, some (28, false), .val (.fieldAddr 1 (.tmp 36))⟩) ::
 (.early, ⟨some 38, some (28, false), .val (.load 1 false (.tmp 37))⟩) ::
 (.early, ⟨some 39, some (28, false), .val (.bin .neq T.int (.tmp 33) (.tmp 38))⟩) ::
 (.early, ⟨some 40, none, .val (.pick (.tmp 28) (.const (.bool true)) (.tmp 39))⟩) ::
 (.early, ⟨some 41, none, .val (.mv (.tmp 40))⟩) ::
 (.early, ⟨some 42, some (41, false), .val (.mv (.tmp 0))⟩) ::
 (.early, ⟨some 43, some (41, false), .val (.mv (.tmp 5))⟩) ::
 (.early, ⟨some 44, some (41, false), .val (.indexAddr 7 (.tmp 42) (.tmp 43))⟩) ::
 (.early, ⟨some 45, some (41, false), .val (.fieldAddr 2 (.tmp 44))⟩) ::
 (.early, ⟨some 46, some (41, false), .val (.load 1 false (.tmp 45))⟩) ::
 (.early, ⟨some 47, some (41, false), .val (.mv (.tmp 1))⟩) ::
 (.early, ⟨some 48, some (41, false), .val (.mv (.tmp 5))⟩) ::
 (.early, ⟨some 49, some (41, false), .val (.indexAddr 7 (.tmp 47) (.tmp 48))⟩) ::
 (.early, ⟨some 50, some (41, false), .val (.fieldAddr 2 (.tmp 49))⟩) ::
 (.early, ⟨some 51, some (41, false), .val (.load 1 false (.tmp 50))⟩) ::
 (.early, ⟨some 52, some (41, false), .val (.bin .neq T.int (.tmp 46) (.tmp 51))⟩) ::
 (.early, ⟨some 53, none, .val (.pick (.tmp 41) (.const (.bool true)) (.tmp 52))⟩) ::
 (.early, ⟨some 54, none, .val (.mv (.tmp 53))⟩) ::
 (.early, ⟨some 55, some (54, false), .val (.mv (.tmp 0))⟩) ::
 (.early, ⟨some 56, some (54, false), .val (.mv (.tmp 5))⟩) ::
 (.early, ⟨some 57, some (54, false), .val (.indexAddr 7 (.tmp 55) (.tmp 56))⟩) ::
 (.early, ⟨some 58, some (54, false), .val (.fieldAddr 3 (.tmp 57))⟩) ::
 (.early, ⟨some 59, some (54, false), .val (.load 4 true (.tmp 58))⟩) ::
 (.early, ⟨some 60, some (54, false), .val (.mv (.tmp 1))⟩) ::
 (.early, ⟨some 61, some (54, false), .val (.mv (.tmp 5))⟩) ::
 (.early, ⟨some 62, some (54, false), .val (.indexAddr 7 (.tmp 60) (.tmp 61))⟩) ::
 (.early, ⟨some 63, some (54, false), .val (.fieldAddr 3 (.tmp 62))⟩) ::
 (.early, ⟨some 64, some (54, false), .val (.load 4 true (.tmp 63))⟩) ::
 (.hard, ⟨some 65, some (54, false), .call (.const (.func (.func F.podiumref10_Same) [] [])) [(.tmp 59), (.tmp 64)]⟩) ::
 (.late, ⟨some 66, some (54, false), .val (.un .not (.tmp 65))⟩) ::
 (.late, ⟨some 67, none, .val (.pick (.tmp 54) (.const (.bool true)) (.tmp 66))⟩) :: []) (17 :: 18 :: 19 :: 20 :: 21 :: 22 :: 23 :: 24 :: 25 :: 26 :: 27 :: 28 :: 29 :: 30 :: 31 :: 32 :: 33 :: 34 :: 35 :: 36 :: 37 :: 38 :: 39 :: 40 :: 41 :: 42 :: 43 :: 44 :: 45 :: 46 :: 47 :: 48 :: 49 :: 50 :: 51 :: 52 :: 53 :: 54 :: 55 :: 56 :: 57 :: 58 :: 59 :: 60 :: 61 :: 62 :: 63 :: 64 :: 65 :: 66 :: []))
 (.cond (.tmp 67)
 (.seq (.region [
 ⟨some 4, none, .val (.mv (.const (.bool false)))⟩] [])
  .ret)
  .skip)))
 (.region [
 ⟨some 15, none, .val (.mv (.tmp 5))⟩,
 ⟨some 16, none, .val (.bin .add T.int (.tmp 15) (.const (.int 1)))⟩,
 ⟨some 5, none, .val (.mv (.tmp 16))⟩] [15, 16]))))))
 (.seq (.region [
 ⟨some 4, none, .val (.mv (.const (.bool true)))⟩] [])
  .ret))))⟩
theorem H.podiumref26_Same : Has P F.podiumref26_Same C.podiumref26_Same := ⟨Try.f19, Try.func19, by kernel_rfl, by kernel_rfl⟩

/-- podium/podiumref23.Check -/
noncomputable def C.podiumref23_Check : MFunc := ⟨102, 1, [.tmp 2],
 (.seq (.region [
 ⟨some 2, none, .val (.mv (.const (.int 0)))⟩] [])
 (.seq (.seq (.region [
 ⟨some 6, none, .val (.mv (.tmp 0))⟩,
 ⟨some 7, none, .val (.len (.tmp 6))⟩,
 ⟨some 8, none, .val (.bin .gtr T.int (.tmp 7) (.const (.int 4096)))⟩] [6, 7])
 (.cond (.tmp 8)
 (.seq (.region [
 ⟨some 2, none, .val (.mv (.const (.int 2)))⟩] [])
  .ret)
  .skip))
 (.seq (.seq (.region [
 ⟨some 3, none, .val (.mv (.const (.int 0)))⟩] [])
 (.block 0 (.loop (.seq (.seq (.region [
 ⟨some 9, none, .val (.mv (.tmp 3))⟩,
 ⟨some 10, none, .val (.mv (.tmp 0))⟩,
 ⟨some 11, none, .val (.len (.tmp 10))⟩,
 ⟨some 12, none, .val (.bin .lss T.int (.tmp 9) (.tmp 11))⟩] [9, 10, 11])
 (.cond (.tmp 12)
  .skip
 (.exit 0)))
 (.seq (.block 1 (.seq (.seq (.region [
 ⟨some 15, none, .val (.mv (.tmp 0))⟩,
 ⟨some 16, none, .val (.mv (.tmp 3))⟩,
 ⟨some 17, none, .val (.indexAddr 3 (.tmp 15) (.tmp 16))⟩,
 ⟨some 18, none, .val (.fieldAddr 0 (.tmp 17))⟩,
 ⟨some 19, none, .val (.load 1 false (.tmp 18))⟩,
 ⟨some 20, none, .val (.bin .lss T.int (.tmp 19) (.const (.int 0)))⟩] [15, 16, 17, 18, 19])
 (.cond (.tmp 20)
 (.seq (.region [
 ⟨some 2, none, .val (.mv (.const (.int 230)))⟩] [])
  .ret)
  .skip))
 (.seq (.seq (.region [
 ⟨some 4, none, .val (.mv (.const (.int 0)))⟩] [])
 (.block 2 (.loop (.seq (.seq (.region [
 ⟨some 21, none, .val (.mv (.tmp 4))⟩,
 ⟨some 22, none, .val (.mv (.tmp 3))⟩,
 ⟨some 23, none, .val (.bin .lss T.int (.tmp 21) (.tmp 22))⟩] [21, 22])
 (.cond (.tmp 23)
  .skip
 (.exit 2)))
 (.seq (.block 3 (.seq (.draw false [
 (.early, ⟨some 26, none, .val (.mv (.tmp 0))⟩),
 (.early, ⟨some 27, none, .val (.mv (.tmp 4))⟩),
 (.early, ⟨some 28, none, .val (.indexAddr 3 (.tmp 26) (.tmp 27))⟩),
 (.early, ⟨some 29, none, .val (.fieldAddr 0 (.tmp 28))⟩),
 (.early, ⟨some 30, none, .val (.load 1 false (.tmp 29))⟩),
 (.early, ⟨some 31, none, .val (.mv (.tmp 0))⟩),
 (.early, ⟨some 32, none, .val (.mv (.tmp 3))⟩),
 (.early, ⟨some 33, none, .val (.indexAddr 3 (.tmp 31) (.tmp 32))⟩),
 (.early, ⟨some 34, none, .val (.fieldAddr 0 (.tmp 33))⟩),
 (.early, ⟨some 35, none, .val (.load 1 false (.tmp 34))⟩),
 (.early, ⟨some 36, none, .val (.bin .eql T.int (.tmp 30) (.tmp 35))⟩)] [26, 27, 28, 29, 30, 31, 32, 33, 34, 35])
 (.cond (.tmp 36)
 (.seq (.region [
 ⟨some 2, none, .val (.mv (.const (.int 230)))⟩] [])
  .ret)
  .skip)))
 (.region [
 ⟨some 24, none, .val (.mv (.tmp 4))⟩,
 ⟨some 25, none, .val (.bin .add T.int (.tmp 24) (.const (.int 1)))⟩,
 ⟨some 4, none, .val (.mv (.tmp 25))⟩] [24, 25]))))))
 (.seq (.draw false [
 (.early, ⟨some 37, none, .val (.mv (.tmp 3))⟩),
 (.early, ⟨some 38, none, .val (.bin .gtr T.int (.tmp 37) (.const (.int 0)))⟩),
 (.early, ⟨some 39, none, .val (.mv (.tmp 38))⟩),
 (.early, ⟨some 40, some (39, true), .val (.mv (.tmp 0))⟩),
 (.early, ⟨some 41, some (39, true), .val (.mv (.tmp 3))⟩),
 (.early, ⟨some 42, some (39, true), .val (.indexAddr 3 (.tmp 40) (.tmp 41))⟩),
 (.early, ⟨some 43, some (39, true), .val (.fieldAddr 1 (.tmp 42))⟩),
 (.early, ⟨some 44, some (39, true), .val (.load 1 false (.tmp 43))⟩),
 (.early, ⟨some 45, some (39, true), .val (.mv (.tmp 0))⟩),
 (.early, ⟨some 46, some (39, true), .val (.mv (.tmp 3))⟩),
 (.early, ⟨some 47, some (39, true), .val (.bin .sub T.int (.tmp 46) (.const (.int 1)))⟩),
 (.early, ⟨some 48, some (39, true), .val (.indexAddr 3 (.tmp 45) (.tmp 47))⟩),
 (.early, ⟨some 49, some (39, true), .val (.fieldAddr 1 (.tmp 48))⟩),
 (.early, ⟨some 50, some (39, true), .val (.load 1 false (.tmp 49))⟩),
 (.early, ⟨some 51, some (39, true), .val (.bin .eql T.int (.tmp 44) (.tmp 50))⟩),
 (.early, ⟨some 52, none, .val (.pick (.tmp 39) (.tmp 51) (.const (.bool false)))⟩),
 (.early, ⟨some 5, none, .val (.mv (.tmp 52))⟩)] [37, 38, 39, 40, 41, 42, 43, 44, 45, 46, 47, 48, 49, 50, 51, 52])
 (.seq (.seq (.draw false [
 (.early, ⟨some 53, none, .val (.mv (.tmp 5))⟩),
 (.early, ⟨some 54, none, .val (.un .not (.tmp 53))⟩),
 (.early, ⟨some 55, none, .val (.mv (.tmp 54))⟩),
 (.early, ⟨some 56, some (55, true), .val (.mv (.tmp 0))⟩),
 (.early, ⟨some 57, some (55, true), .val (.mv (.tmp 3))⟩),
 (.early, ⟨some 58, some (55, true), .val (.indexAddr 3 (.tmp 56) (.tmp 57))⟩),
 (.early, ⟨some 59, some (55, true), .val (.fieldAddr 1 (.tmp 58))⟩),
 (.early, ⟨some 60, some (55, true), .val (.load 1 false (.tmp 59))⟩),
 (.early, ⟨some 61, some (55, true), .val (.mv (.tmp 3))⟩),
 (.early, ⟨some 62, some (55, true), .val (.bin .add T.int (.tmp 61) (.const (.int 1)))⟩),
 (.early, ⟨some 63, some (55, true), .val (.bin .neq T.int (.tmp 60) (.tmp 62))⟩),
 (.early, ⟨some 64, none, .val (.pick (.tmp 55) (.tmp 63) (.const (.bool false)))⟩),
 (.early, ⟨some 65, none, .val (.mv (.tmp 64))⟩),
 (.early, ⟨some 66, some (65, false), .val (.mv (.tmp 5))⟩),
 (.early, ⟨some 67, some (65, false), .val (.mv (.tmp 66))⟩),
 (.early, ⟨some 68, some (67, true), .val (.mv (.tmp 0))⟩),
 (.early, ⟨some 69, some (67, true), .val (.mv (.tmp 3))⟩),
 (.early, ⟨some 70, some (67, true), .val (.bin .sub T.int (.tmp 69) (.const (.int 1)))⟩),
 (.early, ⟨some 71, some (67, true), .val (.indexAddr 3 (.tmp 68) (.tmp 70))⟩),
 (.early, ⟨some 72, some (67, true), .val (.fieldAddr 0 (.tmp 71))⟩),
 (.early, ⟨some 73, some (67, true), .val (.load 1 false (.tmp 72))⟩),
 (.early, ⟨some 74, some (67, true), .val (.mv (.tmp 0))⟩),
 (.early, ⟨some 75, some (67, true), .val (.mv (.tmp 3))⟩),
 (.early, ⟨some 76, some (67, true), .val (.indexAddr 3 (.tmp 74) (.tmp 75))⟩),
 (.early, ⟨some 77, some (67, true), .val (.fieldAddr 0 (.tmp 76))⟩),
 (.early, ⟨some 78, some (67, true), .val (.load 1 false (.tmp 77))⟩),
 (.early, ⟨some 79, some (67, true), .val (.bin .geq T.int (.tmp 73) (.tmp 78))⟩),
 (.early, ⟨some 80, some (65, false), .val (.pick (.tmp 67) (.tmp 79) (.const (.bool false)))⟩),
 (.early, ⟨some 81, none, .val (.pick (.tmp 65) (.const (.bool true)) (.tmp 80))⟩)] [53, 54, 55, 56, 57, 58, 59, 60, 61, 62, 63, 64, 65, 66, 67, 68, 69, 70, 71, 72, 73, 74, 75, 76, 77, 78, 79, 80])
 (.cond (.tmp 81)
 (.seq (.region [
 ⟨some 2, none, .val (.mv (.const (.int 230)))⟩] [])
  .ret)
  .skip))
 (.seq (.region [
 ⟨some 82, none, .val (.mv (.tmp 3))⟩,
 ⟨some 83, none, .val (.bin .eql T.int (.tmp 82) (.const (.int 0)))⟩,
 ⟨some 84, none, .val (.mv (.tmp 83))⟩,
 ⟨some 85, some (84, false), .val (.mv (.tmp 5))⟩,
 ⟨some 86, none, .val (.pick (.tmp 84) (.const (.bool true)) (.tmp 85))⟩,
 ⟨some 87, none, .val (.mv (.tmp 0))⟩,
 ⟨some 88, none, .val (.mv (.tmp 3))⟩,
 ⟨some 89, none, .val (.indexAddr 3 (.tmp 87) (.tmp 88))⟩,
 ⟨some 90, none, .val (.fieldAddr 2 (.tmp 89))⟩,
 ⟨some 91, none, .val (.load 1 false (.tmp 90))⟩,
 ⟨some 92, none, .val (.bin .eql T.int (.tmp 91) (.const (.int (-1))))⟩,
 ⟨some 93, none, .val (.eqBool true (.tmp 86) (.tmp 92))⟩,
 ⟨some 94, none, .val (.mv (.tmp 93))⟩,
 ⟨some 95, some (94, false), .val (.mv (.tmp 0))⟩,
 ⟨some 96, some (94, false), .val (.mv (.tmp 3))⟩,
 ⟨some 97, some (94, false), .val (.indexAddr 3 (.tmp 95) (.tmp 96))⟩,
 ⟨some 98, some (94, false), .val (.fieldAddr 2 (.tmp 97))⟩,
 ⟨some 99, some (94, false), .val (.load 1 false (.tmp 98))⟩,
 ⟨some 100, some (94, false), .val (.bin .lss T.int (.tmp 99) (.const (.int (-1))))⟩,
 ⟨some 101, none, .val (.pick (.tmp 94) (.const (.bool true)) (.tmp 100))⟩] [82, 83, 84, 85, 86, 87, 88, 89, 90, 91, 92, 93, 94, 95, 96, 97, 98, 99, 100])
 (.cond (.tmp 101)
 (.seq (.region [
 ⟨some 2, none, .val (.mv (.const (.int 230)))⟩] [])
  .ret)
  .skip)))))))
 (.region [
 ⟨some 13, none, .val (.mv (.tmp 3))⟩,
 ⟨some 14, none, .val (.bin .add T.int (.tmp 13) (.const (.int 1)))⟩,
 ⟨some 3, none, .val (.mv (.tmp 14))⟩] [13, 14]))))))
 (.seq (.region [
 ⟨some 2, none, .val (.mv (.const (.int 0)))⟩] [])
  .ret))))⟩
theorem H.podiumref23_Check : Has P F.podiumref23_Check C.podiumref23_Check := ⟨Try.f20, Try.func20, by kernel_rfl, by kernel_rfl⟩

/-- podium/ratio.Cmp -/
noncomputable def C.ratio_Cmp : MDFunc := ⟨31, 2, [5], [.tmp 4, .cell 5 1 false],
 (.pre [] (.region [
 ⟨some 2, none, .box T.apiRatio (.tmp 0)⟩,
 ⟨some 3, none, .box T.apiRatio (.tmp 1)⟩,
 ⟨some 4, none, .val (.mv (.const (.int 0)))⟩,
 ⟨some 5, none, .alloc T.apiErrno [(.int 0)]⟩] [])
 (.push (.const (.func (.func F.ratio_caught) [] [])) [(.tmp 5)]
 (.pre [4] (.region [
 ⟨some 7, none, .val (.load 4 true (.tmp 2))⟩,
 ⟨some 8, none, .val (.load 4 true (.tmp 3))⟩,
 ⟨some 9, none, .val (.buildSlice T.apiRatio 2 [(.bool false), .nil, (.bool false), .nil, (.bool false), .nil, (.bool false), .nil] [(0, 4, (.tmp 7)), (4, 4, (.tmp 8))])⟩,
 ⟨some 10, none, .call (.const (.func (.func F.ratio_valid) [] [])) [(.tmp 9)]⟩] [7, 8, 9, 10])
 (.pre [4] (.region [
 ⟨some 11, none, .val (.fieldAddr 0 (.tmp 2))⟩,
 ⟨some 12, none, .val (.load 2 true (.tmp 11))⟩,
 ⟨some 13, none, .val (.fieldAddr 2 (.tmp 3))⟩,
 ⟨some 14, none, .val (.load 2 true (.tmp 13))⟩,
 ⟨some 15, none, .val (.fieldAddr 0 (.tmp 3))⟩,
 ⟨some 16, none, .val (.load 2 true (.tmp 15))⟩,
 ⟨some 17, none, .val (.fieldAddr 2 (.tmp 2))⟩,
 ⟨some 18, none, .val (.load 2 true (.tmp 17))⟩,
 ⟨some 19, none, .val (.buildSlice T.apiBig 4 [(.bool false), .nil, (.bool false), .nil, (.bool false), .nil, (.bool false), .nil] [(0, 2, (.tmp 12)), (2, 2, (.tmp 14)), (4, 2, (.tmp 16)), (6, 2, (.tmp 18))])⟩,
 ⟨some 20, none, .call (.const (.func (.func F.ratio_products) [] [])) [(.tmp 19)]⟩,
 ⟨some 6, none, .val (.mv (.tmp 20))⟩] [11, 12, 13, 14, 15, 16, 17, 18, 19, 20])
 (.pre [] (.draw true [
 (.early, ⟨some 21, none, .val (.mv (.tmp 6))⟩),
 (.early, ⟨some 22, none, .val (.indexAddr 2 (.tmp 21) (.const (.int 0)))⟩),
 (.early, ⟨some 23, none, .val (.load 2 true (.tmp 22))⟩),
 (.early, ⟨some 24, none, .val (.mv (.tmp 6))⟩),
 (.early, ⟨some 25, none, .val (.indexAddr 2 (.tmp 24) (.const (.int 1)))⟩),
 (.early, ⟨some 26, none, .val (.load 2 true (.tmp 25))⟩),
 (.hard, ⟨some 27, none, .call (.const (.func (.func F.nat_Cmp) [] [])) [(.tmp 23), (.tmp 26)]⟩),
 (.late, ⟨some 28, none, .val (.extract 0 (.tmp 27))⟩),
 (.late, ⟨some 29, none, .val (.extract 1 (.tmp 27))⟩),
 (.hard, ⟨some 30, none, .call (.const (.func (.func F.ratio_did__int) [] [])) [(.tmp 28), (.tmp 29)]⟩),
 (.late, ⟨some 4, none, .val (.mv (.tmp 30))⟩),
 (.last, ⟨none, none, .store 1 (.tmp 5) (.const (.int 0))⟩)] [21, 22, 23, 24, 25, 26, 27, 28, 29, 30])
 (.pre [4] .ret
  .done))))))⟩
theorem H.ratio_Cmp : HasD P F.ratio_Cmp C.ratio_Cmp := ⟨Try.f22, Try.func22, by kernel_rfl, by kernel_rfl⟩

/-- podium/podiumlaw26.score -/
noncomputable def C.podiumlaw26_score : MFunc := ⟨12, 3, [.cell 6 7 true],
 (.seq (.region [
 ⟨some 6, none, .alloc T.apiRecord [(.int 0), (.int 0), (.int 0), (.bool false), .nil, (.bool false), .nil]⟩] [])
 (.seq (.region [
 ⟨some 7, none, .val (.mv (.tmp 0))⟩,
 ⟨some 8, none, .val (.mv (.tmp 1))⟩,
 ⟨some 9, none, .val (.mv (.tmp 2))⟩,
 ⟨some 10, none, .call (.const (.func (.func F.podiumref10_Int) [] [])) [(.tmp 9)]⟩,
 ⟨some 11, none, .val (.build [(.int 0), (.int 0), (.int 0), (.bool false), .nil, (.bool false), .nil] [(0, 1, (.tmp 7)), (2, 1, (.tmp 8)), (3, 4, (.tmp 10))])⟩,
 ⟨none, none, .store 7 (.tmp 6) (.tmp 11)⟩] [7, 8, 9, 10, 11])
  .ret))⟩
theorem H.podiumlaw26_score : Has P F.podiumlaw26_score C.podiumlaw26_score := ⟨Try.f23, Try.func23, by kernel_rfl, by kernel_rfl⟩

/-- slices.IsSortedFunc[[]int,int] -/
noncomputable def C.slices_IsSortedFunc__Lint_int : MFunc := ⟨25, 2, [.tmp 4],
 (.seq (.region [
 ⟨some 4, none, .val (.mv (.const (.bool false)))⟩] [])
 (.seq (.seq (.region [
 ⟨some 6, none, .val (.mv (.tmp 0))⟩,
 ⟨some 7, none, .val (.len (.tmp 6))⟩,
 ⟨some 8, none, .val (.bin .sub T.int (.tmp 7) (.const (.int 1)))⟩,
 ⟨some 5, none, .val (.mv (.tmp 8))⟩] [6, 7, 8])
 (.block 0 (.loop (.seq (.seq (.region [
 ⟨some 9, none, .val (.mv (.tmp 5))⟩,
 ⟨some 10, none, .val (.bin .gtr T.int (.tmp 9) (.const (.int 0)))⟩] [9])
 (.cond (.tmp 10)
  .skip
 (.exit 0)))
 (.seq (.block 1 (.seq (.draw true [
 (.early, ⟨some 13, none, .val (.mv (.tmp 1))⟩),
 (.early, ⟨some 14, none, .val (.mv (.tmp 0))⟩),
 (.early, ⟨some 15, none, .val (.mv (.tmp 5))⟩),
 (.early, ⟨some 16, none, .val (.indexAddr 1 (.tmp 14) (.tmp 15))⟩),
 (.early, ⟨some 17, none, .val (.load 1 false (.tmp 16))⟩),
 (.early, ⟨some 18, none, .val (.mv (.tmp 0))⟩),
 (.early, ⟨some 19, none, .val (.mv (.tmp 5))⟩),
 (.early, ⟨some 20, none, .val (.bin .sub T.int (.tmp 19) (.const (.int 1)))⟩),
 (.early, ⟨some 21, none, .val (.indexAddr 1 (.tmp 18) (.tmp 20))⟩),
 (.early, ⟨some 22, none, .val (.load 1 false (.tmp 21))⟩),
 (.hard, ⟨some 23, none, .call (.tmp 13) [(.tmp 17), (.tmp 22)]⟩),
 (.late, ⟨some 24, none, .val (.bin .lss T.int (.tmp 23) (.const (.int 0)))⟩)] [13, 14, 15, 16, 17, 18, 19, 20, 21, 22, 23])
 (.cond (.tmp 24)
 (.seq (.region [
 ⟨some 4, none, .val (.mv (.const (.bool false)))⟩] [])
  .ret)
  .skip)))
 (.region [
 ⟨some 11, none, .val (.mv (.tmp 5))⟩,
 ⟨some 12, none, .val (.bin .sub T.int (.tmp 11) (.const (.int 1)))⟩,
 ⟨some 5, none, .val (.mv (.tmp 12))⟩] [11, 12]))))))
 (.seq (.region [
 ⟨some 4, none, .val (.mv (.const (.bool true)))⟩] [])
  .ret)))⟩
theorem H.slices_IsSortedFunc__Lint_int : Has P F.slices_IsSortedFunc__Lint_int C.slices_IsSortedFunc__Lint_int := ⟨Try.f24, Try.func24, by kernel_rfl, by kernel_rfl⟩

/-- podium/season.Points$1 -/
noncomputable def C.season_Points_1 : MFunc := ⟨8, 2, [.tmp 4],
 (.seq (.region [
 ⟨some 4, none, .val (.mv (.const (.int 0)))⟩] [])
 (.seq (.region [
 ⟨some 5, none, .val (.mv (.tmp 1))⟩,
 ⟨some 6, none, .val (.mv (.tmp 0))⟩,
 ⟨some 7, none, .call (.const (.func (.func F.cmp_Compare__int) [] [])) [(.tmp 5), (.tmp 6)]⟩,
 ⟨some 4, none, .val (.mv (.tmp 7))⟩] [5, 6, 7])
  .ret))⟩
theorem H.season_Points_1 : Has P F.season_Points_1 C.season_Points_1 := ⟨Try.f25, Try.func25, by kernel_rfl, by kernel_rfl⟩

/-- cmp.Compare[int] -/
noncomputable def C.cmp_Compare__int : MFunc := ⟨20, 2, [.tmp 4],
 (.seq (.region [
 ⟨some 4, none, .val (.mv (.const (.int 0)))⟩] [])
 (.seq (.region [
 ⟨some 7, none, .val (.mv (.tmp 0))⟩,
 ⟨some 8, none, .call (.const (.func (.func F.cmp_isNaN__int) [] [])) [(.tmp 7)]⟩,
 ⟨some 5, none, .val (.mv (.tmp 8))⟩] [7, 8])
 (.seq (.region [
 ⟨some 9, none, .val (.mv (.tmp 1))⟩,
 ⟨some 10, none, .call (.const (.func (.func F.cmp_isNaN__int) [] [])) [(.tmp 9)]⟩,
 ⟨some 6, none, .val (.mv (.tmp 10))⟩] [9, 10])
 (.seq (.seq (.region [
 ⟨some 11, none, .val (.mv (.tmp 5))⟩] [])
 (.cond (.tmp 11)
 (.seq (.seq (.region [
 ⟨some 12, none, .val (.mv (.tmp 6))⟩] [])
 (.cond (.tmp 12)
 (.seq (.region [
 ⟨some 4, none, .val (.mv (.const (.int 0)))⟩] [])
  .ret)
  .skip))
 (.seq (.region [
 ⟨some 4, none, .val (.mv (.const (.int (-1))))⟩] [])
  .ret))
  .skip))
 (.seq (.seq (.region [
 ⟨some 13, none, .val (.mv (.tmp 6))⟩] [])
 (.cond (.tmp 13)
 (.seq (.region [
 ⟨some 4, none, .val (.mv (.const (.int 1)))⟩] [])
  .ret)
  .skip))
 (.seq (.seq (.region [
 ⟨some 14, none, .val (.mv (.tmp 0))⟩,
 ⟨some 15, none, .val (.mv (.tmp 1))⟩,
 ⟨some 16, none, .val (.bin .lss T.int (.tmp 14) (.tmp 15))⟩] [14, 15])
 (.cond (.tmp 16)
 (.seq (.region [
 ⟨some 4, none, .val (.mv (.const (.int (-1))))⟩] [])
  .ret)
  .skip))
 (.seq (.seq (.region [
 ⟨some 17, none, .val (.mv (.tmp 0))⟩,
 ⟨some 18, none, .val (.mv (.tmp 1))⟩,
 ⟨some 19, none, .val (.bin .gtr T.int (.tmp 17) (.tmp 18))⟩] [17, 18])
 (.cond (.tmp 19)
 (.seq (.region [
 ⟨some 4, none, .val (.mv (.const (.int 1)))⟩] [])
  .ret)
  .skip))
 (.seq (.region [
 ⟨some 4, none, .val (.mv (.const (.int 0)))⟩] [])
  .ret))))))))⟩
theorem H.cmp_Compare__int : Has P F.cmp_Compare__int C.cmp_Compare__int := ⟨Try.f26, Try.func26, by kernel_rfl, by kernel_rfl⟩

/-- podium/season.amounts -/
noncomputable def C.season_amounts : MFunc := ⟨6, 1, [.tmp 2],
 (.seq (.region [
 ⟨some 2, none, .val (.mv (.const (.bool false)))⟩] [])
 (.seq (.region [
 ⟨some 3, none, .val (.mv (.tmp 0))⟩,
 ⟨some 4, none, .call (.const (.func (.func F.slices_ContainsFunc__Lint_int) [] [])) [(.tmp 3), (.const (.func (.func F.season_amounts_1) [] []))]⟩,
 ⟨some 5, none, .val (.un .not (.tmp 4))⟩,
 ⟨some 2, none, .val (.mv (.tmp 5))⟩] [3, 4, 5])
  .ret))⟩
theorem H.season_amounts : Has P F.season_amounts C.season_amounts := ⟨Try.f27, Try.func27, by kernel_rfl, by kernel_rfl⟩

/-- podium/standing.Check -/
noncomputable def C.standing_Check : MFunc := ⟨80, 1, [.tmp 2],
 (.seq (.region [
 ⟨some 2, none, .val (.mv (.const (.int 0)))⟩] [])
 (.seq (.seq (.region [
 ⟨some 7, none, .val (.mv (.tmp 0))⟩,
 ⟨some 8, none, .val (.len (.tmp 7))⟩,
 ⟨some 9, none, .val (.bin .gtr T.int (.tmp 8) (.const (.int 4096)))⟩] [7, 8])
 (.cond (.tmp 9)
 (.seq (.region [
 ⟨some 2, none, .val (.mv (.const (.int 2)))⟩] [])
  .ret)
  .skip))
 (.seq (.region [
 ⟨some 10, none, .mkMap⟩,
 ⟨some 3, none, .val (.mv (.tmp 10))⟩] [10])
 (.seq (.seq (.region [
 ⟨some 11, none, .val (.mv (.tmp 0))⟩,
 ⟨some 12, none, .val (.len (.tmp 11))⟩,
 ⟨some 13, none, .val (.mv (.const (.int 0)))⟩] [])
 (.block 0 (.loop (.seq (.region [
 ⟨some 14, none, .val (.bin .lss T.int (.tmp 13) (.tmp 12))⟩] [])
 (.seq (.cond (.tmp 14)
  .skip
 (.exit 0))
 (.seq (.block 1 (.seq (.region [
 ⟨some 15, none, .val (.mv (.tmp 13))⟩,
 ⟨some 16, none, .val (.indexAddr 3 (.tmp 11) (.tmp 13))⟩,
 ⟨some 17, none, .val (.load 3 true (.tmp 16))⟩,
 ⟨some 5, none, .alloc T.apiPlace [(.int 0), (.int 0), (.int 0)]⟩,
 ⟨some 4, none, .val (.mv (.tmp 15))⟩,
 ⟨none, none, .store 3 (.tmp 5) (.tmp 17)⟩] [15, 16, 17])
 (.seq (.draw false [
 (.early, ⟨some 18, none, .val (.mv (.tmp 4))⟩),
 (.early, ⟨some 19, none, .val (.bin .gtr T.int (.tmp 18) (.const (.int 0)))⟩),
 (.early, ⟨some 20, none, .val (.mv (.tmp 19))⟩),
 (.early, ⟨some 21, some (20, true), .val (.fieldAddr 1 (.tmp 5))⟩),
 (.early, ⟨some 22, some (20, true), .val (.load 1 false (.tmp 21))⟩),
 (.early, ⟨some 23, some (20, true), .val (.mv (.tmp 0))⟩),
 (.early, ⟨some 24, some (20, true), .val (.mv (.tmp 4))⟩),
 (.early, ⟨some 25, some (20, true), .val (.bin .sub T.int (.tmp 24) (.const (.int 1)))⟩),
 (.early, ⟨some 26, some (20, true), .val (.indexAddr 3 (.tmp 23) (.tmp 25))⟩),
 (.early, ⟨some 27, some (20, true), .val (.fieldAddr 1 (.tmp 26))⟩),
 (.early, ⟨some 28, some (20, true), .val (.load 1 false (.tmp 27))⟩),
 (.early, ⟨some 29, some (20, true), .val (.bin .eql T.int (.tmp 22) (.tmp 28))⟩),
 (.early, ⟨some 30, none, .val (.pick (.tmp 20) (.tmp 29) (.const (.bool false)))⟩),
 (.early, ⟨some 6, none, .val (.mv (.tmp 30))⟩)] [18, 19, 20, 21, 22, 23, 24, 25, 26, 27, 28, 29, 30])
 (.seq (.block 2 (.seq (.seq (.region [
 ⟨some 32, none, .val (.fieldAddr 0 (.tmp 5))⟩,
 ⟨some 33, none, .val (.load 1 false (.tmp 32))⟩,
 ⟨some 34, none, .val (.bin .lss T.int (.tmp 33) (.const (.int 0)))⟩,
 ⟨some 35, none, .val (.mv (.tmp 34))⟩,
 ⟨some 36, some (35, false), .val (.mv (.tmp 3))⟩,
 ⟨some 37, some (35, false), .val (.fieldAddr 0 (.tmp 5))⟩,
 ⟨some 38, some (35, false), .val (.load 1 false (.tmp 37))⟩,
 ⟨some 39, some (35, false), .val (.lookup (false, [.int]) (.bool false) false (.tmp 36) (.tmp 38))⟩,
 ⟨some 40, none, .val (.pick (.tmp 35) (.const (.bool true)) (.tmp 39))⟩,
 ⟨some 41, none, .val (.mv (.tmp 40))⟩,
 ⟨some 42, some (41, false), .val (.fieldAddr 2 (.tmp 5))⟩,
 ⟨some 43, some (41, false), .val (.load 1 false (.tmp 42))⟩,
 ⟨some 44, some (41, false), .val (.bin .lss T.int (.tmp 43) (.const (.int (-1))))⟩,
 ⟨some 45, none, .val (.pick (.tmp 41) (.const (.bool true)) (.tmp 44))⟩,
 ⟨some 31, none, .val (.mv (.tmp 45))⟩] [32, 33, 34, 35, 36, 37, 38, 39, 40, 41, 42, 43, 44, 45])
 (.cond (.tmp 31)
  .skip
 (.seq (.region [
 ⟨some 46, none, .val (.fieldAddr 2 (.tmp 5))⟩,
 ⟨some 47, none, .val (.load 1 false (.tmp 46))⟩,
 ⟨some 48, none, .val (.bin .eql T.int (.tmp 47) (.const (.int (-1))))⟩,
 ⟨some 49, none, .val (.mv (.tmp 6))⟩,
 ⟨some 50, none, .val (.mv (.tmp 49))⟩,
 ⟨some 51, some (50, false), .val (.mv (.tmp 4))⟩,
 ⟨some 52, some (50, false), .val (.bin .eql T.int (.tmp 51) (.const (.int 0)))⟩,
 ⟨some 53, none, .val (.pick (.tmp 50) (.const (.bool true)) (.tmp 52))⟩,
 ⟨some 54, none, .val (.eqBool true (.tmp 48) (.tmp 53))⟩,
 ⟨some 31, none, .val (.mv (.tmp 54))⟩] [46, 47, 48, 49, 50, 51, 52, 53, 54])
 (.cond (.tmp 31)
  .skip
 (.seq (.draw false [
 (.early, ⟨some 55, none, .val (.mv (.tmp 6))⟩),
 (.early, ⟨some 56, none, .val (.mv (.tmp 55))⟩),
 (.early, ⟨some 57, some (56, true), .val (.mv (.tmp 0))⟩),
 (.early, ⟨some 58, some (56, true), .val (.mv (.tmp 4))⟩),
 (.early, ⟨some 59, some (56, true), .val (.bin .sub T.int (.tmp 58) (.const (.int 1)))⟩),
 (.early, ⟨some 60, some (56, true), .val (.indexAddr 3 (.tmp 57) (.tmp 59))⟩),
 (.early, ⟨some 61, some (56, true), .val (.fieldAddr 0 (.tmp 60))⟩),
 (.early, ⟨some 62, some (56, true), .val (.load 1 false (.tmp 61))⟩),
 (.early, ⟨some 63, some (56, true), .val (.fieldAddr 0 (.tmp 5))⟩),
 (.early, ⟨some 64, some (56, true), .val (.load 1 false (.tmp 63))⟩),
 (.early, ⟨some 65, some (56, true), .val (.bin .geq T.int (.tmp 62) (.tmp 64))⟩),
 (.early, ⟨some 66, none, .val (.pick (.tmp 56) (.tmp 65) (.const (.bool false)))⟩),
 (.early, ⟨some 31, none, .val (.mv (.tmp 66))⟩)] [55, 56, 57, 58, 59, 60, 61, 62, 63, 64, 65, 66])
 (.cond (.tmp 31)
  .skip
 (.region [
 ⟨some 67, none, .val (.mv (.tmp 6))⟩,
 ⟨some 68, none, .val (.un .not (.tmp 67))⟩,
 ⟨some 69, none, .val (.mv (.tmp 68))⟩,
 ⟨some 70, some (69, true), .val (.fieldAddr 1 (.tmp 5))⟩,
 ⟨some 71, some (69, true), .val (.load 1 false (.tmp 70))⟩,
 ⟨some 72, some (69, true), .val (.mv (.tmp 4))⟩,
 ⟨some 73, some (69, true), .val (.bin .add T.int (.tmp 72) (.const (.int 1)))⟩,
 ⟨some 74, some (69, true), .val (.bin .neq T.int (.tmp 71) (.tmp 73))⟩,
 ⟨some 75, none, .val (.pick (.tmp 69) (.tmp 74) (.const (.bool false)))⟩,
 ⟨some 31, none, .val (.mv (.tmp 75))⟩] [67, 68, 69, 70, 71, 72, 73, 74, 75])))))))
 (.cond (.tmp 31)
 (.seq (.region [
 ⟨some 2, none, .val (.mv (.const (.int 230)))⟩] [])
  .ret)
  .skip)))
 (.region [
 ⟨some 76, none, .val (.mv (.tmp 3))⟩,
 ⟨some 77, none, .val (.fieldAddr 0 (.tmp 5))⟩,
 ⟨some 78, none, .val (.load 1 false (.tmp 77))⟩,
 ⟨none, none, .mapSet (false, [.int]) (.tmp 76) (.tmp 78) (.const (.bool true))⟩] [76, 77, 78])))))
 (.region [
 ⟨some 79, none, .val (.bin .add T.int (.tmp 13) (.const (.int 1)))⟩,
 ⟨some 13, none, .val (.mv (.tmp 79))⟩] [79])))))))
 (.seq (.region [
 ⟨some 2, none, .val (.mv (.const (.int 0)))⟩] [])
  .ret)))))⟩
theorem H.standing_Check : Has P F.standing_Check C.standing_Check := ⟨Try.f28, Try.func28, by kernel_rfl, by kernel_rfl⟩

/-- podium/podiumref26.amount -/
noncomputable def C.podiumref26_amount : MFunc := ⟨9, 1, [.tmp 2],
 (.seq (.region [
 ⟨some 2, none, .val (.mv (.const (.bool false)))⟩] [])
 (.seq (.region [
 ⟨some 3, none, .val (.mv (.tmp 0))⟩,
 ⟨some 4, none, .val (.bin .geq T.int (.tmp 3) (.const (.int 0)))⟩,
 ⟨some 5, none, .val (.mv (.tmp 4))⟩,
 ⟨some 6, some (5, true), .val (.mv (.tmp 0))⟩,
 ⟨some 7, some (5, true), .val (.bin .leq T.int (.tmp 6) (.const (.int 1099511627776)))⟩,
 ⟨some 8, none, .val (.pick (.tmp 5) (.tmp 7) (.const (.bool false)))⟩,
 ⟨some 2, none, .val (.mv (.tmp 8))⟩] [3, 4, 5, 6, 7, 8])
  .ret))⟩
theorem H.podiumref26_amount : Has P F.podiumref26_amount C.podiumref26_amount := ⟨Try.f29, Try.func29, by kernel_rfl, by kernel_rfl⟩

/-- slices.ContainsFunc[[][]int,[]int] -/
noncomputable def C.slices_ContainsFunc__LLint_Lint : MFunc := ⟨9, 2, [.tmp 4],
 (.seq (.region [
 ⟨some 4, none, .val (.mv (.const (.bool false)))⟩] [])
 (.seq (.region [
 ⟨some 5, none, .val (.mv (.tmp 0))⟩,
 ⟨some 6, none, .val (.mv (.tmp 1))⟩,
 ⟨some 7, none, .call (.const (.func (.func F.slices_IndexFunc__LLint_Lint) [] [])) [(.tmp 5), (.tmp 6)]⟩,
 ⟨some 8, none, .val (.bin .geq T.int (.tmp 7) (.const (.int 0)))⟩,
 ⟨some 4, none, .val (.mv (.tmp 8))⟩] [5, 6, 7, 8])
  .ret))⟩
theorem H.slices_ContainsFunc__LLint_Lint : Has P F.slices_ContainsFunc__LLint_Lint C.slices_ContainsFunc__LLint_Lint := ⟨Try.f30, Try.func30, by kernel_rfl, by kernel_rfl⟩

/-- podium/season.Total$1 -/
noncomputable def C.season_Total_1 : MFunc := ⟨6, 1, [.tmp 2],
 (.seq (.region [
 ⟨some 2, none, .val (.mv (.const (.bool false)))⟩] [])
 (.seq (.region [
 ⟨some 3, none, .val (.mv (.tmp 0))⟩,
 ⟨some 4, none, .val (.len (.tmp 3))⟩,
 ⟨some 5, none, .val (.bin .gtr T.int (.tmp 4) (.const (.int 64)))⟩,
 ⟨some 2, none, .val (.mv (.tmp 5))⟩] [3, 4, 5])
  .ret))⟩
theorem H.season_Total_1 : Has P F.season_Total_1 C.season_Total_1 := ⟨Try.f31, Try.func31, by kernel_rfl, by kernel_rfl⟩

/-- podium/season.between -/
noncomputable def C.season_between : MFunc := ⟨15, 3, [.tmp 6],
 (.seq (.region [
 ⟨some 6, none, .val (.mv (.const (.bool false)))⟩] [])
 (.seq (.region [
 ⟨some 7, none, .val (.mv (.tmp 0))⟩,
 ⟨some 8, none, .val (.mv (.tmp 1))⟩,
 ⟨some 9, none, .val (.bin .geq T.int (.tmp 7) (.tmp 8))⟩,
 ⟨some 10, none, .val (.mv (.tmp 9))⟩,
 ⟨some 11, some (10, true), .val (.mv (.tmp 0))⟩,
 ⟨some 12, some (10, true), .val (.mv (.tmp 2))⟩,
 ⟨some 13, some (10, true), .val (.bin .leq T.int (.tmp 11) (.tmp 12))⟩,
 ⟨some 14, none, .val (.pick (.tmp 10) (.tmp 13) (.const (.bool false)))⟩,
 ⟨some 6, none, .val (.mv (.tmp 14))⟩] [7, 8, 9, 10, 11, 12, 13, 14])
  .ret))⟩
theorem H.season_between : Has P F.season_between C.season_between := ⟨Try.f32, Try.func32, by kernel_rfl, by kernel_rfl⟩

/-- podium/season.Total$2 -/
noncomputable def C.season_Total_2 : MFunc := ⟨6, 1, [.tmp 2],
 (.seq (.region [
 ⟨some 2, none, .val (.mv (.const (.bool false)))⟩] [])
 (.seq (.region [
 ⟨some 3, none, .val (.mv (.tmp 0))⟩,
 ⟨some 4, none, .call (.const (.func (.func F.season_amounts) [] [])) [(.tmp 3)]⟩,
 ⟨some 5, none, .val (.un .not (.tmp 4))⟩,
 ⟨some 2, none, .val (.mv (.tmp 5))⟩] [3, 4, 5])
  .ret))⟩
theorem H.season_Total_2 : Has P F.season_Total_2 C.season_Total_2 := ⟨Try.f33, Try.func33, by kernel_rfl, by kernel_rfl⟩

/-- podium/season.greatest -/
noncomputable def C.season_greatest : MFunc := ⟨78, 2, [.tmp 4],
 (.seq (.region [
 ⟨some 4, none, .val (.mv (.const (.int 0)))⟩] [])
 (.seq (.region [
 ⟨some 5, none, .val (.mv (.const .nil))⟩] [])
 (.seq (.seq (.region [
 ⟨some 12, none, .val (.mv (.tmp 0))⟩,
 ⟨some 13, none, .val (.len (.tmp 12))⟩,
 ⟨some 14, none, .val (.mv (.const (.int 0)))⟩] [])
 (.block 0 (.loop (.seq (.region [
 ⟨some 15, none, .val (.bin .lss T.int (.tmp 14) (.tmp 13))⟩] [])
 (.seq (.cond (.tmp 15)
  .skip
 (.exit 0))
 (.seq (.block 1 (.seq (.region [
 ⟨some 16, none, .val (.indexAddr 1 (.tmp 12) (.tmp 14))⟩,
 ⟨some 17, none, .val (.load 1 false (.tmp 16))⟩,
 ⟨some 7, none, .val (.mv (.tmp 17))⟩] [16, 17])
 (.seq (.region [
 ⟨some 18, none, .val (.mv (.tmp 5))⟩,
 ⟨some 19, none, .val (.mv (.tmp 7))⟩,
 ⟨some 20, none, .val (.buildSlice T.int 1 [(.int 0)] [(0, 1, (.tmp 19))])⟩,
 ⟨some 21, none, .append T.int 8 1 (.tmp 18) (.tmp 20)⟩,
 ⟨some 5, none, .val (.mv (.tmp 21))⟩] [18, 19, 20, 21])
 (.seq (.seq (.region [
 ⟨some 22, none, .val (.mv (.tmp 5))⟩,
 ⟨some 23, none, .val (.len (.tmp 22))⟩,
 ⟨some 24, none, .val (.bin .sub T.int (.tmp 23) (.const (.int 1)))⟩,
 ⟨some 25, none, .val (.mv (.const (.int 0)))⟩] [22, 23])
 (.block 2 (.loop (.seq (.region [
 ⟨some 26, none, .val (.bin .lss T.int (.tmp 25) (.tmp 24))⟩] [])
 (.seq (.cond (.tmp 26)
  .skip
 (.exit 2))
 (.seq (.block 3 (.seq (.region [
 ⟨some 27, none, .val (.mv (.tmp 25))⟩,
 ⟨some 8, none, .val (.mv (.tmp 27))⟩] [27])
 (.seq (.region [
 ⟨some 28, none, .val (.mv (.tmp 5))⟩,
 ⟨some 29, none, .val (.len (.tmp 28))⟩,
 ⟨some 30, none, .val (.bin .sub T.int (.tmp 29) (.const (.int 1)))⟩,
 ⟨some 31, none, .val (.mv (.tmp 8))⟩,
 ⟨some 32, none, .val (.bin .sub T.int (.tmp 30) (.tmp 31))⟩,
 ⟨some 9, none, .val (.mv (.tmp 32))⟩] [28, 29, 30, 31, 32])
 (.seq (.seq (.draw false [
 (.early, ⟨some 33, none, .val (.mv (.tmp 5))⟩),
 (.early, ⟨some 34, none, .val (.mv (.tmp 9))⟩),
 (.early, ⟨some 35, none, .val (.bin .sub T.int (.tmp 34) (.const (.int 1)))⟩),
 (.early, ⟨some 36, none, .val (.indexAddr 1 (.tmp 33) (.tmp 35))⟩),
 (.early, ⟨some 37, none, .val (.load 1 false (.tmp 36))⟩),
 (.early, ⟨some 38, none, .val (.mv (.tmp 5))⟩),
 (.early, ⟨some 39, none, .val (.mv (.tmp 9))⟩),
 (.early, ⟨some 40, none, .val (.indexAddr 1 (.tmp 38) (.tmp 39))⟩),
 (.early, ⟨some 41, none, .val (.load 1 false (.tmp 40))⟩),
 (.early, ⟨some 42, none, .val (.bin .geq T.int (.tmp 37) (.tmp 41))⟩)] [33, 34, 35, 36, 37, 38, 39, 40, 41])
 (.cond (.tmp 42)
 (.exit 2)
  .skip))
 (.draw true [
 (.early, ⟨some 43, none, .val (.mv (.tmp 5))⟩),
 (.early, ⟨some 44, none, .val (.mv (.tmp 9))⟩),
 (.early, ⟨some 45, none, .val (.bin .sub T.int (.tmp 44) (.const (.int 1)))⟩),
 (.late, ⟨some 46, none, .val (.mv (.tmp 5))⟩),
 (.late, ⟨some 47, none, .val (.mv (.tmp 9))⟩),
 (.early, ⟨some 48, none, .val (.mv (.tmp 5))⟩),
 (.early, ⟨some 49, none, .val (.mv (.tmp 9))⟩),
 (.early, ⟨some 50, none, .val (.indexAddr 1 (.tmp 48) (.tmp 49))⟩),
 (.early, ⟨some 51, none, .val (.load 1 false (.tmp 50))⟩),
 (.early, ⟨some 52, none, .val (.mv (.tmp 5))⟩),
 (.early, ⟨some 53, none, .val (.mv (.tmp 9))⟩),
 (.early, ⟨some 54, none, .val (.bin .sub T.int (.tmp 53) (.const (.int 1)))⟩),
 (.early, ⟨some 55, none, .val (.indexAddr 1 (.tmp 52) (.tmp 54))⟩),
 (.early, ⟨some 56, none, .val (.load 1 false (.tmp 55))⟩),
 (.early, ⟨some 57, none, .val (.indexAddr 1 (.tmp 43) (.tmp 45))⟩),
 (.last, ⟨none, none, .store 1 (.tmp 57) (.tmp 51)⟩),
 (.late, ⟨some 58, none, .val (.indexAddr 1 (.tmp 46) (.tmp 47))⟩),
 (.last, ⟨none, none, .store 1 (.tmp 58) (.tmp 56)⟩)] [43, 44, 45, 46, 47, 48, 49, 50, 51, 52, 53, 54, 55, 56, 57, 58])))))
 (.region [
 ⟨some 59, none, .val (.bin .add T.int (.tmp 25) (.const (.int 1)))⟩,
 ⟨some 25, none, .val (.mv (.tmp 59))⟩] [59])))))))
 (.region [
 ⟨some 60, none, .val (.mv (.tmp 5))⟩,
 ⟨some 61, none, .val (.mv (.tmp 5))⟩,
 ⟨some 62, none, .val (.len (.tmp 61))⟩,
 ⟨some 63, none, .val (.mv (.tmp 1))⟩,
 ⟨some 64, none, .val (.minmax false [(.tmp 62), (.tmp 63)])⟩,
 ⟨some 65, none, .val (.slice 1 (.tmp 60) none (some (.tmp 64)) none)⟩,
 ⟨some 5, none, .val (.mv (.tmp 65))⟩] [60, 61, 62, 63, 64, 65])))))
 (.region [
 ⟨some 66, none, .val (.bin .add T.int (.tmp 14) (.const (.int 1)))⟩,
 ⟨some 14, none, .val (.mv (.tmp 66))⟩] [66])))))))
 (.seq (.seq (.region [
 ⟨some 67, none, .val (.mv (.tmp 5))⟩,
 ⟨some 68, none, .val (.len (.tmp 67))⟩,
 ⟨some 69, none, .val (.mv (.const (.int 0)))⟩] [])
 (.block 4 (.loop (.seq (.region [
 ⟨some 70, none, .val (.bin .lss T.int (.tmp 69) (.tmp 68))⟩] [])
 (.seq (.cond (.tmp 70)
  .skip
 (.exit 4))
 (.seq (.block 5 (.seq (.region [
 ⟨some 71, none, .val (.indexAddr 1 (.tmp 67) (.tmp 69))⟩,
 ⟨some 72, none, .val (.load 1 false (.tmp 71))⟩,
 ⟨some 11, none, .val (.mv (.tmp 72))⟩] [71, 72])
 (.region [
 ⟨some 73, none, .val (.mv (.tmp 4))⟩,
 ⟨some 74, none, .val (.mv (.tmp 11))⟩,
 ⟨some 75, none, .val (.bin .add T.int (.tmp 73) (.tmp 74))⟩,
 ⟨some 4, none, .val (.mv (.tmp 75))⟩] [73, 74, 75])))
 (.region [
 ⟨some 76, none, .val (.bin .add T.int (.tmp 69) (.const (.int 1)))⟩,
 ⟨some 69, none, .val (.mv (.tmp 76))⟩] [76])))))))
 (.seq (.region [
 ⟨some 77, none, .val (.mv (.tmp 4))⟩,
 ⟨some 4, none, .val (.mv (.tmp 77))⟩] [77])
  .ret)))))⟩
theorem H.season_greatest : Has P F.season_greatest C.season_greatest := ⟨Try.f34, Try.func34, by kernel_rfl, by kernel_rfl⟩

/-- podium/podiumref26.put -/
noncomputable def C.podiumref26_put : MFunc := ⟨32, 2, [.tmp 4],
 (.seq (.region [
 ⟨some 4, none, .val (.mv (.const .nil))⟩] [])
 (.seq (.region [
 ⟨some 5, none, .val (.mv (.const (.int 0)))⟩] [])
 (.seq (.block 0 (.loop (.seq (.seq (.region [
 ⟨some 6, none, .val (.mv (.tmp 5))⟩,
 ⟨some 7, none, .val (.mv (.tmp 0))⟩,
 ⟨some 8, none, .val (.len (.tmp 7))⟩,
 ⟨some 9, none, .val (.bin .lss T.int (.tmp 6) (.tmp 8))⟩,
 ⟨some 10, none, .val (.mv (.tmp 9))⟩,
 ⟨some 11, some (10, true), .val (.mv (.tmp 0))⟩,
 ⟨some 12, some (10, true), .val (.mv (.tmp 5))⟩,
 ⟨some 13, some (10, true), .val (.indexAddr 1 (.tmp 11) (.tmp 12))⟩,
 ⟨some 14, some (10, true), .val (.load 1 false (.tmp 13))⟩,
 ⟨some 15, some (10, true), .val (.mv (.tmp 1))⟩,
 ⟨some 16, some (10, true), .val (.bin .geq T.int (.tmp 14) (.tmp 15))⟩,
 ⟨some 17, none, .val (.pick (.tmp 10) (.tmp 16) (.const (.bool false)))⟩] [6, 7, 8, 9, 10, 11, 12, 13, 14, 15, 16])
 (.cond (.tmp 17)
  .skip
 (.exit 0)))
 (.block 1 (.region [
 ⟨some 18, none, .val (.mv (.tmp 5))⟩,
 ⟨some 19, none, .val (.bin .add T.int (.tmp 18) (.const (.int 1)))⟩,
 ⟨some 5, none, .val (.mv (.tmp 19))⟩] [18, 19])))))
 (.seq (.draw true [
 (.early, ⟨some 20, none, .val (.buildSlice T.int 0 [] [])⟩),
 (.early, ⟨some 21, none, .val (.mv (.tmp 0))⟩),
 (.early, ⟨some 22, none, .val (.mv (.tmp 5))⟩),
 (.early, ⟨some 23, none, .val (.slice 1 (.tmp 21) none (some (.tmp 22)) none)⟩),
 (.late, ⟨some 25, none, .val (.mv (.tmp 1))⟩),
 (.late, ⟨some 26, none, .val (.buildSlice T.int 1 [(.int 0)] [(0, 1, (.tmp 25))])⟩),
 (.late, ⟨some 28, none, .val (.mv (.tmp 0))⟩),
 (.late, ⟨some 29, none, .val (.mv (.tmp 5))⟩),
 (.late, ⟨some 30, none, .val (.slice 1 (.tmp 28) (some (.tmp 29)) none none)⟩),
 (.hard, ⟨some 24, none, .append T.int 8 1 (.tmp 20) (.tmp 23)⟩),
 (.hard, ⟨some 27, none, .append T.int 8 1 (.tmp 24) (.tmp 26)⟩),
 (.hard, ⟨some 31, none, .append T.int 8 1 (.tmp 27) (.tmp 30)⟩),
 (.late, ⟨some 4, none, .val (.mv (.tmp 31))⟩)] [20, 21, 22, 23, 24, 25, 26, 27, 28, 29, 30, 31])
  .ret))))⟩
theorem H.podiumref26_put : Has P F.podiumref26_put C.podiumref26_put := ⟨Try.f35, Try.func35, by kernel_rfl, by kernel_rfl⟩

/-- podium/season.right -/
noncomputable def C.season_right : MFunc := ⟨26, 2, [.tmp 4],
 (.seq (.region [
 ⟨some 2, none, .box T.apiRecord (.tmp 0)⟩,
 ⟨some 4, none, .val (.mv (.const (.bool false)))⟩] [])
 (.seq (.region [
 ⟨some 5, none, .val (.fieldAddr 0 (.tmp 2))⟩,
 ⟨some 6, none, .val (.load 1 false (.tmp 5))⟩,
 ⟨some 7, none, .val (.mv (.tmp 1))⟩,
 ⟨some 8, none, .val (.bin .add T.int (.tmp 7) (.const (.int 1)))⟩,
 ⟨some 9, none, .call (.const (.func (.func F.season_between) [] [])) [(.tmp 6), (.tmp 8), (.const (.int 1048576))]⟩,
 ⟨some 10, none, .val (.mv (.tmp 9))⟩,
 ⟨some 11, some (10, true), .val (.fieldAddr 1 (.tmp 2))⟩,
 ⟨some 12, some (10, true), .val (.load 1 false (.tmp 11))⟩,
 ⟨some 13, some (10, true), .call (.const (.func (.func F.season_between) [] [])) [(.tmp 12), (.const (.int 0)), (.const (.int 4095))]⟩,
 ⟨some 14, none, .val (.pick (.tmp 10) (.tmp 13) (.const (.bool false)))⟩,
 ⟨some 15, none, .val (.mv (.tmp 14))⟩,
 ⟨some 16, some (15, true), .val (.fieldAddr 2 (.tmp 2))⟩,
 ⟨some 17, some (15, true), .val (.load 1 false (.tmp 16))⟩,
 ⟨some 18, some (15, true), .call (.const (.func (.func F.season_between) [] [])) [(.tmp 17), (.const (.int 0)), (.const (.int 2097151))]⟩,
 ⟨some 19, none, .val (.pick (.tmp 15) (.tmp 18) (.const (.bool false)))⟩,
 ⟨some 20, none, .val (.mv (.tmp 19))⟩,
 ⟨some 21, some (20, true), .val (.fieldAddr 3 (.tmp 2))⟩,
 ⟨some 22, some (20, true), .val (.load 4 true (.tmp 21))⟩,
 ⟨some 23, some (20, true), .call (.const (.func (.func F.ratio_Check) [] [])) [(.tmp 22)]⟩,
 ⟨some 24, some (20, true), .val (.bin .eql T.apiErrno (.tmp 23) (.const (.int 0)))⟩,
 ⟨some 25, none, .val (.pick (.tmp 20) (.tmp 24) (.const (.bool false)))⟩,
 ⟨some 4, none, .val (.mv (.tmp 25))⟩] [5, 6, 7, 8, 9, 10, 11, 12, 13, 14, 15, 16, 17, 18, 19, 20, 21, 22, 23, 24, 25])
  .ret))⟩
theorem H.season_right : Has P F.season_right C.season_right := ⟨Try.f37, Try.func37, by kernel_rfl, by kernel_rfl⟩

/-- (*podium/season.book).less -/
noncomputable def C.Pseason_book_less : MFunc := ⟨32, 3, [.tmp 6],
 (.seq (.region [
 ⟨some 4, none, .box T.apiRecord (.tmp 1)⟩,
 ⟨some 5, none, .box T.apiRecord (.tmp 2)⟩,
 ⟨some 6, none, .val (.mv (.const (.bool false)))⟩] [])
 (.seq (.region [
 ⟨some 10, none, .val (.fieldAddr 3 (.tmp 4))⟩,
 ⟨some 11, none, .val (.load 4 true (.tmp 10))⟩,
 ⟨some 12, none, .val (.fieldAddr 3 (.tmp 5))⟩,
 ⟨some 13, none, .val (.load 4 true (.tmp 12))⟩,
 ⟨some 14, none, .call (.const (.func (.func F.ratio_Cmp) [] [])) [(.tmp 11), (.tmp 13)]⟩,
 ⟨some 9, none, .val (.mv (.tmp 14))⟩,
 ⟨some 15, none, .val (.extract 0 (.tmp 9))⟩,
 ⟨some 16, none, .val (.extract 1 (.tmp 9))⟩,
 ⟨some 7, none, .val (.mv (.tmp 15))⟩,
 ⟨some 8, none, .val (.mv (.tmp 16))⟩] [10, 11, 12, 13, 14, 9, 15, 16])
 (.seq (.seq (.region [
 ⟨some 17, none, .val (.mv (.tmp 8))⟩,
 ⟨some 18, none, .val (.bin .neq T.apiErrno (.tmp 17) (.const (.int 0)))⟩,
 ⟨some 19, none, .val (.mv (.tmp 18))⟩,
 ⟨some 20, some (19, true), .val (.mv (.tmp 0))⟩,
 ⟨some 21, some (19, true), .val (.nilCheck (.tmp 20))⟩,
 ⟨some 22, some (19, true), .val (.fieldAddr 0 (.tmp 21))⟩,
 ⟨some 23, some (19, true), .val (.load 1 false (.tmp 22))⟩,
 ⟨some 24, some (19, true), .val (.bin .eql T.apiErrno (.tmp 23) (.const (.int 0)))⟩,
 ⟨some 25, none, .val (.pick (.tmp 19) (.tmp 24) (.const (.bool false)))⟩] [17, 18, 19, 20, 21, 22, 23, 24])
 (.cond (.tmp 25)
 (.region [
 ⟨some 26, none, .val (.mv (.tmp 0))⟩,
 ⟨some 27, none, .val (.mv (.tmp 8))⟩,
 ⟨some 28, none, .val (.nilCheck (.tmp 26))⟩,
 ⟨some 29, none, .val (.fieldAddr 0 (.tmp 28))⟩,
 ⟨none, none, .store 1 (.tmp 29) (.tmp 27)⟩] [26, 27, 28, 29])
  .skip))
 (.seq (.region [
 ⟨some 30, none, .val (.mv (.tmp 7))⟩,
 ⟨some 31, none, .val (.bin .lss T.int (.tmp 30) (.const (.int 0)))⟩,
 ⟨some 6, none, .val (.mv (.tmp 31))⟩] [30, 31])
  .ret))))⟩
theorem H.Pseason_book_less : Has P F.Pseason_book_less C.Pseason_book_less := ⟨Try.f38, Try.func38, by kernel_rfl, by kernel_rfl⟩

/-- slices.Clone[[]podium/api.Record,podium/api.Record] -/
noncomputable def C.slices_Clone__LapiRecord_apiRecord : MFunc := ⟨8, 1, [.tmp 2],
 (.seq (.region [
 ⟨some 2, none, .val (.mv (.const .nil))⟩] [])
 (.seq (.seq (.region [
 ⟨some 3, none, .val (.mv (.tmp 0))⟩,
 ⟨some 4, none, .eqNil false .slice (.tmp 3)⟩] [3])
 (.cond (.tmp 4)
 (.seq (.region [
 ⟨some 2, none, .val (.mv (.const .nil))⟩] [])
  .ret)
  .skip))
 (.seq (.region [
 ⟨some 5, none, .val (.buildSlice T.apiRecord 0 [] [])⟩,
 ⟨some 6, none, .val (.mv (.tmp 0))⟩,
 ⟨some 7, none, .append T.apiRecord 88 7 (.tmp 5) (.tmp 6)⟩,
 ⟨some 2, none, .val (.mv (.tmp 7))⟩] [5, 6, 7])
  .ret)))⟩
theorem H.slices_Clone__LapiRecord_apiRecord : Has P F.slices_Clone__LapiRecord_apiRecord C.slices_Clone__LapiRecord_apiRecord := ⟨Try.f39, Try.func39, by kernel_rfl, by kernel_rfl⟩

/-- slices.SortStableFunc[[]podium/api.Record,podium/api.Record] -/
noncomputable def C.slices_SortStableFunc__LapiRecord_apiRecord : MFunc := ⟨9, 2, [],
 (.region [
 ⟨some 4, none, .val (.mv (.tmp 0))⟩,
 ⟨some 5, none, .val (.mv (.tmp 0))⟩,
 ⟨some 6, none, .val (.len (.tmp 5))⟩,
 ⟨some 7, none, .val (.mv (.tmp 1))⟩,
 ⟨some 8, none, .call (.const (.func (.func F.slices_stableCmpFunc__apiRecord) [] [])) [(.tmp 4), (.tmp 6), (.tmp 7)]⟩] [4, 5, 6, 7, 8])⟩
theorem H.slices_SortStableFunc__LapiRecord_apiRecord : Has P F.slices_SortStableFunc__LapiRecord_apiRecord C.slices_SortStableFunc__LapiRecord_apiRecord := ⟨Try.f40, Try.func40, by kernel_rfl, by kernel_rfl⟩

/-- podium/season.Records$1 -/
noncomputable def C.season_Records_1 : MFunc := ⟨10, 2, [.tmp 4],
 (.seq (.region [
 ⟨some 2, none, .box T.apiRecord (.tmp 0)⟩,
 ⟨some 3, none, .box T.apiRecord (.tmp 1)⟩,
 ⟨some 4, none, .val (.mv (.const (.int 0)))⟩] [])
 (.seq (.region [
 ⟨some 5, none, .val (.fieldAddr 2 (.tmp 2))⟩,
 ⟨some 6, none, .val (.load 1 false (.tmp 5))⟩,
 ⟨some 7, none, .val (.fieldAddr 2 (.tmp 3))⟩,
 ⟨some 8, none, .val (.load 1 false (.tmp 7))⟩,
 ⟨some 9, none, .call (.const (.func (.func F.cmp_Compare__int) [] [])) [(.tmp 6), (.tmp 8)]⟩,
 ⟨some 4, none, .val (.mv (.tmp 9))⟩] [5, 6, 7, 8, 9])
  .ret))⟩
theorem H.season_Records_1 : Has P F.season_Records_1 C.season_Records_1 := ⟨Try.f41, Try.func41, by kernel_rfl, by kernel_rfl⟩

/-- slices.Collect[podium/api.Record] -/
noncomputable def C.slices_Collect__apiRecord : MFunc := ⟨5, 1, [.tmp 2],
 (.seq (.region [
 ⟨some 2, none, .val (.mv (.const .nil))⟩] [])
 (.seq (.region [
 ⟨some 3, none, .val (.mv (.tmp 0))⟩,
 ⟨some 4, none, .call (.const (.func (.func F.slices_AppendSeq__LapiRecord_apiRecord) [] [])) [(.const .nil), (.tmp 3)]⟩,
 ⟨some 2, none, .val (.mv (.tmp 4))⟩] [3, 4])
  .ret))⟩
theorem H.slices_Collect__apiRecord : Has P F.slices_Collect__apiRecord C.slices_Collect__apiRecord := ⟨Try.f42, Try.func42, by kernel_rfl, by kernel_rfl⟩

/-- podium/season.records -/
noncomputable def C.season_records : MFunc := ⟨6, 2, [.tmp 4],
 (.seq (.region [
 ⟨some 2, none, .box T.LapiRecord (.tmp 0)⟩,
 ⟨some 3, none, .box T.funcapiRecordapiRecordbool (.tmp 1)⟩,
 ⟨some 4, none, .val (.mv (.const (.val .nilFunc)))⟩] [])
 (.seq (.region [
 ⟨some 5, none, .val (.mkFunc (.func F.season_records_1) [] [(.tmp 2), (.tmp 3)])⟩,
 ⟨some 4, none, .val (.mv (.tmp 5))⟩] [5])
  .ret))⟩
theorem H.season_records : Has P F.season_records C.season_records := ⟨Try.f43, Try.func43, by kernel_rfl, by kernel_rfl⟩

/-- podium/podiumref10.Cmp -/
noncomputable def C.podiumref10_Cmp : MFunc := ⟨28, 2, [.tmp 4, .tmp 5],
 (.seq (.region [
 ⟨some 2, none, .box T.apiRatio (.tmp 0)⟩,
 ⟨some 3, none, .box T.apiRatio (.tmp 1)⟩,
 ⟨some 4, none, .val (.mv (.const (.int 0)))⟩,
 ⟨some 5, none, .val (.mv (.const (.int 0)))⟩] [])
 (.seq (.seq (.region [
 ⟨some 9, none, .val (.load 4 true (.tmp 2))⟩,
 ⟨some 10, none, .val (.load 4 true (.tmp 3))⟩,
 ⟨some 11, none, .call (.const (.func (.func F.podiumref10_valid) [] [])) [(.tmp 9), (.tmp 10)]⟩,
 ⟨some 12, none, .val (.un .not (.tmp 11))⟩] [9, 10, 11])
 (.cond (.tmp 12)
 (.seq (.region [
 ⟨some 4, none, .val (.mv (.const (.int 0)))⟩,
 ⟨some 5, none, .val (.mv (.const (.int 100)))⟩] [])
  .ret)
  .skip))
 (.seq (.region [
 ⟨some 14, none, .val (.load 4 true (.tmp 2))⟩,
 ⟨some 15, none, .val (.load 4 true (.tmp 3))⟩,
 ⟨some 16, none, .call (.const (.func (.func F.podiumref10_cross) [] [])) [(.tmp 14), (.tmp 15)]⟩,
 ⟨some 13, none, .val (.mv (.tmp 16))⟩,
 ⟨some 17, none, .val (.extract 0 (.tmp 13))⟩,
 ⟨some 18, none, .val (.extract 1 (.tmp 13))⟩,
 ⟨some 19, none, .val (.extract 2 (.tmp 13))⟩,
 ⟨some 6, none, .alloc T.apiBig [(.bool false), .nil]⟩,
 ⟨some 7, none, .alloc T.apiBig [(.bool false), .nil]⟩,
 ⟨none, none, .store 2 (.tmp 6) (.tmp 17)⟩,
 ⟨none, none, .store 2 (.tmp 7) (.tmp 18)⟩,
 ⟨some 8, none, .val (.mv (.tmp 19))⟩] [14, 15, 16, 13, 17, 18, 19])
 (.seq (.seq (.region [
 ⟨some 20, none, .val (.mv (.tmp 8))⟩,
 ⟨some 21, none, .val (.bin .neq T.apiErrno (.tmp 20) (.const (.int 0)))⟩] [20])
 (.cond (.tmp 21)
 (.seq (.region [
 ⟨some 22, none, .val (.mv (.tmp 8))⟩,
 ⟨some 4, none, .val (.mv (.const (.int 0)))⟩,
 ⟨some 5, none, .val (.mv (.tmp 22))⟩] [22])
  .ret)
  .skip))
 (.seq (.region [
 ⟨some 23, none, .val (.load 2 true (.tmp 6))⟩,
 ⟨some 24, none, .val (.load 2 true (.tmp 7))⟩,
 ⟨some 25, none, .call (.const (.func (.func F.podiumref09_Cmp) [] [])) [(.tmp 23), (.tmp 24)]⟩,
 ⟨some 26, none, .val (.extract 0 (.tmp 25))⟩,
 ⟨some 27, none, .val (.extract 1 (.tmp 25))⟩,
 ⟨some 4, none, .val (.mv (.tmp 26))⟩,
 ⟨some 5, none, .val (.mv (.tmp 27))⟩] [23, 24, 25, 26, 27])
  .ret)))))⟩
theorem H.podiumref10_Cmp : Has P F.podiumref10_Cmp C.podiumref10_Cmp := ⟨Try.f44, Try.func44, by kernel_rfl, by kernel_rfl⟩

/-- podium/podiumref10.Same -/
noncomputable def C.podiumref10_Same : MFunc := ⟨17, 2, [.tmp 4],
 (.seq (.region [
 ⟨some 2, none, .box T.apiRatio (.tmp 0)⟩,
 ⟨some 3, none, .box T.apiRatio (.tmp 1)⟩,
 ⟨some 4, none, .val (.mv (.const (.bool false)))⟩] [])
 (.seq (.region [
 ⟨some 5, none, .val (.fieldAddr 0 (.tmp 2))⟩,
 ⟨some 6, none, .val (.load 2 true (.tmp 5))⟩,
 ⟨some 7, none, .val (.fieldAddr 0 (.tmp 3))⟩,
 ⟨some 8, none, .val (.load 2 true (.tmp 7))⟩,
 ⟨some 9, none, .call (.const (.func (.func F.podiumref10_SameBig) [] [])) [(.tmp 6), (.tmp 8)]⟩,
 ⟨some 10, none, .val (.mv (.tmp 9))⟩,
 ⟨some 11, some (10, true), .val (.fieldAddr 2 (.tmp 2))⟩,
 ⟨some 12, some (10, true), .val (.load 2 true (.tmp 11))⟩,
 ⟨some 13, some (10, true), .val (.fieldAddr 2 (.tmp 3))⟩,
 ⟨some 14, some (10, true), .val (.load 2 true (.tmp 13))⟩,
 ⟨some 15, some (10, true), .call (.const (.func (.func F.podiumref10_SameBig) [] [])) [(.tmp 12), (.tmp 14)]⟩,
 ⟨some 16, none, .val (.pick (.tmp 10) (.tmp 15) (.const (.bool false)))⟩,
 ⟨some 4, none, .val (.mv (.tmp 16))⟩] [5, 6, 7, 8, 9, 10, 11, 12, 13, 14, 15, 16])
  .ret))⟩
theorem H.podiumref10_Same : Has P F.podiumref10_Same C.podiumref10_Same := ⟨Try.f45, Try.func45, by kernel_rfl, by kernel_rfl⟩

/-- podium/podiumref10.Check -/
noncomputable def C.podiumref10_Check : MFunc := ⟨43, 1, [.tmp 2],
 (.seq (.region [
 ⟨some 1, none, .box T.apiRatio (.tmp 0)⟩,
 ⟨some 2, none, .val (.mv (.const (.int 0)))⟩] [])
 (.seq (.seq (.region [
 ⟨some 7, none, .val (.fieldAddr 0 (.tmp 1))⟩,
 ⟨some 8, none, .val (.load 2 true (.tmp 7))⟩,
 ⟨some 9, none, .call (.const (.func (.func F.podiumref09_Check) [] [])) [(.tmp 8)]⟩,
 ⟨some 10, none, .val (.bin .neq T.apiErrno (.tmp 9) (.const (.int 0)))⟩,
 ⟨some 11, none, .val (.mv (.tmp 10))⟩,
 ⟨some 12, some (11, false), .val (.fieldAddr 2 (.tmp 1))⟩,
 ⟨some 13, some (11, false), .val (.load 2 true (.tmp 12))⟩,
 ⟨some 14, some (11, false), .call (.const (.func (.func F.podiumref09_Check) [] [])) [(.tmp 13)]⟩,
 ⟨some 15, some (11, false), .val (.bin .neq T.apiErrno (.tmp 14) (.const (.int 0)))⟩,
 ⟨some 16, none, .val (.pick (.tmp 11) (.const (.bool true)) (.tmp 15))⟩,
 ⟨some 17, none, .val (.mv (.tmp 16))⟩,
 ⟨some 18, some (17, false), .val (.fieldAddr 2 (.tmp 1))⟩,
 ⟨some 19, some (17, false), .val (.load 2 true (.tmp 18))⟩,
 ⟨some 20, some (17, false), .call (.const (.func (.func F.podiumref10_zero) [] [])) [(.tmp 19)]⟩,
 ⟨some 21, none, .val (.pick (.tmp 17) (.const (.bool true)) (.tmp 20))⟩,
 ⟨some 22, none, .val (.mv (.tmp 21))⟩,
 ⟨some 23, some (22, false), .val (.fieldAddr 2 (.tmp 1))⟩,
 ⟨some 24, some (22, false), .val (.fieldAddr 0 (.tmp 23))⟩,
 ⟨some 25, some (22, false), .val (.load 1 false (.tmp 24))⟩,
 ⟨some 26, none, .val (.pick (.tmp 22) (.const (.bool true)) (.tmp 25))⟩] [7, 8, 9, 10, 11, 12, 13, 14, 15, 16, 17, 18, 19, 20, 21, 22, 23, 24, 25])
 (.cond (.tmp 26)
 (.seq (.region [
 ⟨some 2, none, .val (.mv (.const (.int 100)))⟩] [])
  .ret)
  .skip))
 (.seq (.region [
 ⟨some 28, none, .val (.fieldAddr 0 (.tmp 1))⟩,
 ⟨some 29, none, .val (.load 2 true (.tmp 28))⟩,
 ⟨some 30, none, .val (.fieldAddr 2 (.tmp 1))⟩,
 ⟨some 31, none, .val (.load 2 true (.tmp 30))⟩,
 ⟨some 32, none, .call (.const (.func (.func F.podiumref09_Gcd) [] [])) [(.tmp 29), (.tmp 31)]⟩,
 ⟨some 27, none, .val (.mv (.tmp 32))⟩,
 ⟨some 33, none, .val (.extract 0 (.tmp 27))⟩,
 ⟨some 34, none, .val (.extract 1 (.tmp 27))⟩,
 ⟨some 3, none, .alloc T.apiBig [(.bool false), .nil]⟩,
 ⟨none, none, .store 2 (.tmp 3) (.tmp 33)⟩,
 ⟨some 4, none, .val (.mv (.tmp 34))⟩] [28, 29, 30, 31, 32, 27, 33, 34, 4])
 (.seq (.draw true [
 (.late, ⟨some 36, none, .val (.load 2 true (.tmp 3))⟩),
 (.hard, ⟨some 37, none, .call (.const (.func (.func F.podiumref09_Make) [] [])) [(.const (.int 1))]⟩),
 (.hard, ⟨some 38, none, .call (.const (.func (.func F.podiumref09_Cmp) [] [])) [(.tmp 36), (.tmp 37)]⟩),
 (.late, ⟨some 35, none, .val (.mv (.tmp 38))⟩),
 (.late, ⟨some 39, none, .val (.extract 0 (.tmp 35))⟩),
 (.late, ⟨some 40, none, .val (.extract 1 (.tmp 35))⟩),
 (.late, ⟨some 5, none, .val (.mv (.tmp 39))⟩),
 (.late, ⟨some 6, none, .val (.mv (.tmp 40))⟩)] [36, 37, 38, 35, 39, 40, 6])
 (.seq (.seq (.region [
 ⟨some 41, none, .val (.mv (.tmp 5))⟩,
 ⟨some 42, none, .val (.bin .neq T.int (.tmp 41) (.const (.int 0)))⟩] [41])
 (.cond (.tmp 42)
 (.seq (.region [
 ⟨some 2, none, .val (.mv (.const (.int 100)))⟩] [])
  .ret)
  .skip))
 (.seq (.region [
 ⟨some 2, none, .val (.mv (.const (.int 0)))⟩] [])
  .ret))))))⟩
theorem H.podiumref10_Check : Has P F.podiumref10_Check C.podiumref10_Check := ⟨Try.f46, Try.func46, by kernel_rfl, by kernel_rfl⟩

/-- podium/ratio.caught -/
noncomputable def C.ratio_caught : MRFunc := ⟨14, 1, 5, [],
 (.seq (.block 0 (.seq (.region [
 ⟨some 7, none, .eqNil false .iface (.tmp 5)⟩] [])
 (.cond (.tmp 7)
 (.region [
 ⟨some 2, none, .val (.mv (.tmp 5))⟩] [2])
 (.seq (.region [
 ⟨some 8, none, .val (.assert T.apiErrno (.int 0) true (.tmp 5))⟩,
 ⟨some 9, none, .val (.extract 1 (.tmp 8))⟩,
 ⟨some 10, none, .val (.extract 0 (.tmp 8))⟩] [8])
 (.cond (.tmp 9)
 (.seq (.region [
 ⟨some 3, none, .val (.mv (.tmp 10))⟩] [])
 (.region [
 ⟨some 11, none, .val (.mv (.tmp 0))⟩,
 ⟨some 12, none, .val (.mv (.tmp 3))⟩,
 ⟨some 13, none, .val (.nilCheck (.tmp 11))⟩,
 ⟨none, none, .store 1 (.tmp 13) (.tmp 12)⟩] [11, 12, 13]))
 (.seq (.region [
 ⟨some 4, none, .val (.mv (.tmp 5))⟩] [])
 (.region [
 ⟨some 6, none, .val (.mv (.tmp 4))⟩,
 ⟨none, none, .panic (.tmp 6)⟩] [6])))))))
  .skip)⟩
theorem H.ratio_caught : HasR P F.ratio_caught C.ratio_caught := ⟨Try.f47, Try.func47, by kernel_rfl, by kernel_rfl⟩

/-- podium/ratio.valid -/
noncomputable def C.ratio_valid : MFunc := ⟨15, 1, [],
 (.seq (.region [
 ⟨some 4, none, .val (.mv (.tmp 0))⟩,
 ⟨some 5, none, .val (.len (.tmp 4))⟩,
 ⟨some 6, none, .val (.mv (.const (.int 0)))⟩] [])
 (.block 0 (.loop (.seq (.region [
 ⟨some 7, none, .val (.bin .lss T.int (.tmp 6) (.tmp 5))⟩] [])
 (.seq (.cond (.tmp 7)
  .skip
 (.exit 0))
 (.seq (.block 1 (.seq (.region [
 ⟨some 8, none, .val (.indexAddr 4 (.tmp 4) (.tmp 6))⟩,
 ⟨some 9, none, .val (.load 4 true (.tmp 8))⟩,
 ⟨some 3, none, .alloc T.apiRatio [(.bool false), .nil, (.bool false), .nil]⟩,
 ⟨none, none, .store 4 (.tmp 3) (.tmp 9)⟩] [8, 9])
 (.region [
 ⟨some 10, none, .val (.load 4 true (.tmp 3))⟩,
 ⟨some 11, none, .call (.const (.func (.func F.ratio_Check) [] [])) [(.tmp 10)]⟩,
 ⟨some 12, none, .val (.bin .eql T.apiErrno (.tmp 11) (.const (.int 0)))⟩,
 ⟨some 13, none, .call (.const (.func (.func F.ratio_need) [] [])) [(.tmp 12), (.const (.int 100))]⟩] [10, 11, 12, 13])))
 (.region [
 ⟨some 14, none, .val (.bin .add T.int (.tmp 6) (.const (.int 1)))⟩,
 ⟨some 6, none, .val (.mv (.tmp 14))⟩] [14])))))))⟩
theorem H.ratio_valid : Has P F.ratio_valid C.ratio_valid := ⟨Try.f48, Try.func48, by kernel_rfl, by kernel_rfl⟩

/-- podium/ratio.products -/
noncomputable def C.ratio_products : MFunc := ⟨28, 1, [.tmp 2],
 (.seq (.region [
 ⟨some 2, none, .val (.mv (.const .nil))⟩] [])
 (.seq (.seq (.region [
 ⟨some 3, none, .val (.mv (.const (.int 0)))⟩] [])
 (.block 0 (.loop (.seq (.seq (.region [
 ⟨some 4, none, .val (.mv (.tmp 3))⟩,
 ⟨some 5, none, .val (.bin .add T.int (.tmp 4) (.const (.int 1)))⟩,
 ⟨some 6, none, .val (.mv (.tmp 0))⟩,
 ⟨some 7, none, .val (.len (.tmp 6))⟩,
 ⟨some 8, none, .val (.bin .lss T.int (.tmp 5) (.tmp 7))⟩] [4, 5, 6, 7])
 (.cond (.tmp 8)
  .skip
 (.exit 0)))
 (.seq (.block 1 (.draw true [
 (.late, ⟨some 11, none, .val (.mv (.tmp 2))⟩),
 (.early, ⟨some 12, none, .val (.mv (.tmp 0))⟩),
 (.early, ⟨some 13, none, .val (.mv (.tmp 3))⟩),
 (.early, ⟨some 14, none, .val (.indexAddr 2 (.tmp 12) (.tmp 13))⟩),
 (.early, ⟨some 15, none, .val (.load 2 true (.tmp 14))⟩),
 (.early, ⟨some 16, none, .val (.mv (.tmp 0))⟩),
 (.early, ⟨some 17, none, .val (.mv (.tmp 3))⟩),
 (.early, ⟨some 18, none, .val (.bin .add T.int (.tmp 17) (.const (.int 1)))⟩),
 (.early, ⟨some 19, none, .val (.indexAddr 2 (.tmp 16) (.tmp 18))⟩),
 (.early, ⟨some 20, none, .val (.load 2 true (.tmp 19))⟩),
 (.hard, ⟨some 21, none, .call (.const (.func (.func F.nat_Mul) [] [])) [(.tmp 15), (.tmp 20)]⟩),
 (.late, ⟨some 22, none, .val (.extract 0 (.tmp 21))⟩),
 (.late, ⟨some 23, none, .val (.extract 1 (.tmp 21))⟩),
 (.hard, ⟨some 24, none, .call (.const (.func (.func F.ratio_did__apiBig) [] [])) [(.tmp 22), (.tmp 23)]⟩),
 (.late, ⟨some 25, none, .val (.buildSlice T.apiBig 1 [(.bool false), .nil] [(0, 2, (.tmp 24))])⟩),
 (.hard, ⟨some 26, none, .append T.apiBig 32 2 (.tmp 11) (.tmp 25)⟩),
 (.late, ⟨some 2, none, .val (.mv (.tmp 26))⟩)] [11, 12, 13, 14, 15, 16, 17, 18, 19, 20, 21, 22, 23, 24, 25, 26]))
 (.region [
 ⟨some 9, none, .val (.mv (.tmp 3))⟩,
 ⟨some 10, none, .val (.bin .add T.int (.tmp 9) (.const (.int 2)))⟩,
 ⟨some 3, none, .val (.mv (.tmp 10))⟩] [9, 10]))))))
 (.seq (.region [
 ⟨some 27, none, .val (.mv (.tmp 2))⟩,
 ⟨some 2, none, .val (.mv (.tmp 27))⟩] [27])
  .ret)))⟩
theorem H.ratio_products : Has P F.ratio_products C.ratio_products := ⟨Try.f49, Try.func49, by kernel_rfl, by kernel_rfl⟩

/-- podium/ratio.did[int] -/
noncomputable def C.ratio_did__int : MFunc := ⟨10, 2, [.tmp 4],
 (.seq (.region [
 ⟨some 4, none, .val (.mv (.const (.int 0)))⟩] [])
 (.seq (.region [
 ⟨some 5, none, .val (.mv (.tmp 1))⟩,
 ⟨some 6, none, .val (.bin .eql T.apiErrno (.tmp 5) (.const (.int 0)))⟩,
 ⟨some 7, none, .val (.mv (.tmp 1))⟩,
 ⟨some 8, none, .call (.const (.func (.func F.ratio_need) [] [])) [(.tmp 6), (.tmp 7)]⟩] [5, 6, 7, 8])
 (.seq (.region [
 ⟨some 9, none, .val (.mv (.tmp 0))⟩,
 ⟨some 4, none, .val (.mv (.tmp 9))⟩] [9])
  .ret)))⟩
theorem H.ratio_did__int : Has P F.ratio_did__int C.ratio_did__int := ⟨Try.f50, Try.func50, by kernel_rfl, by kernel_rfl⟩

/-- podium/nat.Cmp -/
noncomputable def C.nat_Cmp : MDFunc := ⟨33, 2, [5], [.tmp 4, .cell 5 1 false],
 (.pre [] (.region [
 ⟨some 2, none, .box T.apiBig (.tmp 0)⟩,
 ⟨some 3, none, .box T.apiBig (.tmp 1)⟩,
 ⟨some 4, none, .val (.mv (.const (.int 0)))⟩,
 ⟨some 5, none, .alloc T.apiErrno [(.int 0)]⟩] [])
 (.push (.const (.func (.func F.nat_caught) [] [])) [(.tmp 5)]
 (.pre [4] (.region [
 ⟨some 6, none, .val (.load 2 true (.tmp 2))⟩,
 ⟨some 7, none, .val (.load 2 true (.tmp 3))⟩,
 ⟨some 8, none, .val (.buildSlice T.apiBig 2 [(.bool false), .nil, (.bool false), .nil] [(0, 2, (.tmp 6)), (2, 2, (.tmp 7))])⟩,
 ⟨some 9, none, .call (.const (.func (.func F.nat_check) [] [])) [(.tmp 8)]⟩] [6, 7, 8, 9])
 (.pre [] (.block 0 (.seq (.region [
 ⟨some 11, none, .val (.fieldAddr 0 (.tmp 2))⟩,
 ⟨some 12, none, .val (.load 1 false (.tmp 11))⟩,
 ⟨some 13, none, .val (.mv (.tmp 12))⟩,
 ⟨some 14, some (13, true), .val (.fieldAddr 0 (.tmp 3))⟩,
 ⟨some 15, some (13, true), .val (.load 1 false (.tmp 14))⟩,
 ⟨some 16, none, .val (.pick (.tmp 13) (.tmp 15) (.const (.bool false)))⟩,
 ⟨some 10, none, .val (.mv (.tmp 16))⟩] [11, 12, 13, 14, 15, 16])
 (.cond (.tmp 10)
 (.seq (.region [
 ⟨some 17, none, .val (.fieldAddr 1 (.tmp 3))⟩,
 ⟨some 18, none, .val (.load 1 false (.tmp 17))⟩,
 ⟨some 19, none, .val (.fieldAddr 1 (.tmp 2))⟩,
 ⟨some 20, none, .val (.load 1 false (.tmp 19))⟩,
 ⟨some 21, none, .call (.const (.func (.func F.nat_compare) [] [])) [(.tmp 18), (.tmp 20)]⟩,
 ⟨some 4, none, .val (.mv (.tmp 21))⟩,
 ⟨none, none, .store 1 (.tmp 5) (.const (.int 0))⟩] [17, 18, 19, 20, 21])
  .ret)
 (.seq (.region [
 ⟨some 23, none, .val (.fieldAddr 0 (.tmp 2))⟩,
 ⟨some 24, none, .val (.load 1 false (.tmp 23))⟩,
 ⟨some 22, none, .val (.mv (.tmp 24))⟩] [23, 24])
 (.cond (.tmp 22)
 (.seq (.region [
 ⟨some 4, none, .val (.mv (.const (.int (-1))))⟩,
 ⟨none, none, .store 1 (.tmp 5) (.const (.int 0))⟩] [])
  .ret)
 (.seq (.region [
 ⟨some 26, none, .val (.fieldAddr 0 (.tmp 3))⟩,
 ⟨some 27, none, .val (.load 1 false (.tmp 26))⟩,
 ⟨some 25, none, .val (.mv (.tmp 27))⟩] [26, 27])
 (.cond (.tmp 25)
 (.seq (.region [
 ⟨some 4, none, .val (.mv (.const (.int 1)))⟩,
 ⟨none, none, .store 1 (.tmp 5) (.const (.int 0))⟩] [])
  .ret)
  .skip)))))))
 (.pre [] (.region [
 ⟨some 28, none, .val (.fieldAddr 1 (.tmp 2))⟩,
 ⟨some 29, none, .val (.load 1 false (.tmp 28))⟩,
 ⟨some 30, none, .val (.fieldAddr 1 (.tmp 3))⟩,
 ⟨some 31, none, .val (.load 1 false (.tmp 30))⟩,
 ⟨some 32, none, .call (.const (.func (.func F.nat_compare) [] [])) [(.tmp 29), (.tmp 31)]⟩,
 ⟨some 4, none, .val (.mv (.tmp 32))⟩,
 ⟨none, none, .store 1 (.tmp 5) (.const (.int 0))⟩] [28, 29, 30, 31, 32])
 (.pre [4] .ret
  .done))))))⟩
theorem H.nat_Cmp : HasD P F.nat_Cmp C.nat_Cmp := ⟨Try.f51, Try.func51, by kernel_rfl, by kernel_rfl⟩

/-- podium/podiumref10.Int -/
noncomputable def C.podiumref10_Int : MFunc := ⟨7, 1, [.cell 2 4 true],
 (.seq (.region [
 ⟨some 2, none, .alloc T.apiRatio [(.bool false), .nil, (.bool false), .nil]⟩] [])
 (.seq (.region [
 ⟨some 3, none, .val (.mv (.tmp 0))⟩,
 ⟨some 4, none, .call (.const (.func (.func F.podiumref09_Make) [] [])) [(.tmp 3)]⟩,
 ⟨some 5, none, .call (.const (.func (.func F.podiumref09_Make) [] [])) [(.const (.int 1))]⟩,
 ⟨some 6, none, .val (.build [(.bool false), .nil, (.bool false), .nil] [(0, 2, (.tmp 4)), (2, 2, (.tmp 5))])⟩,
 ⟨none, none, .store 4 (.tmp 2) (.tmp 6)⟩] [3, 4, 5, 6])
  .ret))⟩
theorem H.podiumref10_Int : Has P F.podiumref10_Int C.podiumref10_Int := ⟨Try.f52, Try.func52, by kernel_rfl, by kernel_rfl⟩

/-- cmp.isNaN[int] -/
noncomputable def C.cmp_isNaN__int : MFunc := ⟨6, 1, [.tmp 2],
 (.seq (.region [
 ⟨some 2, none, .val (.mv (.const (.bool false)))⟩] [])
 (.seq (.region [
 ⟨some 3, none, .val (.mv (.tmp 0))⟩,
 ⟨some 4, none, .val (.mv (.tmp 0))⟩,
 ⟨some 5, none, .val (.bin .neq T.int (.tmp 3) (.tmp 4))⟩,
 ⟨some 2, none, .val (.mv (.tmp 5))⟩] [3, 4, 5])
  .ret))⟩
theorem H.cmp_isNaN__int : Has P F.cmp_isNaN__int C.cmp_isNaN__int := ⟨Try.f53, Try.func53, by kernel_rfl, by kernel_rfl⟩

/-- slices.ContainsFunc[[]int,int] -/
noncomputable def C.slices_ContainsFunc__Lint_int : MFunc := ⟨9, 2, [.tmp 4],
 (.seq (.region [
 ⟨some 4, none, .val (.mv (.const (.bool false)))⟩] [])
 (.seq (.region [
 ⟨some 5, none, .val (.mv (.tmp 0))⟩,
 ⟨some 6, none, .val (.mv (.tmp 1))⟩,
 ⟨some 7, none, .call (.const (.func (.func F.slices_IndexFunc__Lint_int) [] [])) [(.tmp 5), (.tmp 6)]⟩,
 ⟨some 8, none, .val (.bin .geq T.int (.tmp 7) (.const (.int 0)))⟩,
 ⟨some 4, none, .val (.mv (.tmp 8))⟩] [5, 6, 7, 8])
  .ret))⟩
theorem H.slices_ContainsFunc__Lint_int : Has P F.slices_ContainsFunc__Lint_int C.slices_ContainsFunc__Lint_int := ⟨Try.f54, Try.func54, by kernel_rfl, by kernel_rfl⟩

/-- podium/season.amounts$1 -/
noncomputable def C.season_amounts_1 : MFunc := ⟨6, 1, [.tmp 2],
 (.seq (.region [
 ⟨some 2, none, .val (.mv (.const (.bool false)))⟩] [])
 (.seq (.region [
 ⟨some 3, none, .val (.mv (.tmp 0))⟩,
 ⟨some 4, none, .call (.const (.func (.func F.season_between) [] [])) [(.tmp 3), (.const (.int 0)), (.const (.int 1099511627776))]⟩,
 ⟨some 5, none, .val (.un .not (.tmp 4))⟩,
 ⟨some 2, none, .val (.mv (.tmp 5))⟩] [3, 4, 5])
  .ret))⟩
theorem H.season_amounts_1 : Has P F.season_amounts_1 C.season_amounts_1 := ⟨Try.f55, Try.func55, by kernel_rfl, by kernel_rfl⟩

/-- slices.IndexFunc[[][]int,[]int] -/
noncomputable def C.slices_IndexFunc__LLint_Lint : MFunc := ⟨19, 2, [.tmp 4],
 (.seq (.region [
 ⟨some 4, none, .val (.mv (.const (.int 0)))⟩] [])
 (.seq (.seq (.region [
 ⟨some 6, none, .val (.mv (.tmp 0))⟩,
 ⟨some 7, none, .val (.len (.tmp 6))⟩,
 ⟨some 8, none, .val (.mv (.const (.int 0)))⟩] [6])
 (.block 0 (.loop (.seq (.region [
 ⟨some 9, none, .val (.bin .lss T.int (.tmp 8) (.tmp 7))⟩] [])
 (.seq (.cond (.tmp 9)
  .skip
 (.exit 0))
 (.seq (.block 1 (.seq (.region [
 ⟨some 10, none, .val (.mv (.tmp 8))⟩,
 ⟨some 5, none, .val (.mv (.tmp 10))⟩] [10])
 (.seq (.region [
 ⟨some 11, none, .val (.mv (.tmp 1))⟩,
 ⟨some 12, none, .val (.mv (.tmp 0))⟩,
 ⟨some 13, none, .val (.mv (.tmp 5))⟩,
 ⟨some 14, none, .val (.indexAddr 1 (.tmp 12) (.tmp 13))⟩,
 ⟨some 15, none, .val (.load 1 false (.tmp 14))⟩,
 ⟨some 16, none, .call (.tmp 11) [(.tmp 15)]⟩] [11, 12, 13, 14, 15])
 (.cond (.tmp 16)
 (.seq (.region [
 ⟨some 17, none, .val (.mv (.tmp 5))⟩,
 ⟨some 4, none, .val (.mv (.tmp 17))⟩] [17])
  .ret)
  .skip))))
 (.region [
 ⟨some 18, none, .val (.bin .add T.int (.tmp 8) (.const (.int 1)))⟩,
 ⟨some 8, none, .val (.mv (.tmp 18))⟩] [18])))))))
 (.seq (.region [
 ⟨some 4, none, .val (.mv (.const (.int (-1))))⟩] [])
  .ret)))⟩
theorem H.slices_IndexFunc__LLint_Lint : Has P F.slices_IndexFunc__LLint_Lint C.slices_IndexFunc__LLint_Lint := ⟨Try.f56, Try.func56, by kernel_rfl, by kernel_rfl⟩

/-- podium/ratio.Check -/
noncomputable def C.ratio_Check : MFunc := ⟨40, 1, [.tmp 2],
 (.seq (.region [
 ⟨some 1, none, .box T.apiRatio (.tmp 0)⟩,
 ⟨some 2, none, .val (.mv (.const (.int 0)))⟩] [])
 (.seq (.seq (.region [
 ⟨some 5, none, .val (.fieldAddr 0 (.tmp 1))⟩,
 ⟨some 6, none, .val (.load 2 true (.tmp 5))⟩,
 ⟨some 7, none, .call (.const (.func (.func F.nat_Check) [] [])) [(.tmp 6)]⟩,
 ⟨some 8, none, .val (.bin .neq T.apiErrno (.tmp 7) (.const (.int 0)))⟩,
 ⟨some 9, none, .val (.mv (.tmp 8))⟩,
 ⟨some 10, some (9, false), .val (.fieldAddr 2 (.tmp 1))⟩,
 ⟨some 11, some (9, false), .val (.load 2 true (.tmp 10))⟩,
 ⟨some 12, some (9, false), .call (.const (.func (.func F.nat_Check) [] [])) [(.tmp 11)]⟩,
 ⟨some 13, some (9, false), .val (.bin .neq T.apiErrno (.tmp 12) (.const (.int 0)))⟩,
 ⟨some 14, none, .val (.pick (.tmp 9) (.const (.bool true)) (.tmp 13))⟩,
 ⟨some 15, none, .val (.mv (.tmp 14))⟩,
 ⟨some 16, some (15, false), .val (.fieldAddr 2 (.tmp 1))⟩,
 ⟨some 17, some (15, false), .val (.load 2 true (.tmp 16))⟩,
 ⟨some 18, some (15, false), .call (.const (.func (.func F.ratio_positive) [] [])) [(.tmp 17)]⟩,
 ⟨some 19, some (15, false), .val (.un .not (.tmp 18))⟩,
 ⟨some 20, none, .val (.pick (.tmp 15) (.const (.bool true)) (.tmp 19))⟩] [5, 6, 7, 8, 9, 10, 11, 12, 13, 14, 15, 16, 17, 18, 19])
 (.cond (.tmp 20)
 (.seq (.region [
 ⟨some 2, none, .val (.mv (.const (.int 100)))⟩] [])
  .ret)
  .skip))
 (.seq (.region [
 ⟨some 22, none, .val (.fieldAddr 0 (.tmp 1))⟩,
 ⟨some 23, none, .val (.load 2 true (.tmp 22))⟩,
 ⟨some 24, none, .val (.fieldAddr 2 (.tmp 1))⟩,
 ⟨some 25, none, .val (.load 2 true (.tmp 24))⟩,
 ⟨some 26, none, .call (.const (.func (.func F.nat_Gcd) [] [])) [(.tmp 23), (.tmp 25)]⟩,
 ⟨some 21, none, .val (.mv (.tmp 26))⟩,
 ⟨some 27, none, .val (.extract 0 (.tmp 21))⟩,
 ⟨some 28, none, .val (.extract 1 (.tmp 21))⟩,
 ⟨some 3, none, .alloc T.apiBig [(.bool false), .nil]⟩,
 ⟨none, none, .store 2 (.tmp 3) (.tmp 27)⟩,
 ⟨some 4, none, .val (.mv (.tmp 28))⟩] [22, 23, 24, 25, 26, 21, 27, 28, 4])
 (.seq (.seq (.region [
 ⟨some 29, none, .val (.fieldAddr 1 (.tmp 3))⟩,
 ⟨some 30, none, .val (.load 1 false (.tmp 29))⟩,
 ⟨some 31, none, .val (.len (.tmp 30))⟩,
 ⟨some 32, none, .val (.bin .neq T.int (.tmp 31) (.const (.int 1)))⟩,
 ⟨some 33, none, .val (.mv (.tmp 32))⟩,
 ⟨some 34, some (33, false), .val (.fieldAddr 1 (.tmp 3))⟩,
 ⟨some 35, some (33, false), .val (.load 1 false (.tmp 34))⟩,
 ⟨some 36, some (33, false), .val (.indexAddr 1 (.tmp 35) (.const (.int 0)))⟩,
 ⟨some 37, some (33, false), .val (.load 1 false (.tmp 36))⟩,
 ⟨some 38, some (33, false), .val (.bin .neq T.int (.tmp 37) (.const (.int 1)))⟩,
 ⟨some 39, none, .val (.pick (.tmp 33) (.const (.bool true)) (.tmp 38))⟩] [29, 30, 31, 32, 33, 34, 35, 36, 37, 38])
 (.cond (.tmp 39)
 (.seq (.region [
 ⟨some 2, none, .val (.mv (.const (.int 100)))⟩] [])
  .ret)
  .skip))
 (.seq (.region [
 ⟨some 2, none, .val (.mv (.const (.int 0)))⟩] [])
  .ret)))))⟩
theorem H.ratio_Check : Has P F.ratio_Check C.ratio_Check := ⟨Try.f58, Try.func58, by kernel_rfl, by kernel_rfl⟩

/-- slices.stableCmpFunc[podium/api.Record] -/
noncomputable def C.slices_stableCmpFunc__apiRecord : MFunc := ⟨63, 3, [],
 (.seq (.region [
 ⟨some 6, none, .val (.mv (.const (.int 20)))⟩] [])
 (.seq (.region [
 ⟨some 10, none, .val (.mv (.tmp 6))⟩,
 ⟨some 7, none, .val (.mv (.const (.int 0)))⟩,
 ⟨some 8, none, .val (.mv (.tmp 10))⟩] [10])
 (.seq (.block 0 (.loop (.seq (.seq (.region [
 ⟨some 11, none, .val (.mv (.tmp 8))⟩,
 ⟨some 12, none, .val (.mv (.tmp 1))⟩,
 ⟨some 13, none, .val (.bin .leq T.int (.tmp 11) (.tmp 12))⟩] [11, 12])
 (.cond (.tmp 13)
  .skip
 (.exit 0)))
 (.block 1 (.seq (.region [
 ⟨some 14, none, .val (.mv (.tmp 0))⟩,
 ⟨some 15, none, .val (.mv (.tmp 7))⟩,
 ⟨some 16, none, .val (.mv (.tmp 8))⟩,
 ⟨some 17, none, .val (.mv (.tmp 2))⟩,
 ⟨some 18, none, .call (.const (.func (.func F.slices_insertionSortCmpFunc__apiRecord) [] [])) [(.tmp 14), (.tmp 15), (.tmp 16), (.tmp 17)]⟩] [14, 15, 16, 17, 18])
 (.seq (.region [
 ⟨some 19, none, .val (.mv (.tmp 8))⟩,
 ⟨some 7, none, .val (.mv (.tmp 19))⟩] [19])
 (.region [
 ⟨some 20, none, .val (.mv (.tmp 8))⟩,
 ⟨some 21, none, .val (.mv (.tmp 6))⟩,
 ⟨some 22, none, .val (.bin .add T.int (.tmp 20) (.tmp 21))⟩,
 ⟨some 8, none, .val (.mv (.tmp 22))⟩] [20, 21, 22])))))))
 (.seq (.region [
 ⟨some 23, none, .val (.mv (.tmp 0))⟩,
 ⟨some 24, none, .val (.mv (.tmp 7))⟩,
 ⟨some 25, none, .val (.mv (.tmp 1))⟩,
 ⟨some 26, none, .val (.mv (.tmp 2))⟩,
 ⟨some 27, none, .call (.const (.func (.func F.slices_insertionSortCmpFunc__apiRecord) [] [])) [(.tmp 23), (.tmp 24), (.tmp 25), (.tmp 26)]⟩] [23, 24, 25, 26, 27])
 (.block 2 (.loop (.seq (.seq (.region [
 ⟨some 28, none, .val (.mv (.tmp 6))⟩,
 ⟨some 29, none, .val (.mv (.tmp 1))⟩,
 ⟨some 30, none, .val (.bin .lss T.int (.tmp 28) (.tmp 29))⟩] [28, 29])
 (.cond (.tmp 30)
  .skip
 (.exit 2)))
 (.block 3 (.seq (.region [
 ⟨some 31, none, .val (.mv (.tmp 6))⟩,
 ⟨some 32, none, .val (.bin .mul T.int (.const (.int 2)) (.tmp 31))⟩,
 ⟨some 7, none, .val (.mv (.const (.int 0)))⟩,
 ⟨some 8, none, .val (.mv (.tmp 32))⟩] [31, 32])
 (.seq (.block 4 (.loop (.seq (.seq (.region [
 ⟨some 33, none, .val (.mv (.tmp 8))⟩,
 ⟨some 34, none, .val (.mv (.tmp 1))⟩,
 ⟨some 35, none, .val (.bin .leq T.int (.tmp 33) (.tmp 34))⟩] [33, 34])
 (.cond (.tmp 35)
  .skip
 (.exit 4)))
 (.block 5 (.seq (.region [
 ⟨some 36, none, .val (.mv (.tmp 0))⟩,
 ⟨some 37, none, .val (.mv (.tmp 7))⟩,
 ⟨some 38, none, .val (.mv (.tmp 7))⟩,
 ⟨some 39, none, .val (.mv (.tmp 6))⟩,
 ⟨some 40, none, .val (.bin .add T.int (.tmp 38) (.tmp 39))⟩,
 ⟨some 41, none, .val (.mv (.tmp 8))⟩,
 ⟨some 42, none, .val (.mv (.tmp 2))⟩,
 ⟨some 43, none, .call (.const (.func (.func F.slices_symMergeCmpFunc__apiRecord) [] [])) [(.tmp 36), (.tmp 37), (.tmp 40), (.tmp 41), (.tmp 42)]⟩] [36, 37, 38, 39, 40, 41, 42, 43])
 (.seq (.region [
 ⟨some 44, none, .val (.mv (.tmp 8))⟩,
 ⟨some 7, none, .val (.mv (.tmp 44))⟩] [44])
 (.region [
 ⟨some 45, none, .val (.mv (.tmp 8))⟩,
 ⟨some 46, none, .val (.mv (.tmp 6))⟩,
 ⟨some 47, none, .val (.bin .mul T.int (.const (.int 2)) (.tmp 46))⟩,
 ⟨some 48, none, .val (.bin .add T.int (.tmp 45) (.tmp 47))⟩,
 ⟨some 8, none, .val (.mv (.tmp 48))⟩] [45, 46, 47, 48])))))))
 (.seq (.seq (.region [
 ⟨some 49, none, .val (.mv (.tmp 7))⟩,
 ⟨some 50, none, .val (.mv (.tmp 6))⟩,
 ⟨some 51, none, .val (.bin .add T.int (.tmp 49) (.tmp 50))⟩,
 ⟨some 9, none, .val (.mv (.tmp 51))⟩] [49, 50, 51])
 (.seq (.region [
 ⟨some 52, none, .val (.mv (.tmp 9))⟩,
 ⟨some 53, none, .val (.mv (.tmp 1))⟩,
 ⟨some 54, none, .val (.bin .lss T.int (.tmp 52) (.tmp 53))⟩] [52, 53])
 (.cond (.tmp 54)
 (.region [
 ⟨some 55, none, .val (.mv (.tmp 0))⟩,
 ⟨some 56, none, .val (.mv (.tmp 7))⟩,
 ⟨some 57, none, .val (.mv (.tmp 9))⟩,
 ⟨some 58, none, .val (.mv (.tmp 1))⟩,
 ⟨some 59, none, .val (.mv (.tmp 2))⟩,
 ⟨some 60, none, .call (.const (.func (.func F.slices_symMergeCmpFunc__apiRecord) [] [])) [(.tmp 55), (.tmp 56), (.tmp 57), (.tmp 58), (.tmp 59)]⟩] [55, 56, 57, 58, 59, 60])
  .skip)))
 (.region [
 ⟨some 61, none, .val (.mv (.tmp 6))⟩,
 ⟨some 62, none, .val (.bin .mul T.int (.tmp 61) (.const (.int 2)))⟩,
 ⟨some 6, none, .val (.mv (.tmp 62))⟩] [61, 62]))))))))))))⟩
theorem H.slices_stableCmpFunc__apiRecord : Has P F.slices_stableCmpFunc__apiRecord C.slices_stableCmpFunc__apiRecord := ⟨Try.f59, Try.func59, by kernel_rfl, by kernel_rfl⟩

/-- slices.AppendSeq[[]podium/api.Record,podium/api.Record] -/
noncomputable def C.slices_AppendSeq__LapiRecord_apiRecord : MFunc := ⟨13, 2, [.tmp 4],
 (.seq (.region [
 ⟨some 2, none, .box T.LapiRecord (.tmp 0)⟩,
 ⟨some 4, none, .val (.mv (.const .nil))⟩] [])
 (.seq (.seq (.region [
 ⟨some 6, none, .val (.mv (.tmp 1))⟩] [])
 (.block 0 (.rangeFunc (.tmp 6) [7] (.region [
 ⟨some 5, none, .alloc T.apiRecord [(.int 0), (.int 0), (.int 0), (.bool false), .nil, (.bool false), .nil]⟩,
 ⟨none, none, .store 7 (.tmp 5) (.tmp 7)⟩] [])
 (.block 1 (.region [
 ⟨some 8, none, .val (.load 1 false (.tmp 2))⟩,
 ⟨some 9, none, .val (.load 7 true (.tmp 5))⟩,
 ⟨some 10, none, .val (.buildSlice T.apiRecord 1 [(.int 0), (.int 0), (.int 0), (.bool false), .nil, (.bool false), .nil] [(0, 7, (.tmp 9))])⟩,
 ⟨some 11, none, .append T.apiRecord 88 7 (.tmp 8) (.tmp 10)⟩,
 ⟨none, none, .store 1 (.tmp 2) (.tmp 11)⟩] [8, 9, 10, 11])))))
 (.seq (.region [
 ⟨some 12, none, .val (.load 1 false (.tmp 2))⟩,
 ⟨some 4, none, .val (.mv (.tmp 12))⟩] [12])
  .ret)))⟩
theorem H.slices_AppendSeq__LapiRecord_apiRecord : Has P F.slices_AppendSeq__LapiRecord_apiRecord C.slices_AppendSeq__LapiRecord_apiRecord := ⟨Try.f60, Try.func60, by kernel_rfl, by kernel_rfl⟩

/-- podium/season.records$1 -/
noncomputable def C.season_records_1 : MFunc := ⟨32, 3, [],
 (.seq (.region [
 ⟨some 6, none, .val (.load 1 false (.tmp 1))⟩,
 ⟨some 7, none, .val (.len (.tmp 6))⟩,
 ⟨some 8, none, .val (.mv (.const (.int 0)))⟩] [])
 (.block 0 (.loop (.seq (.region [
 ⟨some 9, none, .val (.bin .lss T.int (.tmp 8) (.tmp 7))⟩] [])
 (.seq (.cond (.tmp 9)
  .skip
 (.exit 0))
 (.seq (.block 1 (.seq (.region [
 ⟨some 10, none, .val (.mv (.tmp 8))⟩,
 ⟨some 11, none, .val (.indexAddr 7 (.tmp 6) (.tmp 8))⟩,
 ⟨some 12, none, .val (.load 7 true (.tmp 11))⟩,
 ⟨some 5, none, .alloc T.apiRecord [(.int 0), (.int 0), (.int 0), (.bool false), .nil, (.bool false), .nil]⟩,
 ⟨some 4, none, .val (.mv (.tmp 10))⟩,
 ⟨none, none, .store 7 (.tmp 5) (.tmp 12)⟩] [10, 11, 12])
 (.seq (.seq (.draw true [
 (.early, ⟨some 13, none, .val (.mv (.tmp 4))⟩),
 (.early, ⟨some 14, none, .val (.bin .gtr T.int (.tmp 13) (.const (.int 0)))⟩),
 (.early, ⟨some 15, none, .val (.mv (.tmp 14))⟩),
 (.early, ⟨some 16, some (15, true), .val (.load 1 false (.tmp 2))⟩),
 (.early, ⟨some 17, some (15, true), .val (.load 1 false (.tmp 1))⟩),
 (.early, ⟨some 18, some (15, true), .val (.indexAddr 7 (.tmp 17) (.const (.int 0)))⟩),
 (.early, ⟨some 19, some (15, true), .val (.load 7 true (.tmp 18))⟩),
 (.early, ⟨some 20, some (15, true), .val (.load 7 true (.tmp 5))⟩),
 (.hard, ⟨some 21, some (15, true), .call (.tmp 16) [(.tmp 19), (.tmp 20)]⟩),
 (.late, ⟨some 22, some (15, true), .val (.un .not (.tmp 21))⟩),
 (.late, ⟨some 23, none, .val (.pick (.tmp 15) (.tmp 22) (.const (.bool false)))⟩)] [13, 14, 15, 16, 17, 18, 19, 20, 21, 22])
 (.cond (.tmp 23)
 (.exit 1)
  .skip))
 (.seq (.region [
 ⟨some 24, none, .val (.load 1 false (.tmp 1))⟩,
 ⟨some 25, none, .val (.load 7 true (.tmp 5))⟩,
 ⟨some 26, none, .val (.indexAddr 7 (.tmp 24) (.const (.int 0)))⟩,
 ⟨none, none, .store 7 (.tmp 26) (.tmp 25)⟩] [24, 25, 26])
 (.seq (.region [
 ⟨some 27, none, .val (.mv (.tmp 0))⟩,
 ⟨some 28, none, .val (.load 7 true (.tmp 5))⟩,
 ⟨some 29, none, .call (.tmp 27) [(.tmp 28)]⟩,
 ⟨some 30, none, .val (.un .not (.tmp 29))⟩] [27, 28, 29])
 (.cond (.tmp 30)
  .ret
  .skip))))))
 (.region [
 ⟨some 31, none, .val (.bin .add T.int (.tmp 8) (.const (.int 1)))⟩,
 ⟨some 8, none, .val (.mv (.tmp 31))⟩] [31])))))))⟩
theorem H.season_records_1 : Has P F.season_records_1 C.season_records_1 := ⟨Try.f61, Try.func61, by kernel_rfl, by kernel_rfl⟩

/-- podium/podiumref10.valid -/
noncomputable def C.podiumref10_valid : MFunc := ⟨13, 2, [.tmp 4],
 (.seq (.region [
 ⟨some 2, none, .box T.apiRatio (.tmp 0)⟩,
 ⟨some 3, none, .box T.apiRatio (.tmp 1)⟩,
 ⟨some 4, none, .val (.mv (.const (.bool false)))⟩] [])
 (.seq (.region [
 ⟨some 5, none, .val (.load 4 true (.tmp 2))⟩,
 ⟨some 6, none, .call (.const (.func (.func F.podiumref10_Check) [] [])) [(.tmp 5)]⟩,
 ⟨some 7, none, .val (.bin .eql T.apiErrno (.tmp 6) (.const (.int 0)))⟩,
 ⟨some 8, none, .val (.mv (.tmp 7))⟩,
 ⟨some 9, some (8, true), .val (.load 4 true (.tmp 3))⟩,
 ⟨some 10, some (8, true), .call (.const (.func (.func F.podiumref10_Check) [] [])) [(.tmp 9)]⟩,
 ⟨some 11, some (8, true), .val (.bin .eql T.apiErrno (.tmp 10) (.const (.int 0)))⟩,
 ⟨some 12, none, .val (.pick (.tmp 8) (.tmp 11) (.const (.bool false)))⟩,
 ⟨some 4, none, .val (.mv (.tmp 12))⟩] [5, 6, 7, 8, 9, 10, 11, 12])
  .ret))⟩
theorem H.podiumref10_valid : Has P F.podiumref10_valid C.podiumref10_valid := ⟨Try.f62, Try.func62, by kernel_rfl, by kernel_rfl⟩

/-- podium/podiumref10.cross -/
noncomputable def C.podiumref10_cross : MFunc := ⟨37, 2, [.cell 4 2 true, .cell 5 2 true, .tmp 6],
 (.seq (.region [
 ⟨some 2, none, .box T.apiRatio (.tmp 0)⟩,
 ⟨some 3, none, .box T.apiRatio (.tmp 1)⟩,
 ⟨some 4, none, .alloc T.apiBig [(.bool false), .nil]⟩,
 ⟨some 5, none, .alloc T.apiBig [(.bool false), .nil]⟩,
 ⟨some 6, none, .val (.mv (.const (.int 0)))⟩] [])
 (.seq (.region [
 ⟨some 12, none, .val (.fieldAddr 0 (.tmp 2))⟩,
 ⟨some 13, none, .val (.load 2 true (.tmp 12))⟩,
 ⟨some 14, none, .val (.fieldAddr 2 (.tmp 3))⟩,
 ⟨some 15, none, .val (.load 2 true (.tmp 14))⟩,
 ⟨some 16, none, .call (.const (.func (.func F.podiumref09_Mul) [] [])) [(.tmp 13), (.tmp 15)]⟩,
 ⟨some 11, none, .val (.mv (.tmp 16))⟩,
 ⟨some 17, none, .val (.extract 0 (.tmp 11))⟩,
 ⟨some 18, none, .val (.extract 1 (.tmp 11))⟩,
 ⟨some 7, none, .alloc T.apiBig [(.bool false), .nil]⟩,
 ⟨none, none, .store 2 (.tmp 7) (.tmp 17)⟩,
 ⟨some 8, none, .val (.mv (.tmp 18))⟩] [12, 13, 14, 15, 16, 11, 17, 18])
 (.seq (.region [
 ⟨some 20, none, .val (.fieldAddr 0 (.tmp 3))⟩,
 ⟨some 21, none, .val (.load 2 true (.tmp 20))⟩,
 ⟨some 22, none, .val (.fieldAddr 2 (.tmp 2))⟩,
 ⟨some 23, none, .val (.load 2 true (.tmp 22))⟩,
 ⟨some 24, none, .call (.const (.func (.func F.podiumref09_Mul) [] [])) [(.tmp 21), (.tmp 23)]⟩,
 ⟨some 19, none, .val (.mv (.tmp 24))⟩,
 ⟨some 25, none, .val (.extract 0 (.tmp 19))⟩,
 ⟨some 26, none, .val (.extract 1 (.tmp 19))⟩,
 ⟨some 9, none, .alloc T.apiBig [(.bool false), .nil]⟩,
 ⟨none, none, .store 2 (.tmp 9) (.tmp 25)⟩,
 ⟨some 10, none, .val (.mv (.tmp 26))⟩] [20, 21, 22, 23, 24, 19, 25, 26])
 (.seq (.seq (.region [
 ⟨some 27, none, .val (.mv (.tmp 8))⟩,
 ⟨some 28, none, .val (.bin .neq T.apiErrno (.tmp 27) (.const (.int 0)))⟩,
 ⟨some 29, none, .val (.mv (.tmp 28))⟩,
 ⟨some 30, some (29, false), .val (.mv (.tmp 10))⟩,
 ⟨some 31, some (29, false), .val (.bin .neq T.apiErrno (.tmp 30) (.const (.int 0)))⟩,
 ⟨some 32, none, .val (.pick (.tmp 29) (.const (.bool true)) (.tmp 31))⟩] [27, 28, 29, 30, 31])
 (.cond (.tmp 32)
 (.seq (.region [
 ⟨some 33, none, .val (.build [(.bool false), .nil] [])⟩,
 ⟨some 34, none, .val (.build [(.bool false), .nil] [])⟩,
 ⟨none, none, .store 2 (.tmp 4) (.tmp 33)⟩,
 ⟨none, none, .store 2 (.tmp 5) (.tmp 34)⟩,
 ⟨some 6, none, .val (.mv (.const (.int 2)))⟩] [33, 34])
  .ret)
  .skip))
 (.seq (.draw true [
 (.early, ⟨some 35, none, .val (.load 2 true (.tmp 7))⟩),
 (.late, ⟨some 36, none, .val (.load 2 true (.tmp 9))⟩),
 (.hard, ⟨none, none, .store 2 (.tmp 4) (.tmp 35)⟩),
 (.last, ⟨none, none, .store 2 (.tmp 5) (.tmp 36)⟩),
 (.late, ⟨some 6, none, .val (.mv (.const (.int 0)))⟩)] [35, 36])
  .ret)))))⟩
theorem H.podiumref10_cross : Has P F.podiumref10_cross C.podiumref10_cross := ⟨Try.f63, Try.func63, by kernel_rfl, by kernel_rfl⟩

/-- podium/podiumref09.Cmp -/
noncomputable def C.podiumref09_Cmp : MFunc := ⟨32, 2, [.tmp 4, .tmp 5],
 (.seq (.region [
 ⟨some 2, none, .box T.apiBig (.tmp 0)⟩,
 ⟨some 3, none, .box T.apiBig (.tmp 1)⟩,
 ⟨some 4, none, .val (.mv (.const (.int 0)))⟩,
 ⟨some 5, none, .val (.mv (.const (.int 0)))⟩] [])
 (.seq (.region [
 ⟨some 7, none, .val (.load 2 true (.tmp 2))⟩,
 ⟨some 8, none, .val (.load 2 true (.tmp 3))⟩,
 ⟨some 9, none, .call (.const (.func (.func F.podiumref09_two) [] [])) [(.tmp 7), (.tmp 8)]⟩,
 ⟨some 6, none, .val (.mv (.tmp 9))⟩] [7, 8, 9])
 (.seq (.seq (.region [
 ⟨some 10, none, .val (.mv (.tmp 6))⟩,
 ⟨some 11, none, .val (.bin .neq T.apiErrno (.tmp 10) (.const (.int 0)))⟩] [10])
 (.cond (.tmp 11)
 (.seq (.region [
 ⟨some 12, none, .val (.mv (.tmp 6))⟩,
 ⟨some 4, none, .val (.mv (.const (.int 0)))⟩,
 ⟨some 5, none, .val (.mv (.tmp 12))⟩] [12])
  .ret)
  .skip))
 (.seq (.seq (.region [
 ⟨some 13, none, .val (.fieldAddr 0 (.tmp 2))⟩,
 ⟨some 14, none, .val (.load 1 false (.tmp 13))⟩,
 ⟨some 15, none, .val (.fieldAddr 0 (.tmp 3))⟩,
 ⟨some 16, none, .val (.load 1 false (.tmp 15))⟩,
 ⟨some 17, none, .val (.eqBool true (.tmp 14) (.tmp 16))⟩] [13, 14, 15, 16])
 (.cond (.tmp 17)
 (.seq (.seq (.region [
 ⟨some 18, none, .val (.fieldAddr 0 (.tmp 2))⟩,
 ⟨some 19, none, .val (.load 1 false (.tmp 18))⟩] [18])
 (.cond (.tmp 19)
 (.seq (.region [
 ⟨some 4, none, .val (.mv (.const (.int (-1))))⟩,
 ⟨some 5, none, .val (.mv (.const (.int 0)))⟩] [])
  .ret)
  .skip))
 (.seq (.region [
 ⟨some 4, none, .val (.mv (.const (.int 1)))⟩,
 ⟨some 5, none, .val (.mv (.const (.int 0)))⟩] [])
  .ret))
  .skip))
 (.seq (.seq (.region [
 ⟨some 20, none, .val (.fieldAddr 0 (.tmp 2))⟩,
 ⟨some 21, none, .val (.load 1 false (.tmp 20))⟩] [20])
 (.cond (.tmp 21)
 (.seq (.region [
 ⟨some 22, none, .val (.fieldAddr 1 (.tmp 3))⟩,
 ⟨some 23, none, .val (.load 1 false (.tmp 22))⟩,
 ⟨some 24, none, .val (.fieldAddr 1 (.tmp 2))⟩,
 ⟨some 25, none, .val (.load 1 false (.tmp 24))⟩,
 ⟨some 26, none, .call (.const (.func (.func F.podiumref09_cmp) [] [])) [(.tmp 23), (.tmp 25)]⟩,
 ⟨some 4, none, .val (.mv (.tmp 26))⟩,
 ⟨some 5, none, .val (.mv (.const (.int 0)))⟩] [22, 23, 24, 25, 26])
  .ret)
  .skip))
 (.seq (.region [
 ⟨some 27, none, .val (.fieldAddr 1 (.tmp 2))⟩,
 ⟨some 28, none, .val (.load 1 false (.tmp 27))⟩,
 ⟨some 29, none, .val (.fieldAddr 1 (.tmp 3))⟩,
 ⟨some 30, none, .val (.load 1 false (.tmp 29))⟩,
 ⟨some 31, none, .call (.const (.func (.func F.podiumref09_cmp) [] [])) [(.tmp 28), (.tmp 30)]⟩,
 ⟨some 4, none, .val (.mv (.tmp 31))⟩,
 ⟨some 5, none, .val (.mv (.const (.int 0)))⟩] [27, 28, 29, 30, 31])
  .ret))))))⟩
theorem H.podiumref09_Cmp : Has P F.podiumref09_Cmp C.podiumref09_Cmp := ⟨Try.f64, Try.func64, by kernel_rfl, by kernel_rfl⟩

/-- podium/podiumref10.SameBig -/
noncomputable def C.podiumref10_SameBig : MFunc := ⟨38, 2, [.tmp 4],
 (.seq (.region [
 ⟨some 2, none, .box T.apiBig (.tmp 0)⟩,
 ⟨some 3, none, .box T.apiBig (.tmp 1)⟩,
 ⟨some 4, none, .val (.mv (.const (.bool false)))⟩] [])
 (.seq (.seq (.region [
 ⟨some 6, none, .val (.fieldAddr 0 (.tmp 2))⟩,
 ⟨some 7, none, .val (.load 1 false (.tmp 6))⟩,
 ⟨some 8, none, .val (.fieldAddr 0 (.tmp 3))⟩,
 ⟨some 9, none, .val (.load 1 false (.tmp 8))⟩,
 ⟨some 10, none, .val (.eqBool true (.tmp 7) (.tmp 9))⟩,
 ⟨some 11, none, .val (.mv (.tmp 10))⟩,
 ⟨some 12, some (11, false), .val (.fieldAddr 1 (.tmp 2))⟩,
 ⟨some 13, some (11, false), .val (.load 1 false (.tmp 12))⟩,
 ⟨some 14, some (11, false), .val (.len (.tmp 13))⟩,
 ⟨some 15, some (11, false), .val (.fieldAddr 1 (.tmp 3))⟩,
 ⟨some 16, some (11, false), .val (.load 1 false (.tmp 15))⟩,
 ⟨some 17, some (11, false), .val (.len (.tmp 16))⟩,
 ⟨some 18, some (11, false), .val (.bin .neq T.int (.tmp 14) (.tmp 17))⟩,
 ⟨some 19, none, .val (.pick (.tmp 11) (.const (.bool true)) (.tmp 18))⟩] [6, 7, 8, 9, 10, 11, 12, 13, 14, 15, 16, 17, 18])
 (.cond (.tmp 19)
 (.seq (.region [
 ⟨some 4, none, .val (.mv (.const (.bool false)))⟩] [])
  .ret)
  .skip))
 (.seq (.seq (.region [
 ⟨some 5, none, .val (.mv (.const (.int 0)))⟩] [])
 (.block 0 (.loop (.seq (.seq (.region [
 ⟨some 20, none, .val (.mv (.tmp 5))⟩,
 ⟨some 21, none, .val (.fieldAddr 1 (.tmp 2))⟩,
 ⟨some 22, none, .val (.load 1 false (.tmp 21))⟩,
 ⟨some 23, none, .val (.len (.tmp 22))⟩,
 ⟨some 24, none, .val (.bin .lss T.int (.tmp 20) (.tmp 23))⟩] [20, 21, 22, 23])
 (.cond (.tmp 24)
  .skip
 (.exit 0)))
 (.seq (.block 1 (.seq (.draw false [
 (.early, ⟨some 27, none, .val (.fieldAddr 1 (.tmp 2))⟩),
 (.early, ⟨some 28, none, .val (.load 1 false (.tmp 27))⟩),
 (.early, ⟨some 29, none, .val (.mv (.tmp 5))⟩),
 (.early, ⟨some 30, none, .val (.indexAddr 1 (.tmp 28) (.tmp 29))⟩),
 (.early, ⟨some 31, none, .val (.load 1 false (.tmp 30))⟩),
 (.early, ⟨some 32, none, .val (.fieldAddr 1 (.tmp 3))⟩),
 (.early, ⟨some 33, none, .val (.load 1 false (.tmp 32))⟩),
 (.early, ⟨some 34, none, .val (.mv (.tmp 5))⟩),
 (.early, ⟨some 35, none, .val (.indexAddr 1 (.tmp 33) (.tmp 34))⟩),
 (.early, ⟨some 36, none, .val (.load 1 false (.tmp 35))⟩),
 (.early, ⟨some 37, none, .val (.bin .neq T.int (.tmp 31) (.tmp 36))⟩)] [27, 28, 29, 30, 31, 32, 33, 34, 35, 36])
 (.cond (.tmp 37)
 (.seq (.region [
 ⟨some 4, none, .val (.mv (.const (.bool false)))⟩] [])
  .ret)
  .skip)))
 (.region [
 ⟨some 25, none, .val (.mv (.tmp 5))⟩,
 ⟨some 26, none, .val (.bin .add T.int (.tmp 25) (.const (.int 1)))⟩,
 ⟨some 5, none, .val (.mv (.tmp 26))⟩] [25, 26]))))))
 (.seq (.region [
 ⟨some 4, none, .val (.mv (.const (.bool true)))⟩] [])
  .ret))))⟩
theorem H.podiumref10_SameBig : Has P F.podiumref10_SameBig C.podiumref10_SameBig := ⟨Try.f65, Try.func65, by kernel_rfl, by kernel_rfl⟩

/-- podium/podiumref09.Check -/
noncomputable def C.podiumref09_Check : MFunc := ⟨50, 1, [.tmp 2],
 (.seq (.region [
 ⟨some 1, none, .box T.apiBig (.tmp 0)⟩,
 ⟨some 2, none, .val (.mv (.const (.int 0)))⟩] [])
 (.seq (.region [
 ⟨some 5, none, .val (.fieldAddr 1 (.tmp 1))⟩,
 ⟨some 6, none, .val (.load 1 false (.tmp 5))⟩,
 ⟨some 7, none, .val (.len (.tmp 6))⟩,
 ⟨some 3, none, .val (.mv (.tmp 7))⟩] [5, 6, 7])
 (.seq (.seq (.region [
 ⟨some 8, none, .val (.mv (.tmp 3))⟩,
 ⟨some 9, none, .val (.bin .gtr T.int (.tmp 8) (.const (.int 2048)))⟩,
 ⟨some 10, none, .val (.mv (.tmp 9))⟩,
 ⟨some 11, some (10, false), .val (.mv (.tmp 3))⟩,
 ⟨some 12, some (10, false), .val (.bin .eql T.int (.tmp 11) (.const (.int 0)))⟩,
 ⟨some 13, some (10, false), .val (.mv (.tmp 12))⟩,
 ⟨some 14, some (13, true), .val (.fieldAddr 0 (.tmp 1))⟩,
 ⟨some 15, some (13, true), .val (.load 1 false (.tmp 14))⟩,
 ⟨some 16, some (10, false), .val (.pick (.tmp 13) (.tmp 15) (.const (.bool false)))⟩,
 ⟨some 17, none, .val (.pick (.tmp 10) (.const (.bool true)) (.tmp 16))⟩,
 ⟨some 18, none, .val (.mv (.tmp 17))⟩,
 ⟨some 19, some (18, false), .val (.mv (.tmp 3))⟩,
 ⟨some 20, some (18, false), .val (.bin .gtr T.int (.tmp 19) (.const (.int 0)))⟩,
 ⟨some 21, some (18, false), .val (.mv (.tmp 20))⟩,
 ⟨some 22, some (21, true), .val (.fieldAddr 1 (.tmp 1))⟩,
 ⟨some 23, some (21, true), .val (.load 1 false (.tmp 22))⟩,
 ⟨some 24, some (21, true), .val (.mv (.tmp 3))⟩,
 ⟨some 25, some (21, true), .val (.bin .sub T.int (.tmp 24) (.const (.int 1)))⟩,
 ⟨some 26, some (21, true), .val (.indexAddr 1 (.tmp 23) (.tmp 25))⟩,
 ⟨some 27, some (21, true), .val (.load 1 false (.tmp 26))⟩,
 ⟨some 28, some (21, true), .val (.bin .eql T.int (.tmp 27) (.const (.int 0)))⟩,
 ⟨some 29, some (18, false), .val (.pick (.tmp 21) (.tmp 28) (.const (.bool false)))⟩,
 ⟨some 30, none, .val (.pick (.tmp 18) (.const (.bool true)) (.tmp 29))⟩] [8, 9, 10, 11, 12, 13, 14, 15, 16, 17, 18, 19, 20, 21, 22, 23, 24, 25, 26, 27, 28, 29])
 (.cond (.tmp 30)
 (.seq (.region [
 ⟨some 2, none, .val (.mv (.const (.int 90)))⟩] [])
  .ret)
  .skip))
 (.seq (.seq (.region [
 ⟨some 4, none, .val (.mv (.const (.int 0)))⟩] [])
 (.block 0 (.loop (.seq (.seq (.region [
 ⟨some 31, none, .val (.mv (.tmp 4))⟩,
 ⟨some 32, none, .val (.mv (.tmp 3))⟩,
 ⟨some 33, none, .val (.bin .lss T.int (.tmp 31) (.tmp 32))⟩] [31, 32])
 (.cond (.tmp 33)
  .skip
 (.exit 0)))
 (.seq (.block 1 (.seq (.region [
 ⟨some 36, none, .val (.fieldAddr 1 (.tmp 1))⟩,
 ⟨some 37, none, .val (.load 1 false (.tmp 36))⟩,
 ⟨some 38, none, .val (.mv (.tmp 4))⟩,
 ⟨some 39, none, .val (.indexAddr 1 (.tmp 37) (.tmp 38))⟩,
 ⟨some 40, none, .val (.load 1 false (.tmp 39))⟩,
 ⟨some 41, none, .val (.bin .lss T.int (.tmp 40) (.const (.int 0)))⟩,
 ⟨some 42, none, .val (.mv (.tmp 41))⟩,
 ⟨some 43, some (42, false), .val (.fieldAddr 1 (.tmp 1))⟩,
 ⟨some 44, some (42, false), .val (.load 1 false (.tmp 43))⟩,
 ⟨some 45, some (42, false), .val (.mv (.tmp 4))⟩,
 ⟨some 46, some (42, false), .val (.indexAddr 1 (.tmp 44) (.tmp 45))⟩,
 ⟨some 47, some (42, false), .val (.load 1 false (.tmp 46))⟩,
 ⟨some 48, some (42, false), .val (.bin .geq T.int (.tmp 47) (.const (.int 1073741824)))⟩,
 ⟨some 49, none, .val (.pick (.tmp 42) (.const (.bool true)) (.tmp 48))⟩] [36, 37, 38, 39, 40, 41, 42, 43, 44, 45, 46, 47, 48])
 (.cond (.tmp 49)
 (.seq (.region [
 ⟨some 2, none, .val (.mv (.const (.int 90)))⟩] [])
  .ret)
  .skip)))
 (.region [
 ⟨some 34, none, .val (.mv (.tmp 4))⟩,
 ⟨some 35, none, .val (.bin .add T.int (.tmp 34) (.const (.int 1)))⟩,
 ⟨some 4, none, .val (.mv (.tmp 35))⟩] [34, 35]))))))
 (.seq (.region [
 ⟨some 2, none, .val (.mv (.const (.int 0)))⟩] [])
  .ret)))))⟩
theorem H.podiumref09_Check : Has P F.podiumref09_Check C.podiumref09_Check := ⟨Try.f66, Try.func66, by kernel_rfl, by kernel_rfl⟩

/-- podium/podiumref10.zero -/
noncomputable def C.podiumref10_zero : MFunc := ⟨7, 1, [.tmp 2],
 (.seq (.region [
 ⟨some 1, none, .box T.apiBig (.tmp 0)⟩,
 ⟨some 2, none, .val (.mv (.const (.bool false)))⟩] [])
 (.seq (.region [
 ⟨some 3, none, .val (.fieldAddr 1 (.tmp 1))⟩,
 ⟨some 4, none, .val (.load 1 false (.tmp 3))⟩,
 ⟨some 5, none, .val (.len (.tmp 4))⟩,
 ⟨some 6, none, .val (.bin .eql T.int (.tmp 5) (.const (.int 0)))⟩,
 ⟨some 2, none, .val (.mv (.tmp 6))⟩] [3, 4, 5, 6])
  .ret))⟩
theorem H.podiumref10_zero : Has P F.podiumref10_zero C.podiumref10_zero := ⟨Try.f67, Try.func67, by kernel_rfl, by kernel_rfl⟩

/-- podium/podiumref09.Gcd -/
noncomputable def C.podiumref09_Gcd : MFunc := ⟨37, 2, [.cell 4 2 true, .tmp 5],
 (.seq (.region [
 ⟨some 2, none, .box T.apiBig (.tmp 0)⟩,
 ⟨some 3, none, .box T.apiBig (.tmp 1)⟩,
 ⟨some 4, none, .alloc T.apiBig [(.bool false), .nil]⟩,
 ⟨some 5, none, .val (.mv (.const (.int 0)))⟩] [])
 (.seq (.region [
 ⟨some 11, none, .val (.load 2 true (.tmp 2))⟩,
 ⟨some 12, none, .val (.load 2 true (.tmp 3))⟩,
 ⟨some 13, none, .call (.const (.func (.func F.podiumref09_two) [] [])) [(.tmp 11), (.tmp 12)]⟩,
 ⟨some 6, none, .val (.mv (.tmp 13))⟩] [11, 12, 13])
 (.seq (.seq (.region [
 ⟨some 14, none, .val (.mv (.tmp 6))⟩,
 ⟨some 15, none, .val (.bin .neq T.apiErrno (.tmp 14) (.const (.int 0)))⟩] [14])
 (.cond (.tmp 15)
 (.seq (.region [
 ⟨some 16, none, .val (.build [(.bool false), .nil] [])⟩,
 ⟨some 17, none, .val (.mv (.tmp 6))⟩,
 ⟨none, none, .store 2 (.tmp 4) (.tmp 16)⟩,
 ⟨some 5, none, .val (.mv (.tmp 17))⟩] [16, 17])
  .ret)
  .skip))
 (.seq (.region [
 ⟨some 18, none, .val (.fieldAddr 1 (.tmp 2))⟩,
 ⟨some 19, none, .val (.load 1 false (.tmp 18))⟩,
 ⟨some 7, none, .val (.mv (.tmp 19))⟩] [18, 19])
 (.seq (.region [
 ⟨some 20, none, .val (.fieldAddr 1 (.tmp 3))⟩,
 ⟨some 21, none, .val (.load 1 false (.tmp 20))⟩,
 ⟨some 8, none, .val (.mv (.tmp 21))⟩] [20, 21])
 (.seq (.block 0 (.loop (.seq (.seq (.region [
 ⟨some 22, none, .val (.mv (.tmp 8))⟩,
 ⟨some 23, none, .val (.len (.tmp 22))⟩,
 ⟨some 24, none, .val (.bin .gtr T.int (.tmp 23) (.const (.int 0)))⟩] [22, 23])
 (.cond (.tmp 24)
  .skip
 (.exit 0)))
 (.block 1 (.seq (.region [
 ⟨some 26, none, .val (.mv (.tmp 7))⟩,
 ⟨some 27, none, .val (.mv (.tmp 8))⟩,
 ⟨some 28, none, .call (.const (.func (.func F.podiumref09_divide) [] [])) [(.tmp 26), (.tmp 27)]⟩,
 ⟨some 25, none, .val (.mv (.tmp 28))⟩,
 ⟨some 29, none, .val (.extract 0 (.tmp 25))⟩,
 ⟨some 30, none, .val (.extract 1 (.tmp 25))⟩,
 ⟨some 9, none, .val (.mv (.tmp 29))⟩,
 ⟨some 10, none, .val (.mv (.tmp 30))⟩] [26, 27, 28, 25, 29, 30, 9])
 (.seq (.region [
 ⟨some 31, none, .val (.mv (.tmp 8))⟩,
 ⟨some 7, none, .val (.mv (.tmp 31))⟩] [31])
 (.region [
 ⟨some 32, none, .val (.mv (.tmp 10))⟩,
 ⟨some 8, none, .val (.mv (.tmp 32))⟩] [32])))))))
 (.seq (.region [
 ⟨some 33, none, .val (.mv (.tmp 7))⟩,
 ⟨some 34, none, .call (.const (.func (.func F.podiumref09_of) [] [])) [(.const (.bool false)), (.tmp 33)]⟩,
 ⟨some 35, none, .val (.extract 0 (.tmp 34))⟩,
 ⟨some 36, none, .val (.extract 1 (.tmp 34))⟩,
 ⟨none, none, .store 2 (.tmp 4) (.tmp 35)⟩,
 ⟨some 5, none, .val (.mv (.tmp 36))⟩] [33, 34, 35, 36])
  .ret)))))))⟩
theorem H.podiumref09_Gcd : Has P F.podiumref09_Gcd C.podiumref09_Gcd := ⟨Try.f68, Try.func68, by kernel_rfl, by kernel_rfl⟩

/-- podium/podiumref09.Make -/
noncomputable def C.podiumref09_Make : MFunc := ⟨26, 1, [.cell 2 2 true],
 (.seq (.region [
 ⟨some 2, none, .alloc T.apiBig [(.bool false), .nil]⟩] [])
 (.seq (.region [
 ⟨some 6, none, .val (.buildSlice T.int 0 [] [])⟩,
 ⟨some 3, none, .val (.mv (.tmp 6))⟩] [6])
 (.seq (.seq (.region [
 ⟨some 7, none, .val (.mv (.tmp 0))⟩,
 ⟨some 4, none, .val (.mv (.tmp 7))⟩] [7])
 (.block 0 (.loop (.seq (.seq (.region [
 ⟨some 8, none, .val (.mv (.tmp 4))⟩,
 ⟨some 9, none, .val (.bin .neq T.int (.tmp 8) (.const (.int 0)))⟩] [8])
 (.cond (.tmp 9)
  .skip
 (.exit 0)))
 (.seq (.block 1 (.seq (.region [
 ⟨some 12, none, .val (.mv (.tmp 4))⟩,
 ⟨some 13, none, .val (.bin .rem T.int (.tmp 12) (.const (.int 1073741824)))⟩,
 ⟨some 5, none, .val (.mv (.tmp 13))⟩] [12, 13])
 (.seq (.seq (.region [
 ⟨some 14, none, .val (.mv (.tmp 5))⟩,
 ⟨some 15, none, .val (.bin .lss T.int (.tmp 14) (.const (.int 0)))⟩] [14])
 (.cond (.tmp 15)
 (.region [
 ⟨some 16, none, .val (.mv (.tmp 5))⟩,
 ⟨some 17, none, .val (.un .neg (.tmp 16))⟩,
 ⟨some 5, none, .val (.mv (.tmp 17))⟩] [16, 17])
  .skip))
 (.region [
 ⟨some 18, none, .val (.mv (.tmp 3))⟩,
 ⟨some 19, none, .val (.mv (.tmp 5))⟩,
 ⟨some 20, none, .val (.buildSlice T.int 1 [(.int 0)] [(0, 1, (.tmp 19))])⟩,
 ⟨some 21, none, .append T.int 8 1 (.tmp 18) (.tmp 20)⟩,
 ⟨some 3, none, .val (.mv (.tmp 21))⟩] [18, 19, 20, 21]))))
 (.region [
 ⟨some 10, none, .val (.mv (.tmp 4))⟩,
 ⟨some 11, none, .val (.bin .quo T.int (.tmp 10) (.const (.int 1073741824)))⟩,
 ⟨some 4, none, .val (.mv (.tmp 11))⟩] [10, 11]))))))
 (.seq (.region [
 ⟨some 22, none, .val (.mv (.tmp 0))⟩,
 ⟨some 23, none, .val (.bin .lss T.int (.tmp 22) (.const (.int 0)))⟩,
 ⟨some 24, none, .val (.mv (.tmp 3))⟩,
 ⟨some 25, none, .val (.build [(.bool false), .nil] [(0, 1, (.tmp 23)), (1, 1, (.tmp 24))])⟩,
 ⟨none, none, .store 2 (.tmp 2) (.tmp 25)⟩] [22, 23, 24, 25])
  .ret))))⟩
theorem H.podiumref09_Make : Has P F.podiumref09_Make C.podiumref09_Make := ⟨Try.f69, Try.func69, by kernel_rfl, by kernel_rfl⟩

/-- podium/ratio.need -/
noncomputable def C.ratio_need : MFunc := ⟨8, 2, [],
 (.seq (.region [
 ⟨some 4, none, .val (.mv (.tmp 0))⟩,
 ⟨some 5, none, .val (.un .not (.tmp 4))⟩] [4])
 (.cond (.tmp 5)
 (.region [
 ⟨some 6, none, .val (.mv (.tmp 1))⟩,
 ⟨some 7, none, .val (.mkIface T.apiErrno (.tmp 6))⟩,
 ⟨none, none, .panic (.tmp 7)⟩] [6, 7])
  .skip))⟩
theorem H.ratio_need : Has P F.ratio_need C.ratio_need := ⟨Try.f70, Try.func70, by kernel_rfl, by kernel_rfl⟩

/-- podium/ratio.did[podium/api.Big] -/
noncomputable def C.ratio_did__apiBig : MFunc := ⟨10, 2, [.cell 4 2 true],
 (.seq (.region [
 ⟨some 2, none, .box T.apiBig (.tmp 0)⟩,
 ⟨some 4, none, .alloc T.apiBig [(.bool false), .nil]⟩] [])
 (.seq (.region [
 ⟨some 5, none, .val (.mv (.tmp 1))⟩,
 ⟨some 6, none, .val (.bin .eql T.apiErrno (.tmp 5) (.const (.int 0)))⟩,
 ⟨some 7, none, .val (.mv (.tmp 1))⟩,
 ⟨some 8, none, .call (.const (.func (.func F.ratio_need) [] [])) [(.tmp 6), (.tmp 7)]⟩] [5, 6, 7, 8])
 (.seq (.region [
 ⟨some 9, none, .val (.load 2 true (.tmp 2))⟩,
 ⟨none, none, .store 2 (.tmp 4) (.tmp 9)⟩] [9])
  .ret)))⟩
theorem H.ratio_did__apiBig : Has P F.ratio_did__apiBig C.ratio_did__apiBig := ⟨Try.f71, Try.func71, by kernel_rfl, by kernel_rfl⟩

/-- podium/nat.Mul -/
noncomputable def C.nat_Mul : MDFunc := ⟨21, 2, [4, 5], [.cell 4 2 true, .cell 5 1 false],
 (.pre [] (.region [
 ⟨some 2, none, .box T.apiBig (.tmp 0)⟩,
 ⟨some 3, none, .box T.apiBig (.tmp 1)⟩,
 ⟨some 4, none, .alloc T.apiBig [(.bool false), .nil]⟩,
 ⟨some 5, none, .alloc T.apiErrno [(.int 0)]⟩] [])
 (.push (.const (.func (.func F.nat_caught) [] [])) [(.tmp 5)]
 (.pre [] (.region [
 ⟨some 6, none, .val (.load 2 true (.tmp 2))⟩,
 ⟨some 7, none, .val (.load 2 true (.tmp 3))⟩,
 ⟨some 8, none, .val (.buildSlice T.apiBig 2 [(.bool false), .nil, (.bool false), .nil] [(0, 2, (.tmp 6)), (2, 2, (.tmp 7))])⟩,
 ⟨some 9, none, .call (.const (.func (.func F.nat_check) [] [])) [(.tmp 8)]⟩] [6, 7, 8, 9])
 (.pre [] (.draw true [
 (.late, ⟨some 10, none, .val (.fieldAddr 0 (.tmp 2))⟩),
 (.late, ⟨some 11, none, .val (.load 1 false (.tmp 10))⟩),
 (.late, ⟨some 12, none, .val (.fieldAddr 0 (.tmp 3))⟩),
 (.late, ⟨some 13, none, .val (.load 1 false (.tmp 12))⟩),
 (.late, ⟨some 14, none, .val (.eqBool true (.tmp 11) (.tmp 13))⟩),
 (.early, ⟨some 15, none, .val (.fieldAddr 1 (.tmp 2))⟩),
 (.early, ⟨some 16, none, .val (.load 1 false (.tmp 15))⟩),
 (.early, ⟨some 17, none, .val (.fieldAddr 1 (.tmp 3))⟩),
 (.early, ⟨some 18, none, .val (.load 1 false (.tmp 17))⟩),
 (.hard, ⟨some 19, none, .call (.const (.func (.func F.nat_mul) [] [])) [(.tmp 16), (.tmp 18)]⟩),
 (.hard, ⟨some 20, none, .call (.const (.func (.func F.nat_big) [] [])) [(.tmp 14), (.tmp 19)]⟩),
 (.last, ⟨none, none, .store 2 (.tmp 4) (.tmp 20)⟩),
 (.last, ⟨none, none, .store 1 (.tmp 5) (.const (.int 0))⟩)] [10, 11, 12, 13, 14, 15, 16, 17, 18, 19, 20])
 (.pre [] .ret
  .done)))))⟩
theorem H.nat_Mul : HasD P F.nat_Mul C.nat_Mul := ⟨Try.f72, Try.func72, by kernel_rfl, by kernel_rfl⟩

/-- podium/nat.caught -/
noncomputable def C.nat_caught : MRFunc := ⟨19, 1, 5, [],
 (.seq (.region [
 ⟨some 2, none, .val (.mv (.tmp 5))⟩] [])
 (.seq (.region [
 ⟨some 6, none, .val (.mv (.tmp 2))⟩,
 ⟨some 7, none, .eqNil true .iface (.tmp 6)⟩] [6])
 (.seq (.cond (.tmp 7)
 (.seq (.region [
 ⟨some 9, none, .val (.mv (.tmp 2))⟩,
 ⟨some 10, none, .val (.assert T.apiErrno (.int 0) true (.tmp 9))⟩,
 ⟨some 8, none, .val (.mv (.tmp 10))⟩,
 ⟨some 11, none, .val (.extract 0 (.tmp 8))⟩,
 ⟨some 12, none, .val (.extract 1 (.tmp 8))⟩,
 ⟨some 3, none, .val (.mv (.tmp 11))⟩,
 ⟨some 4, none, .val (.mv (.tmp 12))⟩] [9, 10, 8, 11, 12])
 (.seq (.seq (.region [
 ⟨some 13, none, .val (.mv (.tmp 4))⟩,
 ⟨some 14, none, .val (.un .not (.tmp 13))⟩] [13])
 (.cond (.tmp 14)
 (.region [
 ⟨some 15, none, .val (.mv (.tmp 2))⟩,
 ⟨none, none, .panic (.tmp 15)⟩] [15])
  .skip))
 (.region [
 ⟨some 16, none, .val (.mv (.tmp 0))⟩,
 ⟨some 17, none, .val (.mv (.tmp 3))⟩,
 ⟨some 18, none, .val (.nilCheck (.tmp 16))⟩,
 ⟨none, none, .store 1 (.tmp 18) (.tmp 17)⟩] [16, 17, 18])))
  .skip)
  .skip)))⟩
theorem H.nat_caught : HasR P F.nat_caught C.nat_caught := ⟨Try.f73, Try.func73, by kernel_rfl, by kernel_rfl⟩

/-- podium/nat.check -/
noncomputable def C.nat_check : MFunc := ⟨18, 1, [],
 (.seq (.region [
 ⟨some 5, none, .val (.mv (.tmp 0))⟩,
 ⟨some 6, none, .val (.len (.tmp 5))⟩,
 ⟨some 7, none, .val (.mv (.const (.int 0)))⟩] [])
 (.block 0 (.loop (.seq (.region [
 ⟨some 8, none, .val (.bin .lss T.int (.tmp 7) (.tmp 6))⟩] [])
 (.seq (.cond (.tmp 8)
  .skip
 (.exit 0))
 (.seq (.block 1 (.seq (.region [
 ⟨some 9, none, .val (.indexAddr 2 (.tmp 5) (.tmp 7))⟩,
 ⟨some 10, none, .val (.load 2 true (.tmp 9))⟩,
 ⟨some 3, none, .alloc T.apiBig [(.bool false), .nil]⟩,
 ⟨none, none, .store 2 (.tmp 3) (.tmp 10)⟩] [9, 10])
 (.seq (.region [
 ⟨some 11, none, .val (.load 2 true (.tmp 3))⟩,
 ⟨some 12, none, .call (.const (.func (.func F.nat_Check) [] [])) [(.tmp 11)]⟩,
 ⟨some 4, none, .val (.mv (.tmp 12))⟩] [11, 12])
 (.seq (.region [
 ⟨some 13, none, .val (.mv (.tmp 4))⟩,
 ⟨some 14, none, .val (.bin .neq T.apiErrno (.tmp 13) (.const (.int 0)))⟩] [13])
 (.cond (.tmp 14)
 (.region [
 ⟨some 15, none, .val (.mv (.tmp 4))⟩,
 ⟨some 16, none, .val (.mkIface T.apiErrno (.tmp 15))⟩,
 ⟨none, none, .panic (.tmp 16)⟩] [15, 16])
  .skip)))))
 (.region [
 ⟨some 17, none, .val (.bin .add T.int (.tmp 7) (.const (.int 1)))⟩,
 ⟨some 7, none, .val (.mv (.tmp 17))⟩] [17])))))))⟩
theorem H.nat_check : Has P F.nat_check C.nat_check := ⟨Try.f74, Try.func74, by kernel_rfl, by kernel_rfl⟩

/-- podium/nat.compare -/
noncomputable def C.nat_compare : MFunc := ⟨39, 2, [.cell 4 1 false],
 (.seq (.region [
 ⟨some 3, none, .box T.natdigits (.tmp 1)⟩,
 ⟨some 4, none, .alloc T.int [(.int 0)]⟩] [])
 (.seq (.seq (.region [
 ⟨some 7, none, .val (.mv (.tmp 0))⟩,
 ⟨some 8, none, .val (.len (.tmp 7))⟩,
 ⟨some 9, none, .val (.load 1 false (.tmp 3))⟩,
 ⟨some 10, none, .val (.len (.tmp 9))⟩,
 ⟨some 11, none, .val (.bin .neq T.int (.tmp 8) (.tmp 10))⟩] [7, 8, 9, 10])
 (.cond (.tmp 11)
 (.seq (.region [
 ⟨some 12, none, .val (.mv (.tmp 0))⟩,
 ⟨some 13, none, .val (.len (.tmp 12))⟩,
 ⟨some 14, none, .val (.load 1 false (.tmp 3))⟩,
 ⟨some 15, none, .val (.len (.tmp 14))⟩,
 ⟨some 16, none, .val (.bin .sub T.int (.tmp 13) (.tmp 15))⟩,
 ⟨some 17, none, .val (.minmax true [(.const (.int 0)), (.tmp 16)])⟩,
 ⟨some 18, none, .val (.minmax false [(.const (.int 1)), (.tmp 17)])⟩,
 ⟨some 19, none, .val (.bin .mul T.int (.const (.int 2)) (.tmp 18))⟩,
 ⟨some 20, none, .val (.bin .sub T.int (.tmp 19) (.const (.int 1)))⟩,
 ⟨none, none, .store 1 (.tmp 4) (.tmp 20)⟩] [12, 13, 14, 15, 16, 17, 18, 19, 20])
  .ret)
  .skip))
 (.seq (.seq (.region [
 ⟨some 21, none, .val (.mv (.tmp 0))⟩,
 ⟨some 22, none, .call (.const (.func (.func F.nat_down) [] [])) [(.tmp 21)]⟩] [21])
 (.block 0 (.rangeFunc (.tmp 22) [23, 24] (.seq (.region [
 ⟨some 5, none, .val (.mv (.tmp 23))⟩] [])
 (.region [
 ⟨some 6, none, .val (.mv (.tmp 24))⟩] []))
 (.block 1 (.block 2 (.seq (.region [
 ⟨some 26, none, .val (.mv (.tmp 6))⟩,
 ⟨some 27, none, .val (.load 1 false (.tmp 3))⟩,
 ⟨some 28, none, .val (.mv (.tmp 5))⟩,
 ⟨some 29, none, .val (.indexAddr 1 (.tmp 27) (.tmp 28))⟩,
 ⟨some 30, none, .val (.load 1 false (.tmp 29))⟩,
 ⟨some 31, none, .val (.bin .lss T.int (.tmp 26) (.tmp 30))⟩,
 ⟨some 25, none, .val (.mv (.tmp 31))⟩] [26, 27, 28, 29, 30, 31])
 (.cond (.tmp 25)
 (.seq (.region [
 ⟨none, none, .store 1 (.tmp 4) (.const (.int (-1)))⟩] [])
  .ret)
 (.seq (.region [
 ⟨some 33, none, .val (.mv (.tmp 6))⟩,
 ⟨some 34, none, .val (.load 1 false (.tmp 3))⟩,
 ⟨some 35, none, .val (.mv (.tmp 5))⟩,
 ⟨some 36, none, .val (.indexAddr 1 (.tmp 34) (.tmp 35))⟩,
 ⟨some 37, none, .val (.load 1 false (.tmp 36))⟩,
 ⟨some 38, none, .val (.bin .gtr T.int (.tmp 33) (.tmp 37))⟩,
 ⟨some 32, none, .val (.mv (.tmp 38))⟩] [33, 34, 35, 36, 37, 38])
 (.cond (.tmp 32)
 (.seq (.region [
 ⟨none, none, .store 1 (.tmp 4) (.const (.int 1))⟩] [])
  .ret)
  .skip)))))))))
 (.seq (.region [
 ⟨none, none, .store 1 (.tmp 4) (.const (.int 0))⟩] [])
  .ret))))⟩
theorem H.nat_compare : Has P F.nat_compare C.nat_compare := ⟨Try.f75, Try.func75, by kernel_rfl, by kernel_rfl⟩

/-- slices.IndexFunc[[]int,int] -/
noncomputable def C.slices_IndexFunc__Lint_int : MFunc := ⟨19, 2, [.tmp 4],
 (.seq (.region [
 ⟨some 4, none, .val (.mv (.const (.int 0)))⟩] [])
 (.seq (.seq (.region [
 ⟨some 6, none, .val (.mv (.tmp 0))⟩,
 ⟨some 7, none, .val (.len (.tmp 6))⟩,
 ⟨some 8, none, .val (.mv (.const (.int 0)))⟩] [6])
 (.block 0 (.loop (.seq (.region [
 ⟨some 9, none, .val (.bin .lss T.int (.tmp 8) (.tmp 7))⟩] [])
 (.seq (.cond (.tmp 9)
  .skip
 (.exit 0))
 (.seq (.block 1 (.seq (.region [
 ⟨some 10, none, .val (.mv (.tmp 8))⟩,
 ⟨some 5, none, .val (.mv (.tmp 10))⟩] [10])
 (.seq (.region [
 ⟨some 11, none, .val (.mv (.tmp 1))⟩,
 ⟨some 12, none, .val (.mv (.tmp 0))⟩,
 ⟨some 13, none, .val (.mv (.tmp 5))⟩,
 ⟨some 14, none, .val (.indexAddr 1 (.tmp 12) (.tmp 13))⟩,
 ⟨some 15, none, .val (.load 1 false (.tmp 14))⟩,
 ⟨some 16, none, .call (.tmp 11) [(.tmp 15)]⟩] [11, 12, 13, 14, 15])
 (.cond (.tmp 16)
 (.seq (.region [
 ⟨some 17, none, .val (.mv (.tmp 5))⟩,
 ⟨some 4, none, .val (.mv (.tmp 17))⟩] [17])
  .ret)
  .skip))))
 (.region [
 ⟨some 18, none, .val (.bin .add T.int (.tmp 8) (.const (.int 1)))⟩,
 ⟨some 8, none, .val (.mv (.tmp 18))⟩] [18])))))))
 (.seq (.region [
 ⟨some 4, none, .val (.mv (.const (.int (-1))))⟩] [])
  .ret)))⟩
theorem H.slices_IndexFunc__Lint_int : Has P F.slices_IndexFunc__Lint_int C.slices_IndexFunc__Lint_int := ⟨Try.f76, Try.func76, by kernel_rfl, by kernel_rfl⟩

/-- podium/nat.Check -/
noncomputable def C.nat_Check : MFunc := ⟨37, 1, [.tmp 2],
 (.seq (.region [
 ⟨some 1, none, .box T.apiBig (.tmp 0)⟩,
 ⟨some 2, none, .val (.mv (.const (.int 0)))⟩] [])
 (.seq (.region [
 ⟨some 5, none, .val (.fieldAddr 1 (.tmp 1))⟩,
 ⟨some 6, none, .val (.load 1 false (.tmp 5))⟩,
 ⟨some 7, none, .val (.len (.tmp 6))⟩,
 ⟨some 3, none, .val (.mv (.tmp 7))⟩] [5, 6, 7])
 (.seq (.region [
 ⟨some 4, none, .val (.mv (.const (.func (.func F.nat_Check_1) [] [])))⟩] [])
 (.seq (.seq (.region [
 ⟨some 8, none, .val (.mv (.tmp 3))⟩,
 ⟨some 9, none, .val (.bin .gtr T.int (.tmp 8) (.const (.int 2048)))⟩,
 ⟨some 10, none, .val (.mv (.tmp 9))⟩,
 ⟨some 11, some (10, false), .val (.mv (.tmp 3))⟩,
 ⟨some 12, some (10, false), .val (.bin .eql T.int (.tmp 11) (.const (.int 0)))⟩,
 ⟨some 13, some (10, false), .val (.mv (.tmp 12))⟩,
 ⟨some 14, some (13, true), .val (.fieldAddr 0 (.tmp 1))⟩,
 ⟨some 15, some (13, true), .val (.load 1 false (.tmp 14))⟩,
 ⟨some 16, some (10, false), .val (.pick (.tmp 13) (.tmp 15) (.const (.bool false)))⟩,
 ⟨some 17, none, .val (.pick (.tmp 10) (.const (.bool true)) (.tmp 16))⟩,
 ⟨some 18, none, .val (.mv (.tmp 17))⟩,
 ⟨some 19, some (18, false), .val (.mv (.tmp 3))⟩,
 ⟨some 20, some (18, false), .val (.bin .gtr T.int (.tmp 19) (.const (.int 0)))⟩,
 ⟨some 21, some (18, false), .val (.mv (.tmp 20))⟩,
 ⟨some 22, some (21, true), .val (.fieldAddr 1 (.tmp 1))⟩,
 ⟨some 23, some (21, true), .val (.load 1 false (.tmp 22))⟩,
 ⟨some 24, some (21, true), .val (.mv (.tmp 3))⟩,
 ⟨some 25, some (21, true), .val (.bin .sub T.int (.tmp 24) (.const (.int 1)))⟩,
 ⟨some 26, some (21, true), .val (.indexAddr 1 (.tmp 23) (.tmp 25))⟩,
 ⟨some 27, some (21, true), .val (.load 1 false (.tmp 26))⟩,
 ⟨some 28, some (21, true), .val (.bin .eql T.int (.tmp 27) (.const (.int 0)))⟩,
 ⟨some 29, some (18, false), .val (.pick (.tmp 21) (.tmp 28) (.const (.bool false)))⟩,
 ⟨some 30, none, .val (.pick (.tmp 18) (.const (.bool true)) (.tmp 29))⟩,
 ⟨some 31, none, .val (.mv (.tmp 30))⟩,
 ⟨some 32, some (31, false), .val (.fieldAddr 1 (.tmp 1))⟩,
 ⟨some 33, some (31, false), .val (.load 1 false (.tmp 32))⟩,
 ⟨some 34, some (31, false), .val (.mv (.tmp 4))⟩,
 ⟨some 35, some (31, false), .call (.const (.func (.func F.slices_ContainsFunc__Lint_int) [] [])) [(.tmp 33), (.tmp 34)]⟩,
 ⟨some 36, none, .val (.pick (.tmp 31) (.const (.bool true)) (.tmp 35))⟩] [8, 9, 10, 11, 12, 13, 14, 15, 16, 17, 18, 19, 20, 21, 22, 23, 24, 25, 26, 27, 28, 29, 30, 31, 32, 33, 34, 35])
 (.cond (.tmp 36)
 (.seq (.region [
 ⟨some 2, none, .val (.mv (.const (.int 90)))⟩] [])
  .ret)
  .skip))
 (.seq (.region [
 ⟨some 2, none, .val (.mv (.const (.int 0)))⟩] [])
  .ret)))))⟩
theorem H.nat_Check : Has P F.nat_Check C.nat_Check := ⟨Try.f77, Try.func77, by kernel_rfl, by kernel_rfl⟩

/-- podium/ratio.positive -/
noncomputable def C.ratio_positive : MFunc := ⟨12, 1, [.tmp 2],
 (.seq (.region [
 ⟨some 1, none, .box T.apiBig (.tmp 0)⟩,
 ⟨some 2, none, .val (.mv (.const (.bool false)))⟩] [])
 (.seq (.region [
 ⟨some 3, none, .val (.fieldAddr 0 (.tmp 1))⟩,
 ⟨some 4, none, .val (.load 1 false (.tmp 3))⟩,
 ⟨some 5, none, .val (.un .not (.tmp 4))⟩,
 ⟨some 6, none, .val (.mv (.tmp 5))⟩,
 ⟨some 7, some (6, true), .val (.fieldAddr 1 (.tmp 1))⟩,
 ⟨some 8, some (6, true), .val (.load 1 false (.tmp 7))⟩,
 ⟨some 9, some (6, true), .val (.len (.tmp 8))⟩,
 ⟨some 10, some (6, true), .val (.bin .gtr T.int (.tmp 9) (.const (.int 0)))⟩,
 ⟨some 11, none, .val (.pick (.tmp 6) (.tmp 10) (.const (.bool false)))⟩,
 ⟨some 2, none, .val (.mv (.tmp 11))⟩] [3, 4, 5, 6, 7, 8, 9, 10, 11])
  .ret))⟩
theorem H.ratio_positive : Has P F.ratio_positive C.ratio_positive := ⟨Try.f78, Try.func78, by kernel_rfl, by kernel_rfl⟩

/-- podium/nat.Gcd -/
noncomputable def C.nat_Gcd : MDFunc := ⟨31, 2, [4, 5], [.cell 4 2 true, .cell 5 1 false],
 (.pre [] (.region [
 ⟨some 2, none, .box T.apiBig (.tmp 0)⟩,
 ⟨some 3, none, .box T.apiBig (.tmp 1)⟩,
 ⟨some 4, none, .alloc T.apiBig [(.bool false), .nil]⟩,
 ⟨some 5, none, .alloc T.apiErrno [(.int 0)]⟩] [])
 (.push (.const (.func (.func F.nat_caught) [] [])) [(.tmp 5)]
 (.pre [] (.region [
 ⟨some 10, none, .val (.load 2 true (.tmp 2))⟩,
 ⟨some 11, none, .val (.load 2 true (.tmp 3))⟩,
 ⟨some 12, none, .val (.buildSlice T.apiBig 2 [(.bool false), .nil, (.bool false), .nil] [(0, 2, (.tmp 10)), (2, 2, (.tmp 11))])⟩,
 ⟨some 13, none, .call (.const (.func (.func F.nat_check) [] [])) [(.tmp 12)]⟩] [10, 11, 12, 13])
 (.pre [] (.draw false [
 (.early, ⟨some 14, none, .val (.fieldAddr 1 (.tmp 2))⟩),
 (.early, ⟨some 15, none, .val (.load 1 false (.tmp 14))⟩),
 (.early, ⟨some 16, none, .val (.fieldAddr 1 (.tmp 3))⟩),
 (.early, ⟨some 17, none, .val (.load 1 false (.tmp 16))⟩),
 (.early, ⟨some 6, none, .val (.mv (.tmp 15))⟩),
 (.early, ⟨some 7, none, .val (.mv (.tmp 17))⟩)] [14, 15, 16, 17])
 (.pre [] (.block 0 (.loop (.seq (.seq (.region [
 ⟨some 18, none, .val (.mv (.tmp 7))⟩,
 ⟨some 19, none, .val (.len (.tmp 18))⟩,
 ⟨some 20, none, .val (.bin .gtr T.int (.tmp 19) (.const (.int 0)))⟩] [18, 19])
 (.cond (.tmp 20)
  .skip
 (.exit 0)))
 (.block 1 (.seq (.region [
 ⟨some 22, none, .val (.mv (.tmp 6))⟩,
 ⟨some 23, none, .val (.mv (.tmp 7))⟩,
 ⟨some 24, none, .call (.const (.func (.func F.nat_div) [] [])) [(.tmp 22), (.tmp 23)]⟩,
 ⟨some 21, none, .val (.mv (.tmp 24))⟩,
 ⟨some 25, none, .val (.extract 0 (.tmp 21))⟩,
 ⟨some 26, none, .val (.extract 1 (.tmp 21))⟩,
 ⟨some 8, none, .val (.mv (.tmp 25))⟩,
 ⟨some 9, none, .val (.mv (.tmp 26))⟩] [22, 23, 24, 21, 25, 26, 8])
 (.region [
 ⟨some 27, none, .val (.mv (.tmp 7))⟩,
 ⟨some 28, none, .val (.mv (.tmp 9))⟩,
 ⟨some 6, none, .val (.mv (.tmp 27))⟩,
 ⟨some 7, none, .val (.mv (.tmp 28))⟩] [27, 28]))))))
 (.pre [] (.region [
 ⟨some 29, none, .val (.mv (.tmp 6))⟩,
 ⟨some 30, none, .call (.const (.func (.func F.nat_big) [] [])) [(.const (.bool false)), (.tmp 29)]⟩,
 ⟨none, none, .store 2 (.tmp 4) (.tmp 30)⟩,
 ⟨none, none, .store 1 (.tmp 5) (.const (.int 0))⟩] [29, 30])
 (.pre [] .ret
  .done)))))))⟩
theorem H.nat_Gcd : HasD P F.nat_Gcd C.nat_Gcd := ⟨Try.f79, Try.func79, by kernel_rfl, by kernel_rfl⟩

/-- slices.insertionSortCmpFunc[podium/api.Record] -/
noncomputable def C.slices_insertionSortCmpFunc__apiRecord : MFunc := ⟨53, 4, [],
 (.seq (.region [
 ⟨some 10, none, .val (.mv (.tmp 1))⟩,
 ⟨some 11, none, .val (.bin .add T.int (.tmp 10) (.const (.int 1)))⟩,
 ⟨some 8, none, .val (.mv (.tmp 11))⟩] [10, 11])
 (.block 0 (.loop (.seq (.seq (.region [
 ⟨some 12, none, .val (.mv (.tmp 8))⟩,
 ⟨some 13, none, .val (.mv (.tmp 2))⟩,
 ⟨some 14, none, .val (.bin .lss T.int (.tmp 12) (.tmp 13))⟩] [12, 13])
 (.cond (.tmp 14)
  .skip
 (.exit 0)))
 (.seq (.block 1 (.seq (.region [
 ⟨some 17, none, .val (.mv (.tmp 8))⟩,
 ⟨some 9, none, .val (.mv (.tmp 17))⟩] [17])
 (.block 2 (.loop (.seq (.seq (.draw true [
 (.early, ⟨some 18, none, .val (.mv (.tmp 9))⟩),
 (.early, ⟨some 19, none, .val (.mv (.tmp 1))⟩),
 (.early, ⟨some 20, none, .val (.bin .gtr T.int (.tmp 18) (.tmp 19))⟩),
 (.early, ⟨some 21, none, .val (.mv (.tmp 20))⟩),
 (.early, ⟨some 22, some (21, true), .val (.mv (.tmp 3))⟩),
 (.early, ⟨some 23, some (21, true), .val (.mv (.tmp 0))⟩),
 (.early, ⟨some 24, some (21, true), .val (.mv (.tmp 9))⟩),
 (.early, ⟨some 25, some (21, true), .val (.indexAddr 7 (.tmp 23) (.tmp 24))⟩),
 (.early, ⟨some 26, some (21, true), .val (.load 7 true (.tmp 25))⟩),
 (.early, ⟨some 27, some (21, true), .val (.mv (.tmp 0))⟩),
 (.early, ⟨some 28, some (21, true), .val (.mv (.tmp 9))⟩),
 (.early, ⟨some 29, some (21, true), .val (.bin .sub T.int (.tmp 28) (.const (.int 1)))⟩),
 (.early, ⟨some 30, some (21, true), .val (.indexAddr 7 (.tmp 27) (.tmp 29))⟩),
 (.early, ⟨some 31, some (21, true), .val (.load 7 true (.tmp 30))⟩),
 (.hard, ⟨some 32, some (21, true), .call (.tmp 22) [(.tmp 26), (.tmp 31)]⟩),
 (.late, ⟨some 33, some (21, true), .val (.bin .lss T.int (.tmp 32) (.const (.int 0)))⟩),
 (.late, ⟨some 34, none, .val (.pick (.tmp 21) (.tmp 33) (.const (.bool false)))⟩)] [18, 19, 20, 21, 22, 23, 24, 25, 26, 27, 28, 29, 30, 31, 32, 33])
 (.cond (.tmp 34)
  .skip
 (.exit 2)))
 (.seq (.block 3 (.draw true [
 (.early, ⟨some 37, none, .val (.mv (.tmp 0))⟩),
 (.early, ⟨some 38, none, .val (.mv (.tmp 9))⟩),
 (.late, ⟨some 39, none, .val (.mv (.tmp 0))⟩),
 (.late, ⟨some 40, none, .val (.mv (.tmp 9))⟩),
 (.late, ⟨some 41, none, .val (.bin .sub T.int (.tmp 40) (.const (.int 1)))⟩),
 (.early, ⟨some 42, none, .val (.mv (.tmp 0))⟩),
 (.early, ⟨some 43, none, .val (.mv (.tmp 9))⟩),
 (.early, ⟨some 44, none, .val (.bin .sub T.int (.tmp 43) (.const (.int 1)))⟩),
 (.early, ⟨some 45, none, .val (.indexAddr 7 (.tmp 42) (.tmp 44))⟩),
 (.early, ⟨some 46, none, .val (.load 7 true (.tmp 45))⟩),
 (.early, ⟨some 47, none, .val (.mv (.tmp 0))⟩),
 (.early, ⟨some 48, none, .val (.mv (.tmp 9))⟩),
 (.early, ⟨some 49, none, .val (.indexAddr 7 (.tmp 47) (.tmp 48))⟩),
 (.early, ⟨some 50, none, .val (.load 7 true (.tmp 49))⟩),
 (.early, ⟨some 51, none, .val (.indexAddr 7 (.tmp 37) (.tmp 38))⟩),
 (.last, ⟨none, none, .store 7 (.tmp 51) (.tmp 46)⟩),
 (.late, ⟨some 52, none, .val (.indexAddr 7 (.tmp 39) (.tmp 41))⟩),
 (.last, ⟨none, none, .store 7 (.tmp 52) (.tmp 50)⟩)] [37, 38, 39, 40, 41, 42, 43, 44, 45, 46, 47, 48, 49, 50, 51, 52]))
 (.region [
 ⟨some 35, none, .val (.mv (.tmp 9))⟩,
 ⟨some 36, none, .val (.bin .sub T.int (.tmp 35) (.const (.int 1)))⟩,
 ⟨some 9, none, .val (.mv (.tmp 36))⟩] [35, 36])))))))
 (.region [
 ⟨some 15, none, .val (.mv (.tmp 8))⟩,
 ⟨some 16, none, .val (.bin .add T.int (.tmp 15) (.const (.int 1)))⟩,
 ⟨some 8, none, .val (.mv (.tmp 16))⟩] [15, 16]))))))⟩
theorem H.slices_insertionSortCmpFunc__apiRecord : Has P F.slices_insertionSortCmpFunc__apiRecord C.slices_insertionSortCmpFunc__apiRecord := ⟨Try.f80, Try.func80, by kernel_rfl, by kernel_rfl⟩

/-- slices.symMergeCmpFunc[podium/api.Record] -/
noncomputable def C.slices_symMergeCmpFunc__apiRecord : MFunc := ⟨220, 5, [],
 (.seq (.seq (.region [
 ⟨some 25, none, .val (.mv (.tmp 2))⟩,
 ⟨some 26, none, .val (.mv (.tmp 1))⟩,
 ⟨some 27, none, .val (.bin .sub T.int (.tmp 25) (.tmp 26))⟩,
 ⟨some 28, none, .val (.bin .eql T.int (.tmp 27) (.const (.int 1)))⟩] [25, 26, 27])
 (.cond (.tmp 28)
 (.seq (.region [
 ⟨some 29, none, .val (.mv (.tmp 2))⟩,
 ⟨some 10, none, .val (.mv (.tmp 29))⟩] [29])
 (.seq (.region [
 ⟨some 30, none, .val (.mv (.tmp 3))⟩,
 ⟨some 11, none, .val (.mv (.tmp 30))⟩] [30])
 (.seq (.block 0 (.loop (.seq (.seq (.region [
 ⟨some 31, none, .val (.mv (.tmp 10))⟩,
 ⟨some 32, none, .val (.mv (.tmp 11))⟩,
 ⟨some 33, none, .val (.bin .lss T.int (.tmp 31) (.tmp 32))⟩] [31, 32])
 (.cond (.tmp 33)
  .skip
 (.exit 0)))
 (.block 1 (.seq (.region [
 ⟨some 34, none, .val (.mv (.tmp 10))⟩,
 ⟨some 35, none, .val (.mv (.tmp 11))⟩,
 ⟨some 36, none, .val (.bin .add T.int (.tmp 34) (.tmp 35))⟩,
 ⟨some 37, none, .val (.toInt .u64 (.tmp 36))⟩,
 ⟨some 38, none, .val (.bin .shr T.uint (.tmp 37) (.const (.val (.int .u64 1))))⟩,
 ⟨some 39, none, .val (.toInt .i64 (.tmp 38))⟩,
 ⟨some 12, none, .val (.mv (.tmp 39))⟩] [34, 35, 36, 37, 38, 39])
 (.seq (.draw true [
 (.early, ⟨some 40, none, .val (.mv (.tmp 4))⟩),
 (.early, ⟨some 41, none, .val (.mv (.tmp 0))⟩),
 (.early, ⟨some 42, none, .val (.mv (.tmp 12))⟩),
 (.early, ⟨some 43, none, .val (.indexAddr 7 (.tmp 41) (.tmp 42))⟩),
 (.early, ⟨some 44, none, .val (.load 7 true (.tmp 43))⟩),
 (.early, ⟨some 45, none, .val (.mv (.tmp 0))⟩),
 (.early, ⟨some 46, none, .val (.mv (.tmp 1))⟩),
 (.early, ⟨some 47, none, .val (.indexAddr 7 (.tmp 45) (.tmp 46))⟩),
 (.early, ⟨some 48, none, .val (.load 7 true (.tmp 47))⟩),
 (.hard, ⟨some 49, none, .call (.tmp 40) [(.tmp 44), (.tmp 48)]⟩),
 (.late, ⟨some 50, none, .val (.bin .lss T.int (.tmp 49) (.const (.int 0)))⟩)] [40, 41, 42, 43, 44, 45, 46, 47, 48, 49])
 (.cond (.tmp 50)
 (.region [
 ⟨some 51, none, .val (.mv (.tmp 12))⟩,
 ⟨some 52, none, .val (.bin .add T.int (.tmp 51) (.const (.int 1)))⟩,
 ⟨some 10, none, .val (.mv (.tmp 52))⟩] [51, 52])
 (.region [
 ⟨some 53, none, .val (.mv (.tmp 12))⟩,
 ⟨some 11, none, .val (.mv (.tmp 53))⟩] [53]))))))))
 (.seq (.seq (.region [
 ⟨some 54, none, .val (.mv (.tmp 1))⟩,
 ⟨some 13, none, .val (.mv (.tmp 54))⟩] [54])
 (.block 2 (.loop (.seq (.seq (.region [
 ⟨some 55, none, .val (.mv (.tmp 13))⟩,
 ⟨some 56, none, .val (.mv (.tmp 10))⟩,
 ⟨some 57, none, .val (.bin .sub T.int (.tmp 56) (.const (.int 1)))⟩,
 ⟨some 58, none, .val (.bin .lss T.int (.tmp 55) (.tmp 57))⟩] [55, 56, 57])
 (.cond (.tmp 58)
  .skip
 (.exit 2)))
 (.seq (.block 3 (.draw true [
 (.early, ⟨some 61, none, .val (.mv (.tmp 0))⟩),
 (.early, ⟨some 62, none, .val (.mv (.tmp 13))⟩),
 (.late, ⟨some 63, none, .val (.mv (.tmp 0))⟩),
 (.late, ⟨some 64, none, .val (.mv (.tmp 13))⟩),
 (.late, ⟨some 65, none, .val (.bin .add T.int (.tmp 64) (.const (.int 1)))⟩),
 (.early, ⟨some 66, none, .val (.mv (.tmp 0))⟩),
 (.early, ⟨some 67, none, .val (.mv (.tmp 13))⟩),
 (.early, ⟨some 68, none, .val (.bin .add T.int (.tmp 67) (.const (.int 1)))⟩),
 (.early, ⟨some 69, none, .val (.indexAddr 7 (.tmp 66) (.tmp 68))⟩),
 (.early, ⟨some 70, none, .val (.load 7 true (.tmp 69))⟩),
 (.early, ⟨some 71, none, .val (.mv (.tmp 0))⟩),
 (.early, ⟨some 72, none, .val (.mv (.tmp 13))⟩),
 (.early, ⟨some 73, none, .val (.indexAddr 7 (.tmp 71) (.tmp 72))⟩),
 (.early, ⟨some 74, none, .val (.load 7 true (.tmp 73))⟩),
 (.early, ⟨some 75, none, .val (.indexAddr 7 (.tmp 61) (.tmp 62))⟩),
 (.last, ⟨none, none, .store 7 (.tmp 75) (.tmp 70)⟩),
 (.late, ⟨some 76, none, .val (.indexAddr 7 (.tmp 63) (.tmp 65))⟩),
 (.last, ⟨none, none, .store 7 (.tmp 76) (.tmp 74)⟩)] [61, 62, 63, 64, 65, 66, 67, 68, 69, 70, 71, 72, 73, 74, 75, 76]))
 (.region [
 ⟨some 59, none, .val (.mv (.tmp 13))⟩,
 ⟨some 60, none, .val (.bin .add T.int (.tmp 59) (.const (.int 1)))⟩,
 ⟨some 13, none, .val (.mv (.tmp 60))⟩] [59, 60]))))))
  .ret))))
  .skip))
 (.seq (.seq (.region [
 ⟨some 77, none, .val (.mv (.tmp 3))⟩,
 ⟨some 78, none, .val (.mv (.tmp 2))⟩,
 ⟨some 79, none, .val (.bin .sub T.int (.tmp 77) (.tmp 78))⟩,
 ⟨some 80, none, .val (.bin .eql T.int (.tmp 79) (.const (.int 1)))⟩] [77, 78, 79])
 (.cond (.tmp 80)
 (.seq (.region [
 ⟨some 81, none, .val (.mv (.tmp 1))⟩,
 ⟨some 14, none, .val (.mv (.tmp 81))⟩] [81])
 (.seq (.region [
 ⟨some 82, none, .val (.mv (.tmp 2))⟩,
 ⟨some 15, none, .val (.mv (.tmp 82))⟩] [82])
 (.seq (.block 4 (.loop (.seq (.seq (.region [
 ⟨some 83, none, .val (.mv (.tmp 14))⟩,
 ⟨some 84, none, .val (.mv (.tmp 15))⟩,
 ⟨some 85, none, .val (.bin .lss T.int (.tmp 83) (.tmp 84))⟩] [83, 84])
 (.cond (.tmp 85)
  .skip
 (.exit 4)))
 (.block 5 (.seq (.region [
 ⟨some 86, none, .val (.mv (.tmp 14))⟩,
 ⟨some 87, none, .val (.mv (.tmp 15))⟩,
 ⟨some 88, none, .val (.bin .add T.int (.tmp 86) (.tmp 87))⟩,
 ⟨some 89, none, .val (.toInt .u64 (.tmp 88))⟩,
 ⟨some 90, none, .val (.bin .shr T.uint (.tmp 89) (.const (.val (.int .u64 1))))⟩,
 ⟨some 91, none, .val (.toInt .i64 (.tmp 90))⟩,
 ⟨some 16, none, .val (.mv (.tmp 91))⟩] [86, 87, 88, 89, 90, 91])
 (.seq (.draw true [
 (.early, ⟨some 92, none, .val (.mv (.tmp 4))⟩),
 (.early, ⟨some 93, none, .val (.mv (.tmp 0))⟩),
 (.early, ⟨some 94, none, .val (.mv (.tmp 2))⟩),
 (.early, ⟨some 95, none, .val (.indexAddr 7 (.tmp 93) (.tmp 94))⟩),
 (.early, ⟨some 96, none, .val (.load 7 true (.tmp 95))⟩),
 (.early, ⟨some 97, none, .val (.mv (.tmp 0))⟩),
 (.early, ⟨some 98, none, .val (.mv (.tmp 16))⟩),
 (.early, ⟨some 99, none, .val (.indexAddr 7 (.tmp 97) (.tmp 98))⟩),
 (.early, ⟨some 100, none, .val (.load 7 true (.tmp 99))⟩),
 (.hard, ⟨some 101, none, .call (.tmp 92) [(.tmp 96), (.tmp 100)]⟩),
 (.late, ⟨some 102, none, .val (.bin .lss T.int (.tmp 101) (.const (.int 0)))⟩),
 (.late, ⟨some 103, none, .val (.un .not (.tmp 102))⟩)] [92, 93, 94, 95, 96, 97, 98, 99, 100, 101, 102])
 (.cond (.tmp 103)
 (.region [
 ⟨some 104, none, .val (.mv (.tmp 16))⟩,
 ⟨some 105, none, .val (.bin .add T.int (.tmp 104) (.const (.int 1)))⟩,
 ⟨some 14, none, .val (.mv (.tmp 105))⟩] [104, 105])
 (.region [
 ⟨some 106, none, .val (.mv (.tmp 16))⟩,
 ⟨some 15, none, .val (.mv (.tmp 106))⟩] [106]))))))))
 (.seq (.seq (.region [
 ⟨some 107, none, .val (.mv (.tmp 2))⟩,
 ⟨some 17, none, .val (.mv (.tmp 107))⟩] [107])
 (.block 6 (.loop (.seq (.seq (.region [
 ⟨some 108, none, .val (.mv (.tmp 17))⟩,
 ⟨some 109, none, .val (.mv (.tmp 14))⟩,
 ⟨some 110, none, .val (.bin .gtr T.int (.tmp 108) (.tmp 109))⟩] [108, 109])
 (.cond (.tmp 110)
  .skip
 (.exit 6)))
 (.seq (.block 7 (.draw true [
 (.early, ⟨some 113, none, .val (.mv (.tmp 0))⟩),
 (.early, ⟨some 114, none, .val (.mv (.tmp 17))⟩),
 (.late, ⟨some 115, none, .val (.mv (.tmp 0))⟩),
 (.late, ⟨some 116, none, .val (.mv (.tmp 17))⟩),
 (.late, ⟨some 117, none, .val (.bin .sub T.int (.tmp 116) (.const (.int 1)))⟩),
 (.early, ⟨some 118, none, .val (.mv (.tmp 0))⟩),
 (.early, ⟨some 119, none, .val (.mv (.tmp 17))⟩),
 (.early, ⟨some 120, none, .val (.bin .sub T.int (.tmp 119) (.const (.int 1)))⟩),
 (.early, ⟨some 121, none, .val (.indexAddr 7 (.tmp 118) (.tmp 120))⟩),
 (.early, ⟨some 122, none, .val (.load 7 true (.tmp 121))⟩),
 (.early, ⟨some 123, none, .val (.mv (.tmp 0))⟩),
 (.early, ⟨some 124, none, .val (.mv (.tmp 17))⟩),
 (.early, ⟨some 125, none, .val (.indexAddr 7 (.tmp 123) (.tmp 124))⟩),
 (.early, ⟨some 126, none, .val (.load 7 true (.tmp 125))⟩),
 (.early, ⟨some 127, none, .val (.indexAddr 7 (.tmp 113) (.tmp 114))⟩),
 (.last, ⟨none, none, .store 7 (.tmp 127) (.tmp 122)⟩),
 (.late, ⟨some 128, none, .val (.indexAddr 7 (.tmp 115) (.tmp 117))⟩),
 (.last, ⟨none, none, .store 7 (.tmp 128) (.tmp 126)⟩)] [113, 114, 115, 116, 117, 118, 119, 120, 121, 122, 123, 124, 125, 126, 127, 128]))
 (.region [
 ⟨some 111, none, .val (.mv (.tmp 17))⟩,
 ⟨some 112, none, .val (.bin .sub T.int (.tmp 111) (.const (.int 1)))⟩,
 ⟨some 17, none, .val (.mv (.tmp 112))⟩] [111, 112]))))))
  .ret))))
  .skip))
 (.seq (.region [
 ⟨some 129, none, .val (.mv (.tmp 1))⟩,
 ⟨some 130, none, .val (.mv (.tmp 3))⟩,
 ⟨some 131, none, .val (.bin .add T.int (.tmp 129) (.tmp 130))⟩,
 ⟨some 132, none, .val (.toInt .u64 (.tmp 131))⟩,
 ⟨some 133, none, .val (.bin .shr T.uint (.tmp 132) (.const (.val (.int .u64 1))))⟩,
 ⟨some 134, none, .val (.toInt .i64 (.tmp 133))⟩,
 ⟨some 18, none, .val (.mv (.tmp 134))⟩] [129, 130, 131, 132, 133, 134])
 (.seq (.region [
 ⟨some 135, none, .val (.mv (.tmp 18))⟩,
 ⟨some 136, none, .val (.mv (.tmp 2))⟩,
 ⟨some 137, none, .val (.bin .add T.int (.tmp 135) (.tmp 136))⟩,
 ⟨some 19, none, .val (.mv (.tmp 137))⟩] [135, 136, 137])
 (.seq (.region [
 ⟨some 20, none, .val (.mv (.const (.int 0)))⟩,
 ⟨some 21, none, .val (.mv (.const (.int 0)))⟩] [])
 (.seq (.seq (.region [
 ⟨some 138, none, .val (.mv (.tmp 2))⟩,
 ⟨some 139, none, .val (.mv (.tmp 18))⟩,
 ⟨some 140, none, .val (.bin .gtr T.int (.tmp 138) (.tmp 139))⟩] [138, 139])
 (.cond (.tmp 140)
 (.seq (.region [
 ⟨some 141, none, .val (.mv (.tmp 19))⟩,
 ⟨some 142, none, .val (.mv (.tmp 3))⟩,
 ⟨some 143, none, .val (.bin .sub T.int (.tmp 141) (.tmp 142))⟩,
 ⟨some 20, none, .val (.mv (.tmp 143))⟩] [141, 142, 143])
 (.region [
 ⟨some 144, none, .val (.mv (.tmp 18))⟩,
 ⟨some 21, none, .val (.mv (.tmp 144))⟩] [144]))
 (.seq (.region [
 ⟨some 145, none, .val (.mv (.tmp 1))⟩,
 ⟨some 20, none, .val (.mv (.tmp 145))⟩] [145])
 (.region [
 ⟨some 146, none, .val (.mv (.tmp 2))⟩,
 ⟨some 21, none, .val (.mv (.tmp 146))⟩] [146]))))
 (.seq (.region [
 ⟨some 147, none, .val (.mv (.tmp 19))⟩,
 ⟨some 148, none, .val (.bin .sub T.int (.tmp 147) (.const (.int 1)))⟩,
 ⟨some 22, none, .val (.mv (.tmp 148))⟩] [147, 148])
 (.seq (.block 8 (.loop (.seq (.seq (.region [
 ⟨some 149, none, .val (.mv (.tmp 20))⟩,
 ⟨some 150, none, .val (.mv (.tmp 21))⟩,
 ⟨some 151, none, .val (.bin .lss T.int (.tmp 149) (.tmp 150))⟩] [149, 150])
 (.cond (.tmp 151)
  .skip
 (.exit 8)))
 (.block 9 (.seq (.region [
 ⟨some 152, none, .val (.mv (.tmp 20))⟩,
 ⟨some 153, none, .val (.mv (.tmp 21))⟩,
 ⟨some 154, none, .val (.bin .add T.int (.tmp 152) (.tmp 153))⟩,
 ⟨some 155, none, .val (.toInt .u64 (.tmp 154))⟩,
 ⟨some 156, none, .val (.bin .shr T.uint (.tmp 155) (.const (.val (.int .u64 1))))⟩,
 ⟨some 157, none, .val (.toInt .i64 (.tmp 156))⟩,
 ⟨some 23, none, .val (.mv (.tmp 157))⟩] [152, 153, 154, 155, 156, 157])
 (.seq (.draw true [
 (.early, ⟨some 158, none, .val (.mv (.tmp 4))⟩),
 (.early, ⟨some 159, none, .val (.mv (.tmp 0))⟩),
 (.early, ⟨some 160, none, .val (.mv (.tmp 22))⟩),
 (.early, ⟨some 161, none, .val (.mv (.tmp 23))⟩),
 (.early, ⟨some 162, none, .val (.bin .sub T.int (.tmp 160) (.tmp 161))⟩),
 (.early, ⟨some 163, none, .val (.indexAddr 7 (.tmp 159) (.tmp 162))⟩),
 (.early, ⟨some 164, none, .val (.load 7 true (.tmp 163))⟩),
 (.early, ⟨some 165, none, .val (.mv (.tmp 0))⟩),
 (.early, ⟨some 166, none, .val (.mv (.tmp 23))⟩),
 (.early, ⟨some 167, none, .val (.indexAddr 7 (.tmp 165) (.tmp 166))⟩),
 (.early, ⟨some 168, none, .val (.load 7 true (.tmp 167))⟩),
 (.hard, ⟨some 169, none, .call (.tmp 158) [(.tmp 164), (.tmp 168)]⟩),
 (.late, ⟨some 170, none, .val (.bin .lss T.int (.tmp 169) (.const (.int 0)))⟩),
 (.late, ⟨some 171, none, .val (.un .not (.tmp 170))⟩)] [158, 159, 160, 161, 162, 163, 164, 165, 166, 167, 168, 169, 170])
 (.cond (.tmp 171)
 (.region [
 ⟨some 172, none, .val (.mv (.tmp 23))⟩,
 ⟨some 173, none, .val (.bin .add T.int (.tmp 172) (.const (.int 1)))⟩,
 ⟨some 20, none, .val (.mv (.tmp 173))⟩] [172, 173])
 (.region [
 ⟨some 174, none, .val (.mv (.tmp 23))⟩,
 ⟨some 21, none, .val (.mv (.tmp 174))⟩] [174]))))))))
 (.seq (.region [
 ⟨some 175, none, .val (.mv (.tmp 19))⟩,
 ⟨some 176, none, .val (.mv (.tmp 20))⟩,
 ⟨some 177, none, .val (.bin .sub T.int (.tmp 175) (.tmp 176))⟩,
 ⟨some 24, none, .val (.mv (.tmp 177))⟩] [175, 176, 177])
 (.seq (.seq (.region [
 ⟨some 178, none, .val (.mv (.tmp 20))⟩,
 ⟨some 179, none, .val (.mv (.tmp 2))⟩,
 ⟨some 180, none, .val (.bin .lss T.int (.tmp 178) (.tmp 179))⟩,
 ⟨some 181, none, .val (.mv (.tmp 180))⟩,
 ⟨some 182, some (181, true), .val (.mv (.tmp 2))⟩,
 ⟨some 183, some (181, true), .val (.mv (.tmp 24))⟩,
 ⟨some 184, some (181, true), .val (.bin .lss T.int (.tmp 182) (.tmp 183))⟩,
 ⟨some 185, none, .val (.pick (.tmp 181) (.tmp 184) (.const (.bool false)))⟩] [178, 179, 180, 181, 182, 183, 184])
 (.cond (.tmp 185)
 (.region [
 ⟨some 186, none, .val (.mv (.tmp 0))⟩,
 ⟨some 187, none, .val (.mv (.tmp 20))⟩,
 ⟨some 188, none, .val (.mv (.tmp 2))⟩,
 ⟨some 189, none, .val (.mv (.tmp 24))⟩,
 ⟨some 190, none, .val (.mv (.tmp 4))⟩,
 ⟨some 191, none, .call (.const (.func (.func F.slices_rotateCmpFunc__apiRecord) [] [])) [(.tmp 186), (.tmp 187), (.tmp 188), (.tmp 189), (.tmp 190)]⟩] [186, 187, 188, 189, 190, 191])
  .skip))
 (.seq (.seq (.region [
 ⟨some 192, none, .val (.mv (.tmp 1))⟩,
 ⟨some 193, none, .val (.mv (.tmp 20))⟩,
 ⟨some 194, none, .val (.bin .lss T.int (.tmp 192) (.tmp 193))⟩,
 ⟨some 195, none, .val (.mv (.tmp 194))⟩,
 ⟨some 196, some (195, true), .val (.mv (.tmp 20))⟩,
 ⟨some 197, some (195, true), .val (.mv (.tmp 18))⟩,
 ⟨some 198, some (195, true), .val (.bin .lss T.int (.tmp 196) (.tmp 197))⟩,
 ⟨some 199, none, .val (.pick (.tmp 195) (.tmp 198) (.const (.bool false)))⟩] [192, 193, 194, 195, 196, 197, 198])
 (.cond (.tmp 199)
 (.region [
 ⟨some 200, none, .val (.mv (.tmp 0))⟩,
 ⟨some 201, none, .val (.mv (.tmp 1))⟩,
 ⟨some 202, none, .val (.mv (.tmp 20))⟩,
 ⟨some 203, none, .val (.mv (.tmp 18))⟩,
 ⟨some 204, none, .val (.mv (.tmp 4))⟩,
 ⟨some 205, none, .call (.const (.func (.func F.slices_symMergeCmpFunc__apiRecord) [] [])) [(.tmp 200), (.tmp 201), (.tmp 202), (.tmp 203), (.tmp 204)]⟩] [200, 201, 202, 203, 204, 205])
  .skip))
 (.seq (.region [
 ⟨some 206, none, .val (.mv (.tmp 18))⟩,
 ⟨some 207, none, .val (.mv (.tmp 24))⟩,
 ⟨some 208, none, .val (.bin .lss T.int (.tmp 206) (.tmp 207))⟩,
 ⟨some 209, none, .val (.mv (.tmp 208))⟩,
 ⟨some 210, some (209, true), .val (.mv (.tmp 24))⟩,
 ⟨some 211, some (209, true), .val (.mv (.tmp 3))⟩,
 ⟨some 212, some (209, true), .val (.bin .lss T.int (.tmp 210) (.tmp 211))⟩,
 ⟨some 213, none, .val (.pick (.tmp 209) (.tmp 212) (.const (.bool false)))⟩] [206, 207, 208, 209, 210, 211, 212])
 (.cond (.tmp 213)
 (.region [
 ⟨some 214, none, .val (.mv (.tmp 0))⟩,
 ⟨some 215, none, .val (.mv (.tmp 18))⟩,
 ⟨some 216, none, .val (.mv (.tmp 24))⟩,
 ⟨some 217, none, .val (.mv (.tmp 3))⟩,
 ⟨some 218, none, .val (.mv (.tmp 4))⟩,
 ⟨some 219, none, .call (.const (.func (.func F.slices_symMergeCmpFunc__apiRecord) [] [])) [(.tmp 214), (.tmp 215), (.tmp 216), (.tmp 217), (.tmp 218)]⟩] [214, 215, 216, 217, 218, 219])
  .skip)))))))))))))⟩
theorem H.slices_symMergeCmpFunc__apiRecord : Has P F.slices_symMergeCmpFunc__apiRecord C.slices_symMergeCmpFunc__apiRecord := ⟨Try.f81, Try.func81, by kernel_rfl, by kernel_rfl⟩

/-- podium/podiumref09.Mul -/
noncomputable def C.podiumref09_Mul : MFunc := ⟨27, 2, [.cell 4 2 true, .tmp 5],
 (.seq (.region [
 ⟨some 2, none, .box T.apiBig (.tmp 0)⟩,
 ⟨some 3, none, .box T.apiBig (.tmp 1)⟩,
 ⟨some 4, none, .alloc T.apiBig [(.bool false), .nil]⟩,
 ⟨some 5, none, .val (.mv (.const (.int 0)))⟩] [])
 (.seq (.region [
 ⟨some 7, none, .val (.load 2 true (.tmp 2))⟩,
 ⟨some 8, none, .val (.load 2 true (.tmp 3))⟩,
 ⟨some 9, none, .call (.const (.func (.func F.podiumref09_two) [] [])) [(.tmp 7), (.tmp 8)]⟩,
 ⟨some 6, none, .val (.mv (.tmp 9))⟩] [7, 8, 9])
 (.seq (.seq (.region [
 ⟨some 10, none, .val (.mv (.tmp 6))⟩,
 ⟨some 11, none, .val (.bin .neq T.apiErrno (.tmp 10) (.const (.int 0)))⟩] [10])
 (.cond (.tmp 11)
 (.seq (.region [
 ⟨some 12, none, .val (.build [(.bool false), .nil] [])⟩,
 ⟨some 13, none, .val (.mv (.tmp 6))⟩,
 ⟨none, none, .store 2 (.tmp 4) (.tmp 12)⟩,
 ⟨some 5, none, .val (.mv (.tmp 13))⟩] [12, 13])
  .ret)
  .skip))
 (.seq (.draw true [
 (.late, ⟨some 14, none, .val (.fieldAddr 0 (.tmp 2))⟩),
 (.late, ⟨some 15, none, .val (.load 1 false (.tmp 14))⟩),
 (.late, ⟨some 16, none, .val (.fieldAddr 0 (.tmp 3))⟩),
 (.late, ⟨some 17, none, .val (.load 1 false (.tmp 16))⟩),
 (.late, ⟨some 18, none, .val (.eqBool true (.tmp 15) (.tmp 17))⟩),
 (.early, ⟨some 19, none, .val (.fieldAddr 1 (.tmp 2))⟩),
 (.early, ⟨some 20, none, .val (.load 1 false (.tmp 19))⟩),
 (.early, ⟨some 21, none, .val (.fieldAddr 1 (.tmp 3))⟩),
 (.early, ⟨some 22, none, .val (.load 1 false (.tmp 21))⟩),
 (.hard, ⟨some 23, none, .call (.const (.func (.func F.podiumref09_times) [] [])) [(.tmp 20), (.tmp 22)]⟩),
 (.hard, ⟨some 24, none, .call (.const (.func (.func F.podiumref09_of) [] [])) [(.tmp 18), (.tmp 23)]⟩),
 (.late, ⟨some 25, none, .val (.extract 0 (.tmp 24))⟩),
 (.late, ⟨some 26, none, .val (.extract 1 (.tmp 24))⟩),
 (.last, ⟨none, none, .store 2 (.tmp 4) (.tmp 25)⟩),
 (.late, ⟨some 5, none, .val (.mv (.tmp 26))⟩)] [14, 15, 16, 17, 18, 19, 20, 21, 22, 23, 24, 25, 26])
  .ret))))⟩
theorem H.podiumref09_Mul : Has P F.podiumref09_Mul C.podiumref09_Mul := ⟨Try.f82, Try.func82, by kernel_rfl, by kernel_rfl⟩

/-- podium/podiumref09.two -/
noncomputable def C.podiumref09_two : MFunc := ⟨10, 2, [.tmp 4],
 (.seq (.region [
 ⟨some 2, none, .box T.apiBig (.tmp 0)⟩,
 ⟨some 3, none, .box T.apiBig (.tmp 1)⟩,
 ⟨some 4, none, .val (.mv (.const (.int 0)))⟩] [])
 (.seq (.seq (.region [
 ⟨some 5, none, .val (.load 2 true (.tmp 2))⟩,
 ⟨some 6, none, .call (.const (.func (.func F.podiumref09_Check) [] [])) [(.tmp 5)]⟩,
 ⟨some 7, none, .val (.bin .neq T.apiErrno (.tmp 6) (.const (.int 0)))⟩] [5, 6])
 (.cond (.tmp 7)
 (.seq (.region [
 ⟨some 4, none, .val (.mv (.const (.int 90)))⟩] [])
  .ret)
  .skip))
 (.seq (.region [
 ⟨some 8, none, .val (.load 2 true (.tmp 3))⟩,
 ⟨some 9, none, .call (.const (.func (.func F.podiumref09_Check) [] [])) [(.tmp 8)]⟩,
 ⟨some 4, none, .val (.mv (.tmp 9))⟩] [8, 9])
  .ret)))⟩
theorem H.podiumref09_two : Has P F.podiumref09_two C.podiumref09_two := ⟨Try.f83, Try.func83, by kernel_rfl, by kernel_rfl⟩

/-- podium/podiumref09.cmp -/
noncomputable def C.podiumref09_cmp : MFunc := ⟨41, 2, [.tmp 4],
 (.seq (.region [
 ⟨some 4, none, .val (.mv (.const (.int 0)))⟩] [])
 (.seq (.seq (.region [
 ⟨some 6, none, .val (.mv (.tmp 0))⟩,
 ⟨some 7, none, .val (.len (.tmp 6))⟩,
 ⟨some 8, none, .val (.mv (.tmp 1))⟩,
 ⟨some 9, none, .val (.len (.tmp 8))⟩,
 ⟨some 10, none, .val (.bin .neq T.int (.tmp 7) (.tmp 9))⟩] [6, 7, 8, 9])
 (.cond (.tmp 10)
 (.seq (.seq (.region [
 ⟨some 11, none, .val (.mv (.tmp 0))⟩,
 ⟨some 12, none, .val (.len (.tmp 11))⟩,
 ⟨some 13, none, .val (.mv (.tmp 1))⟩,
 ⟨some 14, none, .val (.len (.tmp 13))⟩,
 ⟨some 15, none, .val (.bin .lss T.int (.tmp 12) (.tmp 14))⟩] [11, 12, 13, 14])
 (.cond (.tmp 15)
 (.seq (.region [
 ⟨some 4, none, .val (.mv (.const (.int (-1))))⟩] [])
  .ret)
  .skip))
 (.seq (.region [
 ⟨some 4, none, .val (.mv (.const (.int 1)))⟩] [])
  .ret))
  .skip))
 (.seq (.seq (.region [
 ⟨some 16, none, .val (.mv (.tmp 0))⟩,
 ⟨some 17, none, .val (.len (.tmp 16))⟩,
 ⟨some 18, none, .val (.bin .sub T.int (.tmp 17) (.const (.int 1)))⟩,
 ⟨some 5, none, .val (.mv (.tmp 18))⟩] [16, 17, 18])
 (.block 0 (.loop (.seq (.seq (.region [
 ⟨some 19, none, .val (.mv (.tmp 5))⟩,
 ⟨some 20, none, .val (.bin .geq T.int (.tmp 19) (.const (.int 0)))⟩] [19])
 (.cond (.tmp 20)
  .skip
 (.exit 0)))
 (.seq (.block 1 (.seq (.seq (.draw false [
 (.early, ⟨some 23, none, .val (.mv (.tmp 0))⟩),
 (.early, ⟨some 24, none, .val (.mv (.tmp 5))⟩),
 (.early, ⟨some 25, none, .val (.indexAddr 1 (.tmp 23) (.tmp 24))⟩),
 (.early, ⟨some 26, none, .val (.load 1 false (.tmp 25))⟩),
 (.early, ⟨some 27, none, .val (.mv (.tmp 1))⟩),
 (.early, ⟨some 28, none, .val (.mv (.tmp 5))⟩),
 (.early, ⟨some 29, none, .val (.indexAddr 1 (.tmp 27) (.tmp 28))⟩),
 (.early, ⟨some 30, none, .val (.load 1 false (.tmp 29))⟩),
 (.early, ⟨some 31, none, .val (.bin .lss T.int (.tmp 26) (.tmp 30))⟩)] [23, 24, 25, 26, 27, 28, 29, 30])
 (.cond (.tmp 31)
 (.seq (.region [
 ⟨some 4, none, .val (.mv (.const (.int (-1))))⟩] [])
  .ret)
  .skip))
 (.seq (.draw false [
 (.early, ⟨some 32, none, .val (.mv (.tmp 0))⟩),
 (.early, ⟨some 33, none, .val (.mv (.tmp 5))⟩),
 (.early, ⟨some 34, none, .val (.indexAddr 1 (.tmp 32) (.tmp 33))⟩),
 (.early, ⟨some 35, none, .val (.load 1 false (.tmp 34))⟩),
 (.early, ⟨some 36, none, .val (.mv (.tmp 1))⟩),
 (.early, ⟨some 37, none, .val (.mv (.tmp 5))⟩),
 (.early, ⟨some 38, none, .val (.indexAddr 1 (.tmp 36) (.tmp 37))⟩),
 (.early, ⟨some 39, none, .val (.load 1 false (.tmp 38))⟩),
 (.early, ⟨some 40, none, .val (.bin .gtr T.int (.tmp 35) (.tmp 39))⟩)] [32, 33, 34, 35, 36, 37, 38, 39])
 (.cond (.tmp 40)
 (.seq (.region [
 ⟨some 4, none, .val (.mv (.const (.int 1)))⟩] [])
  .ret)
  .skip))))
 (.region [
 ⟨some 21, none, .val (.mv (.tmp 5))⟩,
 ⟨some 22, none, .val (.bin .sub T.int (.tmp 21) (.const (.int 1)))⟩,
 ⟨some 5, none, .val (.mv (.tmp 22))⟩] [21, 22]))))))
 (.seq (.region [
 ⟨some 4, none, .val (.mv (.const (.int 0)))⟩] [])
  .ret))))⟩
theorem H.podiumref09_cmp : Has P F.podiumref09_cmp C.podiumref09_cmp := ⟨Try.f84, Try.func84, by kernel_rfl, by kernel_rfl⟩

/-- podium/podiumref09.divide -/
noncomputable def C.podiumref09_divide : MFunc := ⟨78, 2, [.tmp 4, .tmp 5],
 (.seq (.region [
 ⟨some 4, none, .val (.mv (.const .nil))⟩,
 ⟨some 5, none, .val (.mv (.const .nil))⟩] [])
 (.seq (.region [
 ⟨some 13, none, .val (.mv (.tmp 0))⟩,
 ⟨some 14, none, .val (.len (.tmp 13))⟩,
 ⟨some 15, none, .mkSlice T.int 8 1 [(.int 0)] (.tmp 14) (.tmp 14)⟩,
 ⟨some 6, none, .val (.mv (.tmp 15))⟩] [13, 14, 15])
 (.seq (.region [
 ⟨some 16, none, .val (.mv (.tmp 0))⟩,
 ⟨some 17, none, .val (.len (.tmp 16))⟩,
 ⟨some 18, none, .val (.mv (.tmp 1))⟩,
 ⟨some 19, none, .val (.len (.tmp 18))⟩,
 ⟨some 20, none, .val (.bin .sub T.int (.tmp 17) (.tmp 19))⟩,
 ⟨some 21, none, .val (.bin .add T.int (.tmp 20) (.const (.int 1)))⟩,
 ⟨some 22, none, .val (.minmax true [(.const (.int 0)), (.tmp 21)])⟩,
 ⟨some 7, none, .val (.mv (.tmp 22))⟩] [16, 17, 18, 19, 20, 21, 22])
 (.seq (.region [
 ⟨some 23, none, .val (.buildSlice T.int 0 [] [])⟩,
 ⟨some 24, none, .val (.mv (.tmp 0))⟩,
 ⟨some 25, none, .val (.mv (.tmp 7))⟩,
 ⟨some 26, none, .val (.slice 1 (.tmp 24) (some (.tmp 25)) none none)⟩,
 ⟨some 27, none, .append T.int 8 1 (.tmp 23) (.tmp 26)⟩,
 ⟨some 28, none, .call (.const (.func (.func F.podiumref09_trim) [] [])) [(.tmp 27)]⟩,
 ⟨some 8, none, .val (.mv (.tmp 28))⟩] [23, 24, 25, 26, 27, 28])
 (.seq (.seq (.region [
 ⟨some 29, none, .val (.mv (.tmp 7))⟩,
 ⟨some 30, none, .val (.bin .sub T.int (.tmp 29) (.const (.int 1)))⟩,
 ⟨some 9, none, .val (.mv (.tmp 30))⟩] [29, 30])
 (.block 0 (.loop (.seq (.seq (.region [
 ⟨some 31, none, .val (.mv (.tmp 9))⟩,
 ⟨some 32, none, .val (.bin .geq T.int (.tmp 31) (.const (.int 0)))⟩] [31])
 (.cond (.tmp 32)
  .skip
 (.exit 0)))
 (.seq (.block 1 (.seq (.region [
 ⟨some 35, none, .val (.mv (.tmp 0))⟩,
 ⟨some 36, none, .val (.mv (.tmp 9))⟩,
 ⟨some 37, none, .val (.indexAddr 1 (.tmp 35) (.tmp 36))⟩,
 ⟨some 38, none, .val (.load 1 false (.tmp 37))⟩,
 ⟨some 39, none, .val (.buildSlice T.int 1 [(.int 0)] [(0, 1, (.tmp 38))])⟩,
 ⟨some 40, none, .val (.mv (.tmp 8))⟩,
 ⟨some 41, none, .append T.int 8 1 (.tmp 39) (.tmp 40)⟩,
 ⟨some 42, none, .call (.const (.func (.func F.podiumref09_trim) [] [])) [(.tmp 41)]⟩,
 ⟨some 8, none, .val (.mv (.tmp 42))⟩] [35, 36, 37, 38, 39, 40, 41, 42])
 (.seq (.seq (.region [
 ⟨some 43, none, .val (.mv (.tmp 8))⟩,
 ⟨some 44, none, .val (.mv (.tmp 1))⟩,
 ⟨some 45, none, .call (.const (.func (.func F.podiumref09_cmp) [] [])) [(.tmp 43), (.tmp 44)]⟩,
 ⟨some 46, none, .val (.bin .lss T.int (.tmp 45) (.const (.int 0)))⟩] [43, 44, 45])
 (.cond (.tmp 46)
 (.exit 1)
  .skip))
 (.seq (.region [
 ⟨some 10, none, .val (.mv (.const (.int 0)))⟩] [])
 (.seq (.region [
 ⟨some 11, none, .val (.mv (.const (.int 1073741823)))⟩] [])
 (.seq (.block 2 (.loop (.seq (.seq (.region [
 ⟨some 47, none, .val (.mv (.tmp 10))⟩,
 ⟨some 48, none, .val (.mv (.tmp 11))⟩,
 ⟨some 49, none, .val (.bin .lss T.int (.tmp 47) (.tmp 48))⟩] [47, 48])
 (.cond (.tmp 49)
  .skip
 (.exit 2)))
 (.block 3 (.seq (.region [
 ⟨some 50, none, .val (.mv (.tmp 10))⟩,
 ⟨some 51, none, .val (.mv (.tmp 11))⟩,
 ⟨some 52, none, .val (.bin .add T.int (.tmp 50) (.tmp 51))⟩,
 ⟨some 53, none, .val (.bin .add T.int (.tmp 52) (.const (.int 1)))⟩,
 ⟨some 54, none, .val (.bin .quo T.int (.tmp 53) (.const (.int 2)))⟩,
 ⟨some 12, none, .val (.mv (.tmp 54))⟩] [50, 51, 52, 53, 54])
 (.seq (.region [
 ⟨some 55, none, .val (.mv (.tmp 12))⟩,
 ⟨some 56, none, .val (.buildSlice T.int 1 [(.int 0)] [(0, 1, (.tmp 55))])⟩,
 ⟨some 57, none, .val (.mv (.tmp 1))⟩,
 ⟨some 58, none, .call (.const (.func (.func F.podiumref09_times) [] [])) [(.tmp 56), (.tmp 57)]⟩,
 ⟨some 59, none, .val (.mv (.tmp 8))⟩,
 ⟨some 60, none, .call (.const (.func (.func F.podiumref09_cmp) [] [])) [(.tmp 58), (.tmp 59)]⟩,
 ⟨some 61, none, .val (.bin .leq T.int (.tmp 60) (.const (.int 0)))⟩] [55, 56, 57, 58, 59, 60])
 (.cond (.tmp 61)
 (.region [
 ⟨some 62, none, .val (.mv (.tmp 12))⟩,
 ⟨some 10, none, .val (.mv (.tmp 62))⟩] [62])
 (.region [
 ⟨some 63, none, .val (.mv (.tmp 12))⟩,
 ⟨some 64, none, .val (.bin .sub T.int (.tmp 63) (.const (.int 1)))⟩,
 ⟨some 11, none, .val (.mv (.tmp 64))⟩] [63, 64]))))))))
 (.seq (.region [
 ⟨some 65, none, .val (.mv (.tmp 6))⟩,
 ⟨some 66, none, .val (.mv (.tmp 9))⟩,
 ⟨some 67, none, .val (.mv (.tmp 10))⟩,
 ⟨some 68, none, .val (.indexAddr 1 (.tmp 65) (.tmp 66))⟩,
 ⟨none, none, .store 1 (.tmp 68) (.tmp 67)⟩] [65, 66, 67, 68])
 (.region [
 ⟨some 69, none, .val (.mv (.tmp 8))⟩,
 ⟨some 70, none, .val (.mv (.tmp 10))⟩,
 ⟨some 71, none, .val (.buildSlice T.int 1 [(.int 0)] [(0, 1, (.tmp 70))])⟩,
 ⟨some 72, none, .val (.mv (.tmp 1))⟩,
 ⟨some 73, none, .call (.const (.func (.func F.podiumref09_times) [] [])) [(.tmp 71), (.tmp 72)]⟩,
 ⟨some 74, none, .call (.const (.func (.func F.podiumref09_less) [] [])) [(.tmp 69), (.tmp 73)]⟩,
 ⟨some 8, none, .val (.mv (.tmp 74))⟩] [69, 70, 71, 72, 73, 74]))))))))
 (.region [
 ⟨some 33, none, .val (.mv (.tmp 9))⟩,
 ⟨some 34, none, .val (.bin .sub T.int (.tmp 33) (.const (.int 1)))⟩,
 ⟨some 9, none, .val (.mv (.tmp 34))⟩] [33, 34]))))))
 (.seq (.region [
 ⟨some 75, none, .val (.mv (.tmp 6))⟩,
 ⟨some 76, none, .call (.const (.func (.func F.podiumref09_trim) [] [])) [(.tmp 75)]⟩,
 ⟨some 77, none, .val (.mv (.tmp 8))⟩,
 ⟨some 4, none, .val (.mv (.tmp 76))⟩,
 ⟨some 5, none, .val (.mv (.tmp 77))⟩] [75, 76, 77])
  .ret))))))⟩
theorem H.podiumref09_divide : Has P F.podiumref09_divide C.podiumref09_divide := ⟨Try.f85, Try.func85, by kernel_rfl, by kernel_rfl⟩

/-- podium/podiumref09.of -/
noncomputable def C.podiumref09_of : MFunc := ⟨20, 2, [.cell 4 2 true, .tmp 5],
 (.seq (.region [
 ⟨some 4, none, .alloc T.apiBig [(.bool false), .nil]⟩,
 ⟨some 5, none, .val (.mv (.const (.int 0)))⟩] [])
 (.seq (.region [
 ⟨some 6, none, .val (.mv (.tmp 1))⟩,
 ⟨some 7, none, .call (.const (.func (.func F.podiumref09_trim) [] [])) [(.tmp 6)]⟩,
 ⟨some 1, none, .val (.mv (.tmp 7))⟩] [6, 7])
 (.seq (.seq (.region [
 ⟨some 8, none, .val (.mv (.tmp 1))⟩,
 ⟨some 9, none, .val (.len (.tmp 8))⟩,
 ⟨some 10, none, .val (.bin .gtr T.int (.tmp 9) (.const (.int 2048)))⟩] [8, 9])
 (.cond (.tmp 10)
 (.seq (.region [
 ⟨some 11, none, .val (.build [(.bool false), .nil] [])⟩,
 ⟨none, none, .store 2 (.tmp 4) (.tmp 11)⟩,
 ⟨some 5, none, .val (.mv (.const (.int 2)))⟩] [11])
  .ret)
  .skip))
 (.seq (.region [
 ⟨some 12, none, .val (.mv (.tmp 0))⟩,
 ⟨some 13, none, .val (.mv (.tmp 12))⟩,
 ⟨some 14, some (13, true), .val (.mv (.tmp 1))⟩,
 ⟨some 15, some (13, true), .val (.len (.tmp 14))⟩,
 ⟨some 16, some (13, true), .val (.bin .gtr T.int (.tmp 15) (.const (.int 0)))⟩,
 ⟨some 17, none, .val (.pick (.tmp 13) (.tmp 16) (.const (.bool false)))⟩,
 ⟨some 18, none, .val (.mv (.tmp 1))⟩,
 ⟨some 19, none, .val (.build [(.bool false), .nil] [(0, 1, (.tmp 17)), (1, 1, (.tmp 18))])⟩,
 ⟨none, none, .store 2 (.tmp 4) (.tmp 19)⟩,
 ⟨some 5, none, .val (.mv (.const (.int 0)))⟩] [12, 13, 14, 15, 16, 17, 18, 19])
  .ret))))⟩
theorem H.podiumref09_of : Has P F.podiumref09_of C.podiumref09_of := ⟨Try.f86, Try.func86, by kernel_rfl, by kernel_rfl⟩

/-- podium/nat.big -/
noncomputable def C.nat_big : MFunc := ⟨19, 2, [.cell 4 2 true],
 (.seq (.region [
 ⟨some 4, none, .alloc T.apiBig [(.bool false), .nil]⟩] [])
 (.seq (.region [
 ⟨some 5, none, .val (.mv (.tmp 1))⟩,
 ⟨some 6, none, .call (.const (.func (.func F.nat_trim) [] [])) [(.tmp 5)]⟩,
 ⟨some 1, none, .val (.mv (.tmp 6))⟩] [5, 6])
 (.seq (.seq (.region [
 ⟨some 7, none, .val (.mv (.tmp 1))⟩,
 ⟨some 8, none, .val (.len (.tmp 7))⟩,
 ⟨some 9, none, .val (.bin .gtr T.int (.tmp 8) (.const (.int 2048)))⟩] [7, 8])
 (.cond (.tmp 9)
 (.region [
 ⟨some 10, none, .val (.mkIface T.apiErrno (.const (.int 2)))⟩,
 ⟨none, none, .panic (.tmp 10)⟩] [10])
  .skip))
 (.seq (.region [
 ⟨some 11, none, .val (.mv (.tmp 0))⟩,
 ⟨some 12, none, .val (.mv (.tmp 11))⟩,
 ⟨some 13, some (12, true), .val (.mv (.tmp 1))⟩,
 ⟨some 14, some (12, true), .val (.len (.tmp 13))⟩,
 ⟨some 15, some (12, true), .val (.bin .gtr T.int (.tmp 14) (.const (.int 0)))⟩,
 ⟨some 16, none, .val (.pick (.tmp 12) (.tmp 15) (.const (.bool false)))⟩,
 ⟨some 17, none, .val (.mv (.tmp 1))⟩,
 ⟨some 18, none, .val (.build [(.bool false), .nil] [(0, 1, (.tmp 16)), (1, 1, (.tmp 17))])⟩,
 ⟨none, none, .store 2 (.tmp 4) (.tmp 18)⟩] [11, 12, 13, 14, 15, 16, 17, 18])
  .ret))))⟩
theorem H.nat_big : Has P F.nat_big C.nat_big := ⟨Try.f87, Try.func87, by kernel_rfl, by kernel_rfl⟩

/-- podium/nat.mul -/
noncomputable def C.nat_mul : MFunc := ⟨66, 2, [.tmp 4],
 (.seq (.region [
 ⟨some 4, none, .val (.mv (.const .nil))⟩] [])
 (.seq (.region [
 ⟨some 12, none, .val (.mv (.tmp 0))⟩,
 ⟨some 13, none, .val (.len (.tmp 12))⟩,
 ⟨some 14, none, .val (.mv (.tmp 1))⟩,
 ⟨some 15, none, .val (.len (.tmp 14))⟩,
 ⟨some 16, none, .val (.bin .add T.int (.tmp 13) (.tmp 15))⟩,
 ⟨some 17, none, .mkSlice T.int 8 1 [(.int 0)] (.tmp 16) (.tmp 16)⟩,
 ⟨some 5, none, .val (.mv (.tmp 17))⟩] [12, 13, 14, 15, 16, 17])
 (.seq .skip
 (.seq (.seq (.region [
 ⟨some 18, none, .val (.mv (.tmp 0))⟩,
 ⟨some 19, none, .val (.len (.tmp 18))⟩,
 ⟨some 20, none, .val (.mv (.const (.int 0)))⟩] [])
 (.block 0 (.loop (.seq (.region [
 ⟨some 21, none, .val (.bin .lss T.int (.tmp 20) (.tmp 19))⟩] [])
 (.seq (.cond (.tmp 21)
  .skip
 (.exit 0))
 (.seq (.block 1 (.seq (.region [
 ⟨some 22, none, .val (.mv (.tmp 20))⟩,
 ⟨some 23, none, .val (.indexAddr 1 (.tmp 18) (.tmp 20))⟩,
 ⟨some 24, none, .val (.load 1 false (.tmp 23))⟩,
 ⟨some 6, none, .val (.mv (.tmp 22))⟩,
 ⟨some 7, none, .val (.mv (.tmp 24))⟩] [22, 23, 24])
 (.seq (.seq (.region [
 ⟨some 25, none, .val (.mv (.tmp 7))⟩,
 ⟨some 26, none, .val (.bin .eql T.int (.tmp 25) (.const (.int 0)))⟩] [25])
 (.cond (.tmp 26)
 (.exit 1)
  .skip))
 (.seq (.region [
 ⟨some 8, none, .val (.mv (.const (.int 0)))⟩] [])
 (.seq (.seq (.region [
 ⟨some 27, none, .val (.mv (.tmp 1))⟩,
 ⟨some 28, none, .val (.len (.tmp 27))⟩,
 ⟨some 29, none, .val (.mv (.const (.int 0)))⟩] [])
 (.block 2 (.loop (.seq (.region [
 ⟨some 30, none, .val (.bin .lss T.int (.tmp 29) (.tmp 28))⟩] [])
 (.seq (.cond (.tmp 30)
  .skip
 (.exit 2))
 (.seq (.block 3 (.seq (.region [
 ⟨some 31, none, .val (.mv (.tmp 29))⟩,
 ⟨some 32, none, .val (.indexAddr 1 (.tmp 27) (.tmp 29))⟩,
 ⟨some 33, none, .val (.load 1 false (.tmp 32))⟩,
 ⟨some 9, none, .val (.mv (.tmp 31))⟩,
 ⟨some 10, none, .val (.mv (.tmp 33))⟩] [31, 32, 33])
 (.seq (.region [
 ⟨some 34, none, .val (.mv (.tmp 5))⟩,
 ⟨some 35, none, .val (.mv (.tmp 6))⟩,
 ⟨some 36, none, .val (.mv (.tmp 9))⟩,
 ⟨some 37, none, .val (.bin .add T.int (.tmp 35) (.tmp 36))⟩,
 ⟨some 38, none, .val (.indexAddr 1 (.tmp 34) (.tmp 37))⟩,
 ⟨some 39, none, .val (.load 1 false (.tmp 38))⟩,
 ⟨some 40, none, .val (.mv (.tmp 7))⟩,
 ⟨some 41, none, .val (.mv (.tmp 10))⟩,
 ⟨some 42, none, .val (.bin .mul T.int (.tmp 40) (.tmp 41))⟩,
 ⟨some 43, none, .val (.bin .add T.int (.tmp 39) (.tmp 42))⟩,
 ⟨some 44, none, .val (.mv (.tmp 8))⟩,
 ⟨some 45, none, .val (.bin .add T.int (.tmp 43) (.tmp 44))⟩,
 ⟨some 11, none, .val (.mv (.tmp 45))⟩] [34, 35, 36, 37, 38, 39, 40, 41, 42, 43, 44, 45])
 (.region [
 ⟨some 46, none, .val (.mv (.tmp 5))⟩,
 ⟨some 47, none, .val (.mv (.tmp 6))⟩,
 ⟨some 48, none, .val (.mv (.tmp 9))⟩,
 ⟨some 49, none, .val (.bin .add T.int (.tmp 47) (.tmp 48))⟩,
 ⟨some 50, none, .val (.mv (.tmp 11))⟩,
 ⟨some 51, none, .val (.bin .and T.int (.tmp 50) (.const (.int 1073741823)))⟩,
 ⟨some 52, none, .val (.mv (.tmp 11))⟩,
 ⟨some 53, none, .val (.bin .shr T.int (.tmp 52) (.const (.val (.int .u64 30))))⟩,
 ⟨some 54, none, .val (.indexAddr 1 (.tmp 46) (.tmp 49))⟩,
 ⟨none, none, .store 1 (.tmp 54) (.tmp 51)⟩,
 ⟨some 8, none, .val (.mv (.tmp 53))⟩] [46, 47, 48, 49, 50, 51, 52, 53, 54]))))
 (.region [
 ⟨some 55, none, .val (.bin .add T.int (.tmp 29) (.const (.int 1)))⟩,
 ⟨some 29, none, .val (.mv (.tmp 55))⟩] [55])))))))
 (.region [
 ⟨some 56, none, .val (.mv (.tmp 5))⟩,
 ⟨some 57, none, .val (.mv (.tmp 6))⟩,
 ⟨some 58, none, .val (.mv (.tmp 1))⟩,
 ⟨some 59, none, .val (.len (.tmp 58))⟩,
 ⟨some 60, none, .val (.bin .add T.int (.tmp 57) (.tmp 59))⟩,
 ⟨some 61, none, .val (.mv (.tmp 8))⟩,
 ⟨some 62, none, .val (.indexAddr 1 (.tmp 56) (.tmp 60))⟩,
 ⟨none, none, .store 1 (.tmp 62) (.tmp 61)⟩] [56, 57, 58, 59, 60, 61, 62]))))))
 (.region [
 ⟨some 63, none, .val (.bin .add T.int (.tmp 20) (.const (.int 1)))⟩,
 ⟨some 20, none, .val (.mv (.tmp 63))⟩] [63])))))))
 (.seq (.region [
 ⟨some 64, none, .val (.mv (.tmp 5))⟩,
 ⟨some 65, none, .call (.const (.func (.func F.nat_trim) [] [])) [(.tmp 64)]⟩,
 ⟨some 4, none, .val (.mv (.tmp 65))⟩] [64, 65])
  .ret)))))⟩
theorem H.nat_mul : Has P F.nat_mul C.nat_mul := ⟨Try.f88, Try.func88, by kernel_rfl, by kernel_rfl⟩

/-- podium/nat.down -/
noncomputable def C.nat_down : MFunc := ⟨5, 1, [.tmp 2],
 (.seq (.region [
 ⟨some 2, none, .val (.mv (.const (.val .nilFunc)))⟩] [])
 (.seq (.region [
 ⟨some 3, none, .val (.mv (.tmp 0))⟩,
 ⟨some 4, none, .call (.const (.func (.func F.slices_Backward__natdigits_int) [] [])) [(.tmp 3)]⟩,
 ⟨some 2, none, .val (.mv (.tmp 4))⟩] [3, 4])
  .ret))⟩
theorem H.nat_down : Has P F.nat_down C.nat_down := ⟨Try.f89, Try.func89, by kernel_rfl, by kernel_rfl⟩

/-- podium/nat.Check$1 -/
noncomputable def C.nat_Check_1 : MFunc := ⟨9, 1, [.tmp 2],
 (.seq (.region [
 ⟨some 2, none, .val (.mv (.const (.bool false)))⟩] [])
 (.seq (.region [
 ⟨some 3, none, .val (.mv (.tmp 0))⟩,
 ⟨some 4, none, .val (.bin .lss T.int (.tmp 3) (.const (.int 0)))⟩,
 ⟨some 5, none, .val (.mv (.tmp 4))⟩,
 ⟨some 6, some (5, false), .val (.mv (.tmp 0))⟩,
 ⟨some 7, some (5, false), .val (.bin .gtr T.int (.tmp 6) (.const (.int 1073741823)))⟩,
 ⟨some 8, none, .val (.pick (.tmp 5) (.const (.bool true)) (.tmp 7))⟩,
 ⟨some 2, none, .val (.mv (.tmp 8))⟩] [3, 4, 5, 6, 7, 8])
  .ret))⟩
theorem H.nat_Check_1 : Has P F.nat_Check_1 C.nat_Check_1 := ⟨Try.f90, Try.func90, by kernel_rfl, by kernel_rfl⟩

/-- podium/nat.div -/
noncomputable def C.nat_div : MFunc := ⟨35, 2, [.tmp 4, .tmp 5],
 (.seq (.region [
 ⟨some 4, none, .val (.mv (.const .nil))⟩,
 ⟨some 5, none, .val (.mv (.const .nil))⟩] [])
 (.seq (.block 0 (.seq (.region [
 ⟨some 9, none, .val (.mv (.tmp 0))⟩,
 ⟨some 10, none, .val (.mv (.tmp 1))⟩,
 ⟨some 11, none, .call (.const (.func (.func F.nat_compare) [] [])) [(.tmp 9), (.tmp 10)]⟩,
 ⟨some 12, none, .val (.bin .lss T.int (.tmp 11) (.const (.int 0)))⟩,
 ⟨some 8, none, .val (.mv (.tmp 12))⟩] [9, 10, 11, 12])
 (.cond (.tmp 8)
 (.seq (.region [
 ⟨some 13, none, .val (.mv (.tmp 0))⟩,
 ⟨some 4, none, .val (.mv (.const .nil))⟩,
 ⟨some 5, none, .val (.mv (.tmp 13))⟩] [13])
  .ret)
 (.seq (.region [
 ⟨some 15, none, .val (.mv (.tmp 1))⟩,
 ⟨some 16, none, .val (.len (.tmp 15))⟩,
 ⟨some 17, none, .val (.bin .eql T.int (.tmp 16) (.const (.int 1)))⟩,
 ⟨some 14, none, .val (.mv (.tmp 17))⟩] [15, 16, 17])
 (.cond (.tmp 14)
 (.seq (.region [
 ⟨some 19, none, .val (.mv (.tmp 0))⟩,
 ⟨some 20, none, .val (.mv (.tmp 1))⟩,
 ⟨some 21, none, .val (.indexAddr 1 (.tmp 20) (.const (.int 0)))⟩,
 ⟨some 22, none, .val (.load 1 false (.tmp 21))⟩,
 ⟨some 23, none, .call (.const (.func (.func F.nat_short) [] [])) [(.tmp 19), (.tmp 22)]⟩,
 ⟨some 18, none, .val (.mv (.tmp 23))⟩,
 ⟨some 24, none, .val (.extract 0 (.tmp 18))⟩,
 ⟨some 25, none, .val (.extract 1 (.tmp 18))⟩,
 ⟨some 6, none, .val (.mv (.tmp 24))⟩,
 ⟨some 7, none, .val (.mv (.tmp 25))⟩] [19, 20, 21, 22, 23, 18, 24, 25])
 (.seq (.region [
 ⟨some 26, none, .val (.mv (.tmp 6))⟩,
 ⟨some 27, none, .val (.mv (.tmp 7))⟩,
 ⟨some 28, none, .val (.buildSlice T.int 1 [(.int 0)] [(0, 1, (.tmp 27))])⟩,
 ⟨some 29, none, .call (.const (.func (.func F.nat_trim) [] [])) [(.tmp 28)]⟩,
 ⟨some 4, none, .val (.mv (.tmp 26))⟩,
 ⟨some 5, none, .val (.mv (.tmp 29))⟩] [26, 27, 28, 29])
  .ret))
  .skip)))))
 (.seq (.region [
 ⟨some 30, none, .val (.mv (.tmp 0))⟩,
 ⟨some 31, none, .val (.mv (.tmp 1))⟩,
 ⟨some 32, none, .call (.const (.func (.func F.nat_long) [] [])) [(.tmp 30), (.tmp 31)]⟩,
 ⟨some 33, none, .val (.extract 0 (.tmp 32))⟩,
 ⟨some 34, none, .val (.extract 1 (.tmp 32))⟩,
 ⟨some 4, none, .val (.mv (.tmp 33))⟩,
 ⟨some 5, none, .val (.mv (.tmp 34))⟩] [30, 31, 32, 33, 34])
  .ret)))⟩
theorem H.nat_div : Has P F.nat_div C.nat_div := ⟨Try.f91, Try.func91, by kernel_rfl, by kernel_rfl⟩

/-- slices.rotateCmpFunc[podium/api.Record] -/
noncomputable def C.slices_rotateCmpFunc__apiRecord : MFunc := ⟨58, 5, [],
 (.seq (.region [
 ⟨some 12, none, .val (.mv (.tmp 2))⟩,
 ⟨some 13, none, .val (.mv (.tmp 1))⟩,
 ⟨some 14, none, .val (.bin .sub T.int (.tmp 12) (.tmp 13))⟩,
 ⟨some 10, none, .val (.mv (.tmp 14))⟩] [12, 13, 14])
 (.seq (.region [
 ⟨some 15, none, .val (.mv (.tmp 3))⟩,
 ⟨some 16, none, .val (.mv (.tmp 2))⟩,
 ⟨some 17, none, .val (.bin .sub T.int (.tmp 15) (.tmp 16))⟩,
 ⟨some 11, none, .val (.mv (.tmp 17))⟩] [15, 16, 17])
 (.seq (.block 0 (.loop (.seq (.seq (.region [
 ⟨some 18, none, .val (.mv (.tmp 10))⟩,
 ⟨some 19, none, .val (.mv (.tmp 11))⟩,
 ⟨some 20, none, .val (.bin .neq T.int (.tmp 18) (.tmp 19))⟩] [18, 19])
 (.cond (.tmp 20)
  .skip
 (.exit 0)))
 (.block 1 (.seq (.region [
 ⟨some 21, none, .val (.mv (.tmp 10))⟩,
 ⟨some 22, none, .val (.mv (.tmp 11))⟩,
 ⟨some 23, none, .val (.bin .gtr T.int (.tmp 21) (.tmp 22))⟩] [21, 22])
 (.cond (.tmp 23)
 (.seq (.region [
 ⟨some 24, none, .val (.mv (.tmp 0))⟩,
 ⟨some 25, none, .val (.mv (.tmp 2))⟩,
 ⟨some 26, none, .val (.mv (.tmp 10))⟩,
 ⟨some 27, none, .val (.bin .sub T.int (.tmp 25) (.tmp 26))⟩,
 ⟨some 28, none, .val (.mv (.tmp 2))⟩,
 ⟨some 29, none, .val (.mv (.tmp 11))⟩,
 ⟨some 30, none, .val (.mv (.tmp 4))⟩,
 ⟨some 31, none, .call (.const (.func (.func F.slices_swapRangeCmpFunc__apiRecord) [] [])) [(.tmp 24), (.tmp 27), (.tmp 28), (.tmp 29), (.tmp 30)]⟩] [24, 25, 26, 27, 28, 29, 30, 31])
 (.region [
 ⟨some 32, none, .val (.mv (.tmp 10))⟩,
 ⟨some 33, none, .val (.mv (.tmp 11))⟩,
 ⟨some 34, none, .val (.bin .sub T.int (.tmp 32) (.tmp 33))⟩,
 ⟨some 10, none, .val (.mv (.tmp 34))⟩] [32, 33, 34]))
 (.seq (.region [
 ⟨some 35, none, .val (.mv (.tmp 0))⟩,
 ⟨some 36, none, .val (.mv (.tmp 2))⟩,
 ⟨some 37, none, .val (.mv (.tmp 10))⟩,
 ⟨some 38, none, .val (.bin .sub T.int (.tmp 36) (.tmp 37))⟩,
 ⟨some 39, none, .val (.mv (.tmp 2))⟩,
 ⟨some 40, none, .val (.mv (.tmp 11))⟩,
 ⟨some 41, none, .val (.bin .add T.int (.tmp 39) (.tmp 40))⟩,
 ⟨some 42, none, .val (.mv (.tmp 10))⟩,
 ⟨some 43, none, .val (.bin .sub T.int (.tmp 41) (.tmp 42))⟩,
 ⟨some 44, none, .val (.mv (.tmp 10))⟩,
 ⟨some 45, none, .val (.mv (.tmp 4))⟩,
 ⟨some 46, none, .call (.const (.func (.func F.slices_swapRangeCmpFunc__apiRecord) [] [])) [(.tmp 35), (.tmp 38), (.tmp 43), (.tmp 44), (.tmp 45)]⟩] [35, 36, 37, 38, 39, 40, 41, 42, 43, 44, 45, 46])
 (.region [
 ⟨some 47, none, .val (.mv (.tmp 11))⟩,
 ⟨some 48, none, .val (.mv (.tmp 10))⟩,
 ⟨some 49, none, .val (.bin .sub T.int (.tmp 47) (.tmp 48))⟩,
 ⟨some 11, none, .val (.mv (.tmp 49))⟩] [47, 48, 49]))))))))
 (.region [
 ⟨some 50, none, .val (.mv (.tmp 0))⟩,
 ⟨some 51, none, .val (.mv (.tmp 2))⟩,
 ⟨some 52, none, .val (.mv (.tmp 10))⟩,
 ⟨some 53, none, .val (.bin .sub T.int (.tmp 51) (.tmp 52))⟩,
 ⟨some 54, none, .val (.mv (.tmp 2))⟩,
 ⟨some 55, none, .val (.mv (.tmp 10))⟩,
 ⟨some 56, none, .val (.mv (.tmp 4))⟩,
 ⟨some 57, none, .call (.const (.func (.func F.slices_swapRangeCmpFunc__apiRecord) [] [])) [(.tmp 50), (.tmp 53), (.tmp 54), (.tmp 55), (.tmp 56)]⟩] [50, 51, 52, 53, 54, 55, 56, 57]))))⟩
theorem H.slices_rotateCmpFunc__apiRecord : Has P F.slices_rotateCmpFunc__apiRecord C.slices_rotateCmpFunc__apiRecord := ⟨Try.f92, Try.func92, by kernel_rfl, by kernel_rfl⟩

/-- podium/podiumref09.times -/
noncomputable def C.podiumref09_times : MFunc := ⟨64, 2, [.tmp 4],
 (.seq (.region [
 ⟨some 4, none, .val (.mv (.const .nil))⟩] [])
 (.seq (.region [
 ⟨some 10, none, .val (.mv (.tmp 0))⟩,
 ⟨some 11, none, .val (.len (.tmp 10))⟩,
 ⟨some 12, none, .val (.mv (.tmp 1))⟩,
 ⟨some 13, none, .val (.len (.tmp 12))⟩,
 ⟨some 14, none, .val (.bin .add T.int (.tmp 11) (.tmp 13))⟩,
 ⟨some 15, none, .mkSlice T.int 8 1 [(.int 0)] (.tmp 14) (.tmp 14)⟩,
 ⟨some 5, none, .val (.mv (.tmp 15))⟩] [10, 11, 12, 13, 14, 15])
 (.seq (.seq (.region [
 ⟨some 6, none, .val (.mv (.const (.int 0)))⟩] [])
 (.block 0 (.loop (.seq (.seq (.region [
 ⟨some 16, none, .val (.mv (.tmp 6))⟩,
 ⟨some 17, none, .val (.mv (.tmp 0))⟩,
 ⟨some 18, none, .val (.len (.tmp 17))⟩,
 ⟨some 19, none, .val (.bin .lss T.int (.tmp 16) (.tmp 18))⟩] [16, 17, 18])
 (.cond (.tmp 19)
  .skip
 (.exit 0)))
 (.seq (.block 1 (.seq (.region [
 ⟨some 7, none, .val (.mv (.const (.int 0)))⟩] [])
 (.seq (.seq (.region [
 ⟨some 8, none, .val (.mv (.const (.int 0)))⟩] [])
 (.block 2 (.loop (.seq (.seq (.region [
 ⟨some 22, none, .val (.mv (.tmp 8))⟩,
 ⟨some 23, none, .val (.mv (.tmp 1))⟩,
 ⟨some 24, none, .val (.len (.tmp 23))⟩,
 ⟨some 25, none, .val (.bin .lss T.int (.tmp 22) (.tmp 24))⟩] [22, 23, 24])
 (.cond (.tmp 25)
  .skip
 (.exit 2)))
 (.seq (.block 3 (.seq (.draw false [
 (.early, ⟨some 28, none, .val (.mv (.tmp 5))⟩),
 (.early, ⟨some 29, none, .val (.mv (.tmp 6))⟩),
 (.early, ⟨some 30, none, .val (.mv (.tmp 8))⟩),
 (.early, ⟨some 31, none, .val (.bin .add T.int (.tmp 29) (.tmp 30))⟩),
 (.early, ⟨some 32, none, .val (.indexAddr 1 (.tmp 28) (.tmp 31))⟩),
 (.early, ⟨some 33, none, .val (.load 1 false (.tmp 32))⟩),
 (.early, ⟨some 34, none, .val (.mv (.tmp 0))⟩),
 (.early, ⟨some 35, none, .val (.mv (.tmp 6))⟩),
 (.early, ⟨some 36, none, .val (.indexAddr 1 (.tmp 34) (.tmp 35))⟩),
 (.early, ⟨some 37, none, .val (.load 1 false (.tmp 36))⟩),
 (.early, ⟨some 38, none, .val (.mv (.tmp 1))⟩),
 (.early, ⟨some 39, none, .val (.mv (.tmp 8))⟩),
 (.early, ⟨some 40, none, .val (.indexAddr 1 (.tmp 38) (.tmp 39))⟩),
 (.early, ⟨some 41, none, .val (.load 1 false (.tmp 40))⟩),
 (.early, ⟨some 42, none, .val (.bin .mul T.int (.tmp 37) (.tmp 41))⟩),
 (.early, ⟨some 43, none, .val (.bin .add T.int (.tmp 33) (.tmp 42))⟩),
 (.early, ⟨some 44, none, .val (.mv (.tmp 7))⟩),
 (.early, ⟨some 45, none, .val (.bin .add T.int (.tmp 43) (.tmp 44))⟩),
 (.early, ⟨some 9, none, .val (.mv (.tmp 45))⟩)] [28, 29, 30, 31, 32, 33, 34, 35, 36, 37, 38, 39, 40, 41, 42, 43, 44, 45])
 (.seq (.region [
 ⟨some 46, none, .val (.mv (.tmp 5))⟩,
 ⟨some 47, none, .val (.mv (.tmp 6))⟩,
 ⟨some 48, none, .val (.mv (.tmp 8))⟩,
 ⟨some 49, none, .val (.bin .add T.int (.tmp 47) (.tmp 48))⟩,
 ⟨some 50, none, .val (.mv (.tmp 9))⟩,
 ⟨some 51, none, .val (.bin .rem T.int (.tmp 50) (.const (.int 1073741824)))⟩,
 ⟨some 52, none, .val (.indexAddr 1 (.tmp 46) (.tmp 49))⟩,
 ⟨none, none, .store 1 (.tmp 52) (.tmp 51)⟩] [46, 47, 48, 49, 50, 51, 52])
 (.region [
 ⟨some 53, none, .val (.mv (.tmp 9))⟩,
 ⟨some 54, none, .val (.bin .quo T.int (.tmp 53) (.const (.int 1073741824)))⟩,
 ⟨some 7, none, .val (.mv (.tmp 54))⟩] [53, 54]))))
 (.region [
 ⟨some 26, none, .val (.mv (.tmp 8))⟩,
 ⟨some 27, none, .val (.bin .add T.int (.tmp 26) (.const (.int 1)))⟩,
 ⟨some 8, none, .val (.mv (.tmp 27))⟩] [26, 27]))))))
 (.region [
 ⟨some 55, none, .val (.mv (.tmp 5))⟩,
 ⟨some 56, none, .val (.mv (.tmp 6))⟩,
 ⟨some 57, none, .val (.mv (.tmp 1))⟩,
 ⟨some 58, none, .val (.len (.tmp 57))⟩,
 ⟨some 59, none, .val (.bin .add T.int (.tmp 56) (.tmp 58))⟩,
 ⟨some 60, none, .val (.mv (.tmp 7))⟩,
 ⟨some 61, none, .val (.indexAddr 1 (.tmp 55) (.tmp 59))⟩,
 ⟨none, none, .store 1 (.tmp 61) (.tmp 60)⟩] [55, 56, 57, 58, 59, 60, 61]))))
 (.region [
 ⟨some 20, none, .val (.mv (.tmp 6))⟩,
 ⟨some 21, none, .val (.bin .add T.int (.tmp 20) (.const (.int 1)))⟩,
 ⟨some 6, none, .val (.mv (.tmp 21))⟩] [20, 21]))))))
 (.seq (.region [
 ⟨some 62, none, .val (.mv (.tmp 5))⟩,
 ⟨some 63, none, .call (.const (.func (.func F.podiumref09_trim) [] [])) [(.tmp 62)]⟩,
 ⟨some 4, none, .val (.mv (.tmp 63))⟩] [62, 63])
  .ret))))⟩
theorem H.podiumref09_times : Has P F.podiumref09_times C.podiumref09_times := ⟨Try.f93, Try.func93, by kernel_rfl, by kernel_rfl⟩

/-- podium/podiumref09.trim -/
noncomputable def C.podiumref09_trim : MFunc := ⟨21, 1, [.tmp 2],
 (.seq (.region [
 ⟨some 2, none, .val (.mv (.const .nil))⟩] [])
 (.seq (.region [
 ⟨some 4, none, .val (.mv (.tmp 0))⟩,
 ⟨some 5, none, .val (.len (.tmp 4))⟩,
 ⟨some 3, none, .val (.mv (.tmp 5))⟩] [4, 5])
 (.seq (.block 0 (.loop (.seq (.seq (.region [
 ⟨some 6, none, .val (.mv (.tmp 3))⟩,
 ⟨some 7, none, .val (.bin .gtr T.int (.tmp 6) (.const (.int 0)))⟩,
 ⟨some 8, none, .val (.mv (.tmp 7))⟩,
 ⟨some 9, some (8, true), .val (.mv (.tmp 0))⟩,
 ⟨some 10, some (8, true), .val (.mv (.tmp 3))⟩,
 ⟨some 11, some (8, true), .val (.bin .sub T.int (.tmp 10) (.const (.int 1)))⟩,
 ⟨some 12, some (8, true), .val (.indexAddr 1 (.tmp 9) (.tmp 11))⟩,
 ⟨some 13, some (8, true), .val (.load 1 false (.tmp 12))⟩,
 ⟨some 14, some (8, true), .val (.bin .eql T.int (.tmp 13) (.const (.int 0)))⟩,
 ⟨some 15, none, .val (.pick (.tmp 8) (.tmp 14) (.const (.bool false)))⟩] [6, 7, 8, 9, 10, 11, 12, 13, 14])
 (.cond (.tmp 15)
  .skip
 (.exit 0)))
 (.block 1 (.region [
 ⟨some 16, none, .val (.mv (.tmp 3))⟩,
 ⟨some 17, none, .val (.bin .sub T.int (.tmp 16) (.const (.int 1)))⟩,
 ⟨some 3, none, .val (.mv (.tmp 17))⟩] [16, 17])))))
 (.seq (.region [
 ⟨some 18, none, .val (.mv (.tmp 0))⟩,
 ⟨some 19, none, .val (.mv (.tmp 3))⟩,
 ⟨some 20, none, .val (.slice 1 (.tmp 18) none (some (.tmp 19)) none)⟩,
 ⟨some 2, none, .val (.mv (.tmp 20))⟩] [18, 19, 20])
  .ret))))⟩
theorem H.podiumref09_trim : Has P F.podiumref09_trim C.podiumref09_trim := ⟨Try.f94, Try.func94, by kernel_rfl, by kernel_rfl⟩

/-- podium/podiumref09.less -/
noncomputable def C.podiumref09_less : MFunc := ⟨36, 2, [.tmp 4],
 (.seq (.region [
 ⟨some 4, none, .val (.mv (.const .nil))⟩] [])
 (.seq (.region [
 ⟨some 9, none, .val (.buildSlice T.int 0 [] [])⟩,
 ⟨some 5, none, .val (.mv (.tmp 9))⟩] [9])
 (.seq (.region [
 ⟨some 6, none, .val (.mv (.const (.int 0)))⟩] [])
 (.seq (.seq (.region [
 ⟨some 7, none, .val (.mv (.const (.int 0)))⟩] [])
 (.block 0 (.loop (.seq (.seq (.region [
 ⟨some 10, none, .val (.mv (.tmp 7))⟩,
 ⟨some 11, none, .val (.mv (.tmp 0))⟩,
 ⟨some 12, none, .val (.len (.tmp 11))⟩,
 ⟨some 13, none, .val (.bin .lss T.int (.tmp 10) (.tmp 12))⟩] [10, 11, 12])
 (.cond (.tmp 13)
  .skip
 (.exit 0)))
 (.seq (.block 1 (.seq (.draw true [
 (.late, ⟨some 16, none, .val (.mv (.tmp 0))⟩),
 (.late, ⟨some 17, none, .val (.mv (.tmp 7))⟩),
 (.late, ⟨some 18, none, .val (.indexAddr 1 (.tmp 16) (.tmp 17))⟩),
 (.late, ⟨some 19, none, .val (.load 1 false (.tmp 18))⟩),
 (.early, ⟨some 20, none, .val (.mv (.tmp 1))⟩),
 (.early, ⟨some 21, none, .val (.mv (.tmp 7))⟩),
 (.late, ⟨some 24, none, .val (.mv (.tmp 6))⟩),
 (.hard, ⟨some 22, none, .call (.const (.func (.func F.podiumref09_digit) [] [])) [(.tmp 20), (.tmp 21)]⟩),
 (.late, ⟨some 23, none, .val (.bin .sub T.int (.tmp 19) (.tmp 22))⟩),
 (.late, ⟨some 25, none, .val (.bin .sub T.int (.tmp 23) (.tmp 24))⟩),
 (.late, ⟨some 8, none, .val (.mv (.tmp 25))⟩)] [16, 17, 18, 19, 20, 21, 22, 23, 24, 25])
 (.seq (.region [
 ⟨some 6, none, .val (.mv (.const (.int 0)))⟩] [])
 (.seq (.seq (.region [
 ⟨some 26, none, .val (.mv (.tmp 8))⟩,
 ⟨some 27, none, .val (.bin .lss T.int (.tmp 26) (.const (.int 0)))⟩] [26])
 (.cond (.tmp 27)
 (.seq (.region [
 ⟨some 28, none, .val (.mv (.tmp 8))⟩,
 ⟨some 29, none, .val (.bin .add T.int (.tmp 28) (.const (.int 1073741824)))⟩,
 ⟨some 8, none, .val (.mv (.tmp 29))⟩] [28, 29])
 (.region [
 ⟨some 6, none, .val (.mv (.const (.int 1)))⟩] []))
  .skip))
 (.region [
 ⟨some 30, none, .val (.mv (.tmp 5))⟩,
 ⟨some 31, none, .val (.mv (.tmp 8))⟩,
 ⟨some 32, none, .val (.buildSlice T.int 1 [(.int 0)] [(0, 1, (.tmp 31))])⟩,
 ⟨some 33, none, .append T.int 8 1 (.tmp 30) (.tmp 32)⟩,
 ⟨some 5, none, .val (.mv (.tmp 33))⟩] [30, 31, 32, 33])))))
 (.region [
 ⟨some 14, none, .val (.mv (.tmp 7))⟩,
 ⟨some 15, none, .val (.bin .add T.int (.tmp 14) (.const (.int 1)))⟩,
 ⟨some 7, none, .val (.mv (.tmp 15))⟩] [14, 15]))))))
 (.seq (.region [
 ⟨some 34, none, .val (.mv (.tmp 5))⟩,
 ⟨some 35, none, .call (.const (.func (.func F.podiumref09_trim) [] [])) [(.tmp 34)]⟩,
 ⟨some 4, none, .val (.mv (.tmp 35))⟩] [34, 35])
  .ret)))))⟩
theorem H.podiumref09_less : Has P F.podiumref09_less C.podiumref09_less := ⟨Try.f95, Try.func95, by kernel_rfl, by kernel_rfl⟩

/-- podium/nat.trim -/
noncomputable def C.nat_trim : MFunc := ⟨21, 1, [.tmp 2],
 (.seq (.region [
 ⟨some 2, none, .val (.mv (.const .nil))⟩] [])
 (.seq (.region [
 ⟨some 4, none, .val (.mv (.tmp 0))⟩,
 ⟨some 5, none, .val (.len (.tmp 4))⟩,
 ⟨some 3, none, .val (.mv (.tmp 5))⟩] [4, 5])
 (.seq (.block 0 (.loop (.seq (.seq (.region [
 ⟨some 6, none, .val (.mv (.tmp 3))⟩,
 ⟨some 7, none, .val (.bin .gtr T.int (.tmp 6) (.const (.int 0)))⟩,
 ⟨some 8, none, .val (.mv (.tmp 7))⟩,
 ⟨some 9, some (8, true), .val (.mv (.tmp 0))⟩,
 ⟨some 10, some (8, true), .val (.mv (.tmp 3))⟩,
 ⟨some 11, some (8, true), .val (.bin .sub T.int (.tmp 10) (.const (.int 1)))⟩,
 ⟨some 12, some (8, true), .val (.indexAddr 1 (.tmp 9) (.tmp 11))⟩,
 ⟨some 13, some (8, true), .val (.load 1 false (.tmp 12))⟩,
 ⟨some 14, some (8, true), .val (.bin .eql T.int (.tmp 13) (.const (.int 0)))⟩,
 ⟨some 15, none, .val (.pick (.tmp 8) (.tmp 14) (.const (.bool false)))⟩] [6, 7, 8, 9, 10, 11, 12, 13, 14])
 (.cond (.tmp 15)
  .skip
 (.exit 0)))
 (.block 1 (.region [
 ⟨some 16, none, .val (.mv (.tmp 3))⟩,
 ⟨some 17, none, .val (.bin .sub T.int (.tmp 16) (.const (.int 1)))⟩,
 ⟨some 3, none, .val (.mv (.tmp 17))⟩] [16, 17])))))
 (.seq (.region [
 ⟨some 18, none, .val (.mv (.tmp 0))⟩,
 ⟨some 19, none, .val (.mv (.tmp 3))⟩,
 ⟨some 20, none, .val (.slice 1 (.tmp 18) none (some (.tmp 19)) none)⟩,
 ⟨some 2, none, .val (.mv (.tmp 20))⟩] [18, 19, 20])
  .ret))))⟩
theorem H.nat_trim : Has P F.nat_trim C.nat_trim := ⟨Try.f96, Try.func96, by kernel_rfl, by kernel_rfl⟩

/-- slices.Backward[podium/nat.digits,int] -/
noncomputable def C.slices_Backward__natdigits_int : MFunc := ⟨4, 1, [.tmp 2],
 (.seq (.region [
 ⟨some 1, none, .box T.natdigits (.tmp 0)⟩,
 ⟨some 2, none, .val (.mv (.const (.val .nilFunc)))⟩] [])
 (.seq (.region [
 ⟨some 3, none, .val (.mkFunc (.func F.slices_Backward__natdigits_int_1) [] [(.tmp 1)])⟩,
 ⟨some 2, none, .val (.mv (.tmp 3))⟩] [3])
  .ret))⟩
theorem H.slices_Backward__natdigits_int : Has P F.slices_Backward__natdigits_int C.slices_Backward__natdigits_int := ⟨Try.f97, Try.func97, by kernel_rfl, by kernel_rfl⟩

/-- podium/nat.short -/
noncomputable def C.nat_short : MFunc := ⟨31, 2, [.cell 4 1 false, .cell 5 1 false],
 (.seq (.region [
 ⟨some 3, none, .box T.int (.tmp 1)⟩,
 ⟨some 4, none, .alloc T.natdigits [.nil]⟩,
 ⟨some 5, none, .alloc T.int [(.int 0)]⟩] [])
 (.seq (.region [
 ⟨some 8, none, .val (.mv (.tmp 0))⟩,
 ⟨some 9, none, .val (.len (.tmp 8))⟩,
 ⟨some 10, none, .mkSlice T.int 8 1 [(.int 0)] (.tmp 9) (.tmp 9)⟩,
 ⟨none, none, .store 1 (.tmp 4) (.tmp 10)⟩] [8, 9, 10])
 (.seq (.seq (.region [
 ⟨some 11, none, .val (.mv (.tmp 0))⟩,
 ⟨some 12, none, .call (.const (.func (.func F.nat_down) [] [])) [(.tmp 11)]⟩] [11])
 (.block 0 (.rangeFunc (.tmp 12) [13, 14] (.seq (.region [
 ⟨some 6, none, .val (.mv (.tmp 13))⟩] [])
 (.region [
 ⟨some 7, none, .val (.mv (.tmp 14))⟩] []))
 (.block 1 (.seq (.region [
 ⟨some 15, none, .val (.load 1 false (.tmp 5))⟩,
 ⟨some 16, none, .val (.bin .shl T.int (.tmp 15) (.const (.val (.int .u64 30))))⟩,
 ⟨some 17, none, .val (.mv (.tmp 7))⟩,
 ⟨some 18, none, .val (.bin .or T.int (.tmp 16) (.tmp 17))⟩,
 ⟨none, none, .store 1 (.tmp 5) (.tmp 18)⟩] [15, 16, 17, 18])
 (.draw true [
 (.early, ⟨some 19, none, .val (.load 1 false (.tmp 4))⟩),
 (.early, ⟨some 20, none, .val (.mv (.tmp 6))⟩),
 (.early, ⟨some 21, none, .val (.load 1 false (.tmp 5))⟩),
 (.early, ⟨some 22, none, .val (.load 1 false (.tmp 3))⟩),
 (.early, ⟨some 23, none, .val (.bin .quo T.int (.tmp 21) (.tmp 22))⟩),
 (.late, ⟨some 24, none, .val (.load 1 false (.tmp 5))⟩),
 (.late, ⟨some 25, none, .val (.load 1 false (.tmp 3))⟩),
 (.late, ⟨some 26, none, .val (.bin .rem T.int (.tmp 24) (.tmp 25))⟩),
 (.early, ⟨some 27, none, .val (.indexAddr 1 (.tmp 19) (.tmp 20))⟩),
 (.hard, ⟨none, none, .store 1 (.tmp 27) (.tmp 23)⟩),
 (.last, ⟨none, none, .store 1 (.tmp 5) (.tmp 26)⟩)] [19, 20, 21, 22, 23, 24, 25, 26, 27]))))))
 (.seq (.draw true [
 (.early, ⟨some 28, none, .val (.load 1 false (.tmp 4))⟩),
 (.late, ⟨some 30, none, .val (.load 1 false (.tmp 5))⟩),
 (.hard, ⟨some 29, none, .call (.const (.func (.func F.nat_trim) [] [])) [(.tmp 28)]⟩),
 (.hard, ⟨none, none, .store 1 (.tmp 4) (.tmp 29)⟩),
 (.last, ⟨none, none, .store 1 (.tmp 5) (.tmp 30)⟩)] [28, 29, 30])
  .ret))))⟩
theorem H.nat_short : Has P F.nat_short C.nat_short := ⟨Try.f98, Try.func98, by kernel_rfl, by kernel_rfl⟩

/-- podium/nat.long -/
noncomputable def C.nat_long : MFunc := ⟨219, 2, [.tmp 4, .tmp 5],
 (.seq (.region [
 ⟨some 4, none, .val (.mv (.const .nil))⟩,
 ⟨some 5, none, .val (.mv (.const .nil))⟩] [])
 (.seq (.region [
 ⟨some 19, none, .val (.mv (.tmp 1))⟩,
 ⟨some 20, none, .val (.mv (.tmp 1))⟩,
 ⟨some 21, none, .val (.len (.tmp 20))⟩,
 ⟨some 22, none, .val (.bin .sub T.int (.tmp 21) (.const (.int 1)))⟩,
 ⟨some 23, none, .val (.indexAddr 1 (.tmp 19) (.tmp 22))⟩,
 ⟨some 24, none, .val (.load 1 false (.tmp 23))⟩,
 ⟨some 25, none, .val (.toInt .u64 (.tmp 24))⟩,
 ⟨some 26, none, .call (.const (.func (.func F.math_bits_LeadingZeros64) [] [])) [(.tmp 25)]⟩,
 ⟨some 27, none, .val (.bin .sub T.int (.tmp 26) (.const (.int 34)))⟩,
 ⟨some 6, none, .val (.mv (.tmp 27))⟩] [19, 20, 21, 22, 23, 24, 25, 26, 27])
 (.seq (.region [
 ⟨some 28, none, .val (.mv (.tmp 1))⟩,
 ⟨some 29, none, .val (.mv (.tmp 6))⟩,
 ⟨some 30, none, .call (.const (.func (.func F.nat_moved) [] [])) [(.tmp 28), (.tmp 29)]⟩,
 ⟨some 7, none, .val (.mv (.tmp 30))⟩] [28, 29, 30])
 (.seq (.region [
 ⟨some 31, none, .val (.mv (.tmp 0))⟩,
 ⟨some 32, none, .val (.mv (.tmp 6))⟩,
 ⟨some 33, none, .call (.const (.func (.func F.nat_moved) [] [])) [(.tmp 31), (.tmp 32)]⟩,
 ⟨some 34, none, .val (.buildSlice T.int 2 [(.int 0), (.int 0)] [(0, 1, (.const (.int 0))), (1, 1, (.const (.int 0)))])⟩,
 ⟨some 35, none, .append T.int 8 1 (.tmp 33) (.tmp 34)⟩,
 ⟨some 8, none, .val (.mv (.tmp 35))⟩] [31, 32, 33, 34, 35])
 (.seq (.region [
 ⟨some 36, none, .val (.mv (.tmp 8))⟩,
 ⟨some 37, none, .val (.mv (.tmp 0))⟩,
 ⟨some 38, none, .val (.len (.tmp 37))⟩,
 ⟨some 39, none, .val (.bin .add T.int (.tmp 38) (.const (.int 1)))⟩,
 ⟨some 40, none, .val (.slice 1 (.tmp 36) none (some (.tmp 39)) none)⟩,
 ⟨some 8, none, .val (.mv (.tmp 40))⟩] [36, 37, 38, 39, 40])
 (.seq (.region [
 ⟨some 41, none, .val (.mv (.tmp 7))⟩,
 ⟨some 42, none, .val (.len (.tmp 41))⟩,
 ⟨some 9, none, .val (.mv (.tmp 42))⟩] [41, 42])
 (.seq (.region [
 ⟨some 43, none, .val (.mv (.tmp 0))⟩,
 ⟨some 44, none, .val (.len (.tmp 43))⟩,
 ⟨some 45, none, .val (.mv (.tmp 9))⟩,
 ⟨some 46, none, .val (.bin .sub T.int (.tmp 44) (.tmp 45))⟩,
 ⟨some 47, none, .val (.bin .add T.int (.tmp 46) (.const (.int 1)))⟩,
 ⟨some 48, none, .mkSlice T.int 8 1 [(.int 0)] (.tmp 47) (.tmp 47)⟩,
 ⟨some 4, none, .val (.mv (.tmp 48))⟩] [43, 44, 45, 46, 47, 48])
 (.seq (.seq (.region [
 ⟨some 49, none, .val (.mv (.tmp 4))⟩,
 ⟨some 50, none, .val (.len (.tmp 49))⟩,
 ⟨some 51, none, .val (.bin .sub T.int (.tmp 50) (.const (.int 1)))⟩,
 ⟨some 10, none, .val (.mv (.tmp 51))⟩] [49, 50, 51])
 (.block 0 (.loop (.seq (.seq (.region [
 ⟨some 52, none, .val (.mv (.tmp 10))⟩,
 ⟨some 53, none, .val (.bin .geq T.int (.tmp 52) (.const (.int 0)))⟩] [52])
 (.cond (.tmp 53)
  .skip
 (.exit 0)))
 (.seq (.block 1 (.seq (.draw false [
 (.early, ⟨some 56, none, .val (.mv (.tmp 8))⟩),
 (.early, ⟨some 57, none, .val (.mv (.tmp 10))⟩),
 (.early, ⟨some 58, none, .val (.mv (.tmp 9))⟩),
 (.early, ⟨some 59, none, .val (.bin .add T.int (.tmp 57) (.tmp 58))⟩),
 (.early, ⟨some 60, none, .val (.indexAddr 1 (.tmp 56) (.tmp 59))⟩),
 (.early, ⟨some 61, none, .val (.load 1 false (.tmp 60))⟩),
 (.early, ⟨some 62, none, .val (.bin .shl T.int (.tmp 61) (.const (.val (.int .u64 30))))⟩),
 (.early, ⟨some 63, none, .val (.mv (.tmp 8))⟩),
 (.early, ⟨some 64, none, .val (.mv (.tmp 10))⟩),
 (.early, ⟨some 65, none, .val (.mv (.tmp 9))⟩),
 (.early, ⟨some 66, none, .val (.bin .add T.int (.tmp 64) (.tmp 65))⟩),
 (.early, ⟨some 67, none, .val (.bin .sub T.int (.tmp 66) (.const (.int 1)))⟩),
 (.early, ⟨some 68, none, .val (.indexAddr 1 (.tmp 63) (.tmp 67))⟩),
 (.early, ⟨some 69, none, .val (.load 1 false (.tmp 68))⟩),
 (.early, ⟨some 70, none, .val (.bin .or T.int (.tmp 62) (.tmp 69))⟩),
 (.early, ⟨some 11, none, .val (.mv (.tmp 70))⟩)] [56, 57, 58, 59, 60, 61, 62, 63, 64, 65, 66, 67, 68, 69, 70])
 (.seq (.region [
 ⟨some 71, none, .val (.mv (.tmp 11))⟩,
 ⟨some 72, none, .val (.mv (.tmp 7))⟩,
 ⟨some 73, none, .val (.mv (.tmp 9))⟩,
 ⟨some 74, none, .val (.bin .sub T.int (.tmp 73) (.const (.int 1)))⟩,
 ⟨some 75, none, .val (.indexAddr 1 (.tmp 72) (.tmp 74))⟩,
 ⟨some 76, none, .val (.load 1 false (.tmp 75))⟩,
 ⟨some 77, none, .val (.bin .quo T.int (.tmp 71) (.tmp 76))⟩,
 ⟨some 78, none, .val (.minmax false [(.tmp 77), (.const (.int 1073741823))])⟩,
 ⟨some 12, none, .val (.mv (.tmp 78))⟩] [71, 72, 73, 74, 75, 76, 77, 78])
 (.seq (.block 2 (.loop (.seq (.seq (.draw false (
 (.early, ⟨some 79, none, .val (.mv (.tmp 12))⟩) ::
 (.early, ⟨some 80, none, .val (.mv (.tmp 7))⟩) ::
 (.early, ⟨some 81, none, .val (.mv (.tmp 9))⟩) ::
 (.early, ⟨some 82, none, .val (.bin .sub T.int (.tmp 81) (.const (.int 2)))⟩) ::
 (.early, ⟨some 83, none, .val (.indexAddr 1 (.tmp 80) (.tmp 82))⟩) ::
 (.early, ⟨some 84, none, .val (.load 1 false (.tmp 83))⟩) ::
 (.early, ⟨some 85, none, .val (.bin .mul T.int (.tmp 79) (.tmp 84))⟩) ::
 (.early, ⟨some 86, none, .val (.mv (.tmp 11))⟩) ::
 (.early, ⟨some 87, none, .val (.mv (.tmp 12))⟩) ::
 (.early, ⟨some 88, none, .val (.mv (.tmp 7))⟩) ::
 (.early, ⟨some 89, none, .val (.mv (.tmp 9))⟩) ::
 (.early, ⟨some 90, none, .val (.bin .sub T.int (.tmp 89) (.const (.int 1)))⟩) ::
 (.early, ⟨some 91, none, .val (.indexAddr 1 (.tmp 88) (.tmp 90))⟩) ::
 (.early, ⟨some 92, none, .val (.load 1 false (.tmp 91))⟩) ::
 (.early, ⟨some 93, none, .val (.bin .mul T.int (.tmp 87) (.tmp 92))⟩) ::
 (.early, ⟨some 94, none, .val (.bin .sub T.int (.tmp 86) (.tmp 93))⟩) ::
 (.early, ⟨some 95, none, .val (.bin .shl T.int (.tmp 94) (.const (.val (.int .u64 30))))⟩) ::
 (.early, ⟨some 96, none, .val (.mv (.tmp 8))⟩) ::
 (.early, ⟨some 97, none, .val (.mv (.tmp 10))⟩) ::
 (.early, ⟨some 98, none, .val (.mv (.tmp 9))⟩) ::
 (.early, ⟨some 99, none, .val (.bin .add T.int (.tmp 97) (.tmp 98))⟩) ::
 (.early, ⟨some 100, none, .val (.bin .sub T.int (.tmp 99) (.const (.int 2)))⟩) ::
 (.early, ⟨some 101, none, .val (.indexAddr 1 (.tmp 96) (.tmp 100))⟩) ::
 (.early, ⟨some 102, none, .val (.load 1 false (.tmp 101))⟩) ::
 (.early, ⟨some 103, none, .val (.bin .or T.int (.tmp 95) (.tmp 102))⟩) ::
 (.early, ⟨some 104, none, .val (.bin .gtr T.int (.tmp 85) (.tmp 103))⟩) ::
 (.early, ⟨some 105, none, .val (.mv (.tmp 104))⟩) ::
 (.early, ⟨some 106, some (105, true), .val (.mv (.tmp 11))⟩) ::
 (.early, ⟨some 107, some (105, true), .val (.mv (.tmp 12))⟩) ::
 (.early, ⟨some 108, some (105, true), .val (.mv (.tmp 7))⟩) ::
 (.early, ⟨some 109, some (105, true), .val (.mv (.tmp 9))⟩) ::
 (.early, ⟨some 110, some (105, true), .val (.bin .sub T.int (.tmp 109) (.const (.int 1)))⟩) ::
 (.early, ⟨some 111, some (105, true), .val (.indexAddr 1 (.tmp 108) (.tmp 110))⟩) ::
 (.early, ⟨some 112, some (105, true), .val (.load 1 false (.tmp 111))⟩) ::
 (.early, ⟨some 113, some (105, true), .val (.bin .mul T.int (.tmp 107) (.tmp 112))⟩) ::
 (.early, ⟨some 114, some (105, true), .val (.bin .sub T.int (.tmp 106) (.tmp 113))⟩) ::
 (.early, ⟨some 115, some (105, true), .val (.bin .leq T.int (.tmp 114) (.const (.int 1073741823)))⟩) ::
 (.early, ⟨some 116, none, .val (.pick (.tmp 105) (.tmp 115) (.const (.bool false)))⟩) :: []) (79 :: 80 :: 81 :: 82 :: 83 :: 84 :: 85 :: 86 :: 87 :: 88 :: 89 :: 90 :: 91 :: 92 :: 93 :: 94 :: 95 :: 96 :: 97 :: 98 :: 99 :: 100 :: 101 :: 102 :: 103 :: 104 :: 105 :: 106 :: 107 :: 108 :: 109 :: 110 :: 111 :: 112 :: 113 :: 114 :: 115 :: []))
 (.cond (.tmp 116)
  .skip
 (.exit 2)))
 (.block 3 (.region [
 ⟨some 117, none, .val (.mv (.tmp 12))⟩,
 ⟨some 118, none, .val (.bin .sub T.int (.tmp 117) (.const (.int 1)))⟩,
 ⟨some 12, none, .val (.mv (.tmp 118))⟩] [117, 118])))))
 (.seq (.region [
 ⟨some 13, none, .val (.mv (.const (.int 0)))⟩] [])
 (.seq (.seq (.region [
 ⟨some 119, none, .val (.mv (.tmp 7))⟩,
 ⟨some 120, none, .val (.len (.tmp 119))⟩,
 ⟨some 121, none, .val (.mv (.const (.int 0)))⟩] [119])
 (.block 4 (.loop (.seq (.region [
 ⟨some 122, none, .val (.bin .lss T.int (.tmp 121) (.tmp 120))⟩] [])
 (.seq (.cond (.tmp 122)
  .skip
 (.exit 4))
 (.seq (.block 5 (.seq (.region [
 ⟨some 123, none, .val (.mv (.tmp 121))⟩,
 ⟨some 14, none, .val (.mv (.tmp 123))⟩] [123])
 (.seq (.draw false [
 (.early, ⟨some 124, none, .val (.mv (.tmp 8))⟩),
 (.early, ⟨some 125, none, .val (.mv (.tmp 10))⟩),
 (.early, ⟨some 126, none, .val (.mv (.tmp 14))⟩),
 (.early, ⟨some 127, none, .val (.bin .add T.int (.tmp 125) (.tmp 126))⟩),
 (.early, ⟨some 128, none, .val (.indexAddr 1 (.tmp 124) (.tmp 127))⟩),
 (.early, ⟨some 129, none, .val (.load 1 false (.tmp 128))⟩),
 (.early, ⟨some 130, none, .val (.mv (.tmp 12))⟩),
 (.early, ⟨some 131, none, .val (.mv (.tmp 7))⟩),
 (.early, ⟨some 132, none, .val (.mv (.tmp 14))⟩),
 (.early, ⟨some 133, none, .val (.indexAddr 1 (.tmp 131) (.tmp 132))⟩),
 (.early, ⟨some 134, none, .val (.load 1 false (.tmp 133))⟩),
 (.early, ⟨some 135, none, .val (.bin .mul T.int (.tmp 130) (.tmp 134))⟩),
 (.early, ⟨some 136, none, .val (.bin .sub T.int (.tmp 129) (.tmp 135))⟩),
 (.early, ⟨some 137, none, .val (.mv (.tmp 13))⟩),
 (.early, ⟨some 138, none, .val (.bin .add T.int (.tmp 136) (.tmp 137))⟩),
 (.early, ⟨some 15, none, .val (.mv (.tmp 138))⟩)] [124, 125, 126, 127, 128, 129, 130, 131, 132, 133, 134, 135, 136, 137, 138])
 (.region [
 ⟨some 139, none, .val (.mv (.tmp 8))⟩,
 ⟨some 140, none, .val (.mv (.tmp 10))⟩,
 ⟨some 141, none, .val (.mv (.tmp 14))⟩,
 ⟨some 142, none, .val (.bin .add T.int (.tmp 140) (.tmp 141))⟩,
 ⟨some 143, none, .val (.mv (.tmp 15))⟩,
 ⟨some 144, none, .val (.bin .and T.int (.tmp 143) (.const (.int 1073741823)))⟩,
 ⟨some 145, none, .val (.mv (.tmp 15))⟩,
 ⟨some 146, none, .val (.bin .shr T.int (.tmp 145) (.const (.val (.int .u64 30))))⟩,
 ⟨some 147, none, .val (.indexAddr 1 (.tmp 139) (.tmp 142))⟩,
 ⟨none, none, .store 1 (.tmp 147) (.tmp 144)⟩,
 ⟨some 13, none, .val (.mv (.tmp 146))⟩] [139, 140, 141, 142, 143, 144, 145, 146, 147]))))
 (.region [
 ⟨some 148, none, .val (.bin .add T.int (.tmp 121) (.const (.int 1)))⟩,
 ⟨some 121, none, .val (.mv (.tmp 148))⟩] [148])))))))
 (.seq (.region [
 ⟨some 149, none, .val (.mv (.tmp 8))⟩,
 ⟨some 150, none, .val (.mv (.tmp 10))⟩,
 ⟨some 151, none, .val (.mv (.tmp 9))⟩,
 ⟨some 152, none, .val (.bin .add T.int (.tmp 150) (.tmp 151))⟩,
 ⟨some 153, none, .val (.indexAddr 1 (.tmp 149) (.tmp 152))⟩,
 ⟨some 154, none, .val (.load 1 false (.tmp 153))⟩,
 ⟨some 155, none, .val (.mv (.tmp 13))⟩,
 ⟨some 156, none, .val (.bin .add T.int (.tmp 154) (.tmp 155))⟩,
 ⟨some 157, none, .val (.indexAddr 1 (.tmp 149) (.tmp 152))⟩,
 ⟨none, none, .store 1 (.tmp 157) (.tmp 156)⟩] [149, 150, 151, 152, 153, 154, 155, 156, 157])
 (.seq (.seq (.region [
 ⟨some 158, none, .val (.mv (.tmp 8))⟩,
 ⟨some 159, none, .val (.mv (.tmp 10))⟩,
 ⟨some 160, none, .val (.mv (.tmp 9))⟩,
 ⟨some 161, none, .val (.bin .add T.int (.tmp 159) (.tmp 160))⟩,
 ⟨some 162, none, .val (.indexAddr 1 (.tmp 158) (.tmp 161))⟩,
 ⟨some 163, none, .val (.load 1 false (.tmp 162))⟩,
 ⟨some 164, none, .val (.bin .lss T.int (.tmp 163) (.const (.int 0)))⟩] [158, 159, 160, 161, 162, 163])
 (.cond (.tmp 164)
 (.seq (.region [
 ⟨some 165, none, .val (.mv (.tmp 12))⟩,
 ⟨some 166, none, .val (.bin .sub T.int (.tmp 165) (.const (.int 1)))⟩,
 ⟨some 12, none, .val (.mv (.tmp 166))⟩] [165, 166])
 (.seq (.region [
 ⟨some 16, none, .val (.mv (.const (.int 0)))⟩] [])
 (.seq (.seq (.region [
 ⟨some 167, none, .val (.mv (.tmp 7))⟩,
 ⟨some 168, none, .val (.len (.tmp 167))⟩,
 ⟨some 169, none, .val (.mv (.const (.int 0)))⟩] [167])
 (.block 6 (.loop (.seq (.region [
 ⟨some 170, none, .val (.bin .lss T.int (.tmp 169) (.tmp 168))⟩] [])
 (.seq (.cond (.tmp 170)
  .skip
 (.exit 6))
 (.seq (.block 7 (.seq (.region [
 ⟨some 171, none, .val (.mv (.tmp 169))⟩,
 ⟨some 17, none, .val (.mv (.tmp 171))⟩] [171])
 (.seq (.draw false [
 (.early, ⟨some 172, none, .val (.mv (.tmp 8))⟩),
 (.early, ⟨some 173, none, .val (.mv (.tmp 10))⟩),
 (.early, ⟨some 174, none, .val (.mv (.tmp 17))⟩),
 (.early, ⟨some 175, none, .val (.bin .add T.int (.tmp 173) (.tmp 174))⟩),
 (.early, ⟨some 176, none, .val (.indexAddr 1 (.tmp 172) (.tmp 175))⟩),
 (.early, ⟨some 177, none, .val (.load 1 false (.tmp 176))⟩),
 (.early, ⟨some 178, none, .val (.mv (.tmp 7))⟩),
 (.early, ⟨some 179, none, .val (.mv (.tmp 17))⟩),
 (.early, ⟨some 180, none, .val (.indexAddr 1 (.tmp 178) (.tmp 179))⟩),
 (.early, ⟨some 181, none, .val (.load 1 false (.tmp 180))⟩),
 (.early, ⟨some 182, none, .val (.bin .add T.int (.tmp 177) (.tmp 181))⟩),
 (.early, ⟨some 183, none, .val (.mv (.tmp 16))⟩),
 (.early, ⟨some 184, none, .val (.bin .add T.int (.tmp 182) (.tmp 183))⟩),
 (.early, ⟨some 18, none, .val (.mv (.tmp 184))⟩)] [172, 173, 174, 175, 176, 177, 178, 179, 180, 181, 182, 183, 184])
 (.region [
 ⟨some 185, none, .val (.mv (.tmp 8))⟩,
 ⟨some 186, none, .val (.mv (.tmp 10))⟩,
 ⟨some 187, none, .val (.mv (.tmp 17))⟩,
 ⟨some 188, none, .val (.bin .add T.int (.tmp 186) (.tmp 187))⟩,
 ⟨some 189, none, .val (.mv (.tmp 18))⟩,
 ⟨some 190, none, .val (.bin .and T.int (.tmp 189) (.const (.int 1073741823)))⟩,
 ⟨some 191, none, .val (.mv (.tmp 18))⟩,
 ⟨some 192, none, .val (.bin .shr T.int (.tmp 191) (.const (.val (.int .u64 30))))⟩,
 ⟨some 193, none, .val (.indexAddr 1 (.tmp 185) (.tmp 188))⟩,
 ⟨none, none, .store 1 (.tmp 193) (.tmp 190)⟩,
 ⟨some 16, none, .val (.mv (.tmp 192))⟩] [185, 186, 187, 188, 189, 190, 191, 192, 193]))))
 (.region [
 ⟨some 194, none, .val (.bin .add T.int (.tmp 169) (.const (.int 1)))⟩,
 ⟨some 169, none, .val (.mv (.tmp 194))⟩] [194])))))))
 (.region [
 ⟨some 195, none, .val (.mv (.tmp 8))⟩,
 ⟨some 196, none, .val (.mv (.tmp 10))⟩,
 ⟨some 197, none, .val (.mv (.tmp 9))⟩,
 ⟨some 198, none, .val (.bin .add T.int (.tmp 196) (.tmp 197))⟩,
 ⟨some 199, none, .val (.indexAddr 1 (.tmp 195) (.tmp 198))⟩,
 ⟨some 200, none, .val (.load 1 false (.tmp 199))⟩,
 ⟨some 201, none, .val (.mv (.tmp 16))⟩,
 ⟨some 202, none, .val (.bin .add T.int (.tmp 200) (.tmp 201))⟩,
 ⟨some 203, none, .val (.indexAddr 1 (.tmp 195) (.tmp 198))⟩,
 ⟨none, none, .store 1 (.tmp 203) (.tmp 202)⟩] [195, 196, 197, 198, 199, 200, 201, 202, 203]))))
  .skip))
 (.region [
 ⟨some 204, none, .val (.mv (.tmp 4))⟩,
 ⟨some 205, none, .val (.mv (.tmp 10))⟩,
 ⟨some 206, none, .val (.mv (.tmp 12))⟩,
 ⟨some 207, none, .val (.indexAddr 1 (.tmp 204) (.tmp 205))⟩,
 ⟨none, none, .store 1 (.tmp 207) (.tmp 206)⟩] [204, 205, 206, 207])))))))))
 (.region [
 ⟨some 54, none, .val (.mv (.tmp 10))⟩,
 ⟨some 55, none, .val (.bin .sub T.int (.tmp 54) (.const (.int 1)))⟩,
 ⟨some 10, none, .val (.mv (.tmp 55))⟩] [54, 55]))))))
 (.seq (.draw true [
 (.early, ⟨some 209, none, .val (.mv (.tmp 8))⟩),
 (.late, ⟨some 211, none, .val (.mv (.tmp 6))⟩),
 (.late, ⟨some 212, none, .val (.bin .shl T.int (.const (.int 1)) (.tmp 211))⟩),
 (.hard, ⟨some 210, none, .call (.const (.func (.func F.nat_trim) [] [])) [(.tmp 209)]⟩),
 (.hard, ⟨some 213, none, .call (.const (.func (.func F.nat_short) [] [])) [(.tmp 210), (.tmp 212)]⟩),
 (.late, ⟨some 208, none, .val (.mv (.tmp 213))⟩),
 (.late, ⟨some 214, none, .val (.extract 0 (.tmp 208))⟩),
 (.late, ⟨some 215, none, .val (.extract 1 (.tmp 208))⟩),
 (.late, ⟨some 5, none, .val (.mv (.tmp 214))⟩)] [209, 210, 211, 212, 213, 208, 214, 215])
 (.seq (.region [
 ⟨some 216, none, .val (.mv (.tmp 4))⟩,
 ⟨some 217, none, .call (.const (.func (.func F.nat_trim) [] [])) [(.tmp 216)]⟩,
 ⟨some 218, none, .val (.mv (.tmp 5))⟩,
 ⟨some 4, none, .val (.mv (.tmp 217))⟩,
 ⟨some 5, none, .val (.mv (.tmp 218))⟩] [216, 217, 218])
  .ret))))))))))⟩
theorem H.nat_long : Has P F.nat_long C.nat_long := ⟨Try.f99, Try.func99, by kernel_rfl, by kernel_rfl⟩

/-- slices.swapRangeCmpFunc[podium/api.Record] -/
noncomputable def C.slices_swapRangeCmpFunc__apiRecord : MFunc := ⟨38, 5, [],
 (.seq (.region [
 ⟨some 10, none, .val (.mv (.const (.int 0)))⟩] [])
 (.block 0 (.loop (.seq (.seq (.region [
 ⟨some 11, none, .val (.mv (.tmp 10))⟩,
 ⟨some 12, none, .val (.mv (.tmp 3))⟩,
 ⟨some 13, none, .val (.bin .lss T.int (.tmp 11) (.tmp 12))⟩] [11, 12])
 (.cond (.tmp 13)
  .skip
 (.exit 0)))
 (.seq (.block 1 (.draw true [
 (.early, ⟨some 16, none, .val (.mv (.tmp 0))⟩),
 (.early, ⟨some 17, none, .val (.mv (.tmp 1))⟩),
 (.early, ⟨some 18, none, .val (.mv (.tmp 10))⟩),
 (.early, ⟨some 19, none, .val (.bin .add T.int (.tmp 17) (.tmp 18))⟩),
 (.late, ⟨some 20, none, .val (.mv (.tmp 0))⟩),
 (.late, ⟨some 21, none, .val (.mv (.tmp 2))⟩),
 (.late, ⟨some 22, none, .val (.mv (.tmp 10))⟩),
 (.late, ⟨some 23, none, .val (.bin .add T.int (.tmp 21) (.tmp 22))⟩),
 (.early, ⟨some 24, none, .val (.mv (.tmp 0))⟩),
 (.early, ⟨some 25, none, .val (.mv (.tmp 2))⟩),
 (.early, ⟨some 26, none, .val (.mv (.tmp 10))⟩),
 (.early, ⟨some 27, none, .val (.bin .add T.int (.tmp 25) (.tmp 26))⟩),
 (.early, ⟨some 28, none, .val (.indexAddr 7 (.tmp 24) (.tmp 27))⟩),
 (.early, ⟨some 29, none, .val (.load 7 true (.tmp 28))⟩),
 (.early, ⟨some 30, none, .val (.mv (.tmp 0))⟩),
 (.early, ⟨some 31, none, .val (.mv (.tmp 1))⟩),
 (.early, ⟨some 32, none, .val (.mv (.tmp 10))⟩),
 (.early, ⟨some 33, none, .val (.bin .add T.int (.tmp 31) (.tmp 32))⟩),
 (.early, ⟨some 34, none, .val (.indexAddr 7 (.tmp 30) (.tmp 33))⟩),
 (.early, ⟨some 35, none, .val (.load 7 true (.tmp 34))⟩),
 (.early, ⟨some 36, none, .val (.indexAddr 7 (.tmp 16) (.tmp 19))⟩),
 (.last, ⟨none, none, .store 7 (.tmp 36) (.tmp 29)⟩),
 (.late, ⟨some 37, none, .val (.indexAddr 7 (.tmp 20) (.tmp 23))⟩),
 (.last, ⟨none, none, .store 7 (.tmp 37) (.tmp 35)⟩)] [16, 17, 18, 19, 20, 21, 22, 23, 24, 25, 26, 27, 28, 29, 30, 31, 32, 33, 34, 35, 36, 37]))
 (.region [
 ⟨some 14, none, .val (.mv (.tmp 10))⟩,
 ⟨some 15, none, .val (.bin .add T.int (.tmp 14) (.const (.int 1)))⟩,
 ⟨some 10, none, .val (.mv (.tmp 15))⟩] [14, 15]))))))⟩
theorem H.slices_swapRangeCmpFunc__apiRecord : Has P F.slices_swapRangeCmpFunc__apiRecord C.slices_swapRangeCmpFunc__apiRecord := ⟨Try.f100, Try.func100, by kernel_rfl, by kernel_rfl⟩

/-- podium/podiumref09.digit -/
noncomputable def C.podiumref09_digit : MFunc := ⟨13, 2, [.tmp 4],
 (.seq (.region [
 ⟨some 4, none, .val (.mv (.const (.int 0)))⟩] [])
 (.seq (.seq (.region [
 ⟨some 5, none, .val (.mv (.tmp 1))⟩,
 ⟨some 6, none, .val (.mv (.tmp 0))⟩,
 ⟨some 7, none, .val (.len (.tmp 6))⟩,
 ⟨some 8, none, .val (.bin .lss T.int (.tmp 5) (.tmp 7))⟩] [5, 6, 7])
 (.cond (.tmp 8)
 (.seq (.region [
 ⟨some 9, none, .val (.mv (.tmp 0))⟩,
 ⟨some 10, none, .val (.mv (.tmp 1))⟩,
 ⟨some 11, none, .val (.indexAddr 1 (.tmp 9) (.tmp 10))⟩,
 ⟨some 12, none, .val (.load 1 false (.tmp 11))⟩,
 ⟨some 4, none, .val (.mv (.tmp 12))⟩] [9, 10, 11, 12])
  .ret)
  .skip))
 (.seq (.region [
 ⟨some 4, none, .val (.mv (.const (.int 0)))⟩] [])
  .ret)))⟩
theorem H.podiumref09_digit : Has P F.podiumref09_digit C.podiumref09_digit := ⟨Try.f101, Try.func101, by kernel_rfl, by kernel_rfl⟩

/-- slices.Backward[podium/nat.digits,int]$1 -/
noncomputable def C.slices_Backward__natdigits_int_1 : MFunc := ⟨19, 2, [],
 (.seq (.region [
 ⟨some 4, none, .val (.load 1 false (.tmp 1))⟩,
 ⟨some 5, none, .val (.len (.tmp 4))⟩,
 ⟨some 6, none, .val (.bin .sub T.int (.tmp 5) (.const (.int 1)))⟩,
 ⟨some 3, none, .val (.mv (.tmp 6))⟩] [4, 5, 6])
 (.block 0 (.loop (.seq (.seq (.region [
 ⟨some 7, none, .val (.mv (.tmp 3))⟩,
 ⟨some 8, none, .val (.bin .geq T.int (.tmp 7) (.const (.int 0)))⟩] [7])
 (.cond (.tmp 8)
  .skip
 (.exit 0)))
 (.seq (.block 1 (.seq (.region [
 ⟨some 11, none, .val (.mv (.tmp 0))⟩,
 ⟨some 12, none, .val (.mv (.tmp 3))⟩,
 ⟨some 13, none, .val (.load 1 false (.tmp 1))⟩,
 ⟨some 14, none, .val (.mv (.tmp 3))⟩,
 ⟨some 15, none, .val (.indexAddr 1 (.tmp 13) (.tmp 14))⟩,
 ⟨some 16, none, .val (.load 1 false (.tmp 15))⟩,
 ⟨some 17, none, .call (.tmp 11) [(.tmp 12), (.tmp 16)]⟩,
 ⟨some 18, none, .val (.un .not (.tmp 17))⟩] [11, 12, 13, 14, 15, 16, 17])
 (.cond (.tmp 18)
  .ret
  .skip)))
 (.region [
 ⟨some 9, none, .val (.mv (.tmp 3))⟩,
 ⟨some 10, none, .val (.bin .sub T.int (.tmp 9) (.const (.int 1)))⟩,
 ⟨some 3, none, .val (.mv (.tmp 10))⟩] [9, 10]))))))⟩
theorem H.slices_Backward__natdigits_int_1 : Has P F.slices_Backward__natdigits_int_1 C.slices_Backward__natdigits_int_1 := ⟨Try.f102, Try.func102, by kernel_rfl, by kernel_rfl⟩

/-- math/bits.LeadingZeros64 -/
noncomputable def C.math_bits_LeadingZeros64 : MFunc := ⟨6, 1, [.tmp 2],
 (.seq (.region [
 ⟨some 2, none, .val (.mv (.const (.int 0)))⟩] [])
 (.seq (.region [
 ⟨some 3, none, .val (.mv (.tmp 0))⟩,
 ⟨some 4, none, .call (.const (.func (.func F.math_bits_Len64) [] [])) [(.tmp 3)]⟩,
 ⟨some 5, none, .val (.bin .sub T.int (.const (.int 64)) (.tmp 4))⟩,
 ⟨some 2, none, .val (.mv (.tmp 5))⟩] [3, 4, 5])
  .ret))⟩
theorem H.math_bits_LeadingZeros64 : Has P F.math_bits_LeadingZeros64 C.math_bits_LeadingZeros64 := ⟨Try.f103, Try.func103, by kernel_rfl, by kernel_rfl⟩

/-- podium/nat.moved -/
noncomputable def C.nat_moved : MFunc := ⟨10, 2, [.tmp 4],
 (.seq (.region [
 ⟨some 2, none, .box T.natdigits (.tmp 0)⟩,
 ⟨some 3, none, .box T.int (.tmp 1)⟩,
 ⟨some 4, none, .val (.mv (.const .nil))⟩] [])
 (.seq (.region [
 ⟨some 5, none, .val (.load 1 false (.tmp 2))⟩,
 ⟨some 6, none, .val (.len (.tmp 5))⟩,
 ⟨some 7, none, .val (.bin .add T.int (.tmp 6) (.const (.int 1)))⟩,
 ⟨some 8, none, .val (.mkFunc (.func F.nat_moved_1) [] [(.tmp 2), (.tmp 3)])⟩,
 ⟨some 9, none, .call (.const (.func (.func F.nat_carried) [] [])) [(.tmp 7), (.tmp 8)]⟩,
 ⟨some 4, none, .val (.mv (.tmp 9))⟩] [5, 6, 7, 8, 9])
  .ret))⟩
theorem H.nat_moved : Has P F.nat_moved C.nat_moved := ⟨Try.f104, Try.func104, by kernel_rfl, by kernel_rfl⟩

/-- math/bits.Len64 -/
noncomputable def C.math_bits_Len64 : MFunc := ⟨25, 1, [.tmp 2],
 (.seq (.region [
 ⟨some 2, none, .val (.mv (.const (.int 0)))⟩] [])
 (.seq (.seq (.region [
 ⟨some 3, none, .val (.mv (.tmp 0))⟩,
 ⟨some 4, none, .val (.bin .geq T.uint64 (.tmp 3) (.const (.val (.int .u64 4294967296))))⟩] [3])
 (.cond (.tmp 4)
 (.seq (.region [
 ⟨some 5, none, .val (.mv (.tmp 0))⟩,
 ⟨some 6, none, .val (.bin .shr T.uint64 (.tmp 5) (.const (.val (.int .u64 32))))⟩,
 ⟨some 0, none, .val (.mv (.tmp 6))⟩] [5, 6])
 (.region [
 ⟨some 2, none, .val (.mv (.const (.int 32)))⟩] []))
  .skip))
 (.seq (.seq (.region [
 ⟨some 7, none, .val (.mv (.tmp 0))⟩,
 ⟨some 8, none, .val (.bin .geq T.uint64 (.tmp 7) (.const (.val (.int .u64 65536))))⟩] [7])
 (.cond (.tmp 8)
 (.seq (.region [
 ⟨some 9, none, .val (.mv (.tmp 0))⟩,
 ⟨some 10, none, .val (.bin .shr T.uint64 (.tmp 9) (.const (.val (.int .u64 16))))⟩,
 ⟨some 0, none, .val (.mv (.tmp 10))⟩] [9, 10])
 (.region [
 ⟨some 11, none, .val (.mv (.tmp 2))⟩,
 ⟨some 12, none, .val (.bin .add T.int (.tmp 11) (.const (.int 16)))⟩,
 ⟨some 2, none, .val (.mv (.tmp 12))⟩] [11, 12]))
  .skip))
 (.seq (.seq (.region [
 ⟨some 13, none, .val (.mv (.tmp 0))⟩,
 ⟨some 14, none, .val (.bin .geq T.uint64 (.tmp 13) (.const (.val (.int .u64 256))))⟩] [13])
 (.cond (.tmp 14)
 (.seq (.region [
 ⟨some 15, none, .val (.mv (.tmp 0))⟩,
 ⟨some 16, none, .val (.bin .shr T.uint64 (.tmp 15) (.const (.val (.int .u64 8))))⟩,
 ⟨some 0, none, .val (.mv (.tmp 16))⟩] [15, 16])
 (.region [
 ⟨some 17, none, .val (.mv (.tmp 2))⟩,
 ⟨some 18, none, .val (.bin .add T.int (.tmp 17) (.const (.int 8)))⟩,
 ⟨some 2, none, .val (.mv (.tmp 18))⟩] [17, 18]))
  .skip))
 (.seq (.region [
 ⟨some 19, none, .val (.mv (.tmp 2))⟩,
 ⟨some 20, none, .val (.mv (.tmp 0))⟩,
 ⟨some 21, none, .val (.toInt .u8 (.tmp 20))⟩,
 ⟨some 22, none, .val (.indexStr (.const (.val (.string ⟨#[0, 1, 2, 2, 3, 3, 3, 3, 4, 4, 4, 4, 4, 4, 4, 4, 5, 5, 5, 5, 5, 5, 5, 5, 5, 5, 5, 5, 5, 5, 5, 5, 6, 6, 6, 6, 6, 6, 6, 6, 6, 6, 6, 6, 6, 6, 6, 6, 6, 6, 6, 6, 6, 6, 6, 6, 6, 6, 6, 6, 6, 6, 6, 6, 7, 7, 7, 7, 7, 7, 7, 7, 7, 7, 7, 7, 7, 7, 7, 7, 7, 7, 7, 7, 7, 7, 7, 7, 7, 7, 7, 7, 7, 7, 7, 7, 7, 7, 7, 7, 7, 7, 7, 7, 7, 7, 7, 7, 7, 7, 7, 7, 7, 7, 7, 7, 7, 7, 7, 7, 7, 7, 7, 7, 7, 7, 7, 7, 8, 8, 8, 8, 8, 8, 8, 8, 8, 8, 8, 8, 8, 8, 8, 8, 8, 8, 8, 8, 8, 8, 8, 8, 8, 8, 8, 8, 8, 8, 8, 8, 8, 8, 8, 8, 8, 8, 8, 8, 8, 8, 8, 8, 8, 8, 8, 8, 8, 8, 8, 8, 8, 8, 8, 8, 8, 8, 8, 8, 8, 8, 8, 8, 8, 8, 8, 8, 8, 8, 8, 8, 8, 8, 8, 8, 8, 8, 8, 8, 8, 8, 8, 8, 8, 8, 8, 8, 8, 8, 8, 8, 8, 8, 8, 8, 8, 8, 8, 8, 8, 8, 8, 8, 8, 8, 8, 8, 8, 8, 8, 8, 8, 8, 8, 8, 8, 8, 8, 8, 8, 8, 8, 8, 8, 8, 8, 8]⟩))) (.tmp 21))⟩,
 ⟨some 23, none, .val (.toInt .i64 (.tmp 22))⟩,
 ⟨some 24, none, .val (.bin .add T.int (.tmp 19) (.tmp 23))⟩,
 ⟨some 2, none, .val (.mv (.tmp 24))⟩] [19, 20, 21, 22, 23, 24])
  .ret)))))⟩
theorem H.math_bits_Len64 : Has P F.math_bits_Len64 C.math_bits_Len64 := ⟨Try.f105, Try.func105, by kernel_rfl, by kernel_rfl⟩

/-- podium/nat.carried -/
noncomputable def C.nat_carried : MFunc := ⟨31, 2, [.tmp 4],
 (.seq (.region [
 ⟨some 4, none, .val (.mv (.const .nil))⟩] [])
 (.seq (.region [
 ⟨some 9, none, .val (.mv (.tmp 0))⟩,
 ⟨some 10, none, .mkSlice T.int 8 1 [(.int 0)] (.tmp 9) (.tmp 9)⟩,
 ⟨some 5, none, .val (.mv (.tmp 10))⟩,
 ⟨some 6, none, .val (.mv (.const (.int 0)))⟩] [9, 10])
 (.seq (.seq (.region [
 ⟨some 11, none, .val (.mv (.tmp 5))⟩,
 ⟨some 12, none, .val (.len (.tmp 11))⟩,
 ⟨some 13, none, .val (.mv (.const (.int 0)))⟩] [11])
 (.block 0 (.loop (.seq (.region [
 ⟨some 14, none, .val (.bin .lss T.int (.tmp 13) (.tmp 12))⟩] [])
 (.seq (.cond (.tmp 14)
  .skip
 (.exit 0))
 (.seq (.block 1 (.seq (.region [
 ⟨some 15, none, .val (.mv (.tmp 13))⟩,
 ⟨some 7, none, .val (.mv (.tmp 15))⟩] [15])
 (.seq (.region [
 ⟨some 16, none, .val (.mv (.tmp 1))⟩,
 ⟨some 17, none, .val (.mv (.tmp 7))⟩,
 ⟨some 18, none, .call (.tmp 16) [(.tmp 17)]⟩,
 ⟨some 19, none, .val (.mv (.tmp 6))⟩,
 ⟨some 20, none, .val (.bin .add T.int (.tmp 18) (.tmp 19))⟩,
 ⟨some 8, none, .val (.mv (.tmp 20))⟩] [16, 17, 18, 19, 20])
 (.region [
 ⟨some 21, none, .val (.mv (.tmp 5))⟩,
 ⟨some 22, none, .val (.mv (.tmp 7))⟩,
 ⟨some 23, none, .val (.mv (.tmp 8))⟩,
 ⟨some 24, none, .val (.bin .and T.int (.tmp 23) (.const (.int 1073741823)))⟩,
 ⟨some 25, none, .val (.mv (.tmp 8))⟩,
 ⟨some 26, none, .val (.bin .shr T.int (.tmp 25) (.const (.val (.int .u64 30))))⟩,
 ⟨some 27, none, .val (.indexAddr 1 (.tmp 21) (.tmp 22))⟩,
 ⟨none, none, .store 1 (.tmp 27) (.tmp 24)⟩,
 ⟨some 6, none, .val (.mv (.tmp 26))⟩] [21, 22, 23, 24, 25, 26, 27]))))
 (.region [
 ⟨some 28, none, .val (.bin .add T.int (.tmp 13) (.const (.int 1)))⟩,
 ⟨some 13, none, .val (.mv (.tmp 28))⟩] [28])))))))
 (.seq (.region [
 ⟨some 29, none, .val (.mv (.tmp 5))⟩,
 ⟨some 30, none, .call (.const (.func (.func F.nat_trim) [] [])) [(.tmp 29)]⟩,
 ⟨some 4, none, .val (.mv (.tmp 30))⟩] [29, 30])
  .ret))))⟩
theorem H.nat_carried : Has P F.nat_carried C.nat_carried := ⟨Try.f106, Try.func106, by kernel_rfl, by kernel_rfl⟩

/-- podium/nat.moved$1 -/
noncomputable def C.nat_moved_1 : MFunc := ⟨10, 3, [.tmp 4],
 (.seq (.region [
 ⟨some 4, none, .val (.mv (.const (.int 0)))⟩] [])
 (.seq (.draw true [
 (.early, ⟨some 5, none, .val (.load 1 false (.tmp 1))⟩),
 (.early, ⟨some 6, none, .val (.mv (.tmp 0))⟩),
 (.late, ⟨some 8, none, .val (.load 1 false (.tmp 2))⟩),
 (.hard, ⟨some 7, none, .call (.const (.func (.func F.nat_at) [] [])) [(.tmp 5), (.tmp 6)]⟩),
 (.late, ⟨some 9, none, .val (.bin .shl T.int (.tmp 7) (.tmp 8))⟩),
 (.late, ⟨some 4, none, .val (.mv (.tmp 9))⟩)] [5, 6, 7, 8, 9])
  .ret))⟩
theorem H.nat_moved_1 : Has P F.nat_moved_1 C.nat_moved_1 := ⟨Try.f107, Try.func107, by kernel_rfl, by kernel_rfl⟩

/-- podium/nat.at -/
noncomputable def C.nat_at : MFunc := ⟨13, 2, [.tmp 4],
 (.seq (.region [
 ⟨some 4, none, .val (.mv (.const (.int 0)))⟩] [])
 (.seq (.seq (.region [
 ⟨some 5, none, .val (.mv (.tmp 1))⟩,
 ⟨some 6, none, .val (.mv (.tmp 0))⟩,
 ⟨some 7, none, .val (.len (.tmp 6))⟩,
 ⟨some 8, none, .val (.bin .lss T.int (.tmp 5) (.tmp 7))⟩] [5, 6, 7])
 (.cond (.tmp 8)
 (.seq (.region [
 ⟨some 9, none, .val (.mv (.tmp 0))⟩,
 ⟨some 10, none, .val (.mv (.tmp 1))⟩,
 ⟨some 11, none, .val (.indexAddr 1 (.tmp 9) (.tmp 10))⟩,
 ⟨some 12, none, .val (.load 1 false (.tmp 11))⟩,
 ⟨some 4, none, .val (.mv (.tmp 12))⟩] [9, 10, 11, 12])
  .ret)
  .skip))
 (.seq (.region [
 ⟨some 4, none, .val (.mv (.const (.int 0)))⟩] [])
  .ret)))⟩
theorem H.nat_at : Has P F.nat_at C.nat_at := ⟨Try.f108, Try.func108, by kernel_rfl, by kernel_rfl⟩

end Go.Proofs.Ytgjgcflgjpigpaa
