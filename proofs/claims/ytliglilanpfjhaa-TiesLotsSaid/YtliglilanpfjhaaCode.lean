/- The compact code of this seat's functions (printed by a program of ours out of the translation; each is checked against the loaded program). -/
import Derived.Test.YtliglilanpfjhaaProg
import Derived.Test.YtliglilanpfjhaaLRd
set_option maxRecDepth 100000
namespace Go.Proofs.Ytliglilanpfjhaa
open Go.Pv

noncomputable abbrev P : Program := Try.prog
theorem hmix : P.follows .mixedOrders = true := by kernel_rfl

namespace T
abbrev t : Nat := 0
abbrev func : Nat := 1
abbrev int64 : Nat := 2
abbrev int : Nat := 3
abbrev bool : Nat := 4
abbrev uint8 : Nat := 5
abbrev internalabiBoundsErrorCode : Nat := 6
abbrev structxint64yintsignedboolcodeabiBoundsErrorCode : Nat := 7
abbrev runtimeboundsError : Nat := 8
abbrev string : Nat := 9
abbrev runtimeerrorString : Nat := 10
abbrev runtimeplainError : Nat := 11
abbrev uintptr : Nat := 12
abbrev structmsgstringaddruintptr : Nat := 13
abbrev runtimeerrorAddressString : Nat := 14
abbrev runtimeTypeAssertionError : Nat := 15
abbrev runtimePanicNilError : Nat := 16
abbrev abiType : Nat := 17
abbrev structtypabiType : Nat := 18
abbrev internalruntimemapsunhashableTypeError : Nat := 19
abbrev interface : Nat := 20
abbrev int32 : Nat := 21
abbrev LapiKey : Nat := 22
abbrev Lint : Nat := 23
abbrev structNegboolMagLint : Nat := 24
abbrev apiBig : Nat := 25
abbrev structNumapiBigDenapiBig : Nat := 26
abbrev apiRatio : Nat := 27
abbrev LapiRatio : Nat := 28
abbrev structEntryintScoreapiRatioTotalsLapiRatioPrevLapiRatioHighintBonusintLotint : Nat := 29
abbrev apiKeyed : Nat := 30
abbrev funcbool : Nat := 31
abbrev funcLapiKeyapiKeyedbool : Nat := 32
abbrev apiErrno : Nat := 33
abbrev intintapiErrno : Nat := 34
abbrev funcLapiKeyapiKeyedapiKeyedintintapiErrno : Nat := 35
abbrev funcLapiKeyapiKeyedapiKeyedapiKeyedbool : Nat := 36
abbrev LapiKeyed : Nat := 37
abbrev LintapiErrno : Nat := 38
abbrev funcLapiKeyLapiKeyedLintapiErrno : Nat := 39
abbrev Lbool : Nat := 40
abbrev funcLapiKeyLapiKeyedbool : Nat := 41
abbrev funcLapiKeyLapiKeyapiKeyedapiKeyedbool : Nat := 42
abbrev structKindintNamestringNint : Nat := 43
abbrev apiKey : Nat := 44
abbrev funcLapiKeyapiKeyedapiKeyedbool : Nat := 45
abbrev funcintintintintapiKeyed : Nat := 46
abbrev structkeysLapiKeyaapiKeyedbapiKeyedcintbyint : Nat := 47
abbrev LstructkeysLapiKeyaapiKeyedbapiKeyedcintbyint : Nat := 48
abbrev funcLintLintbool : Nat := 49
abbrev funcLapiKeyapiKeyedbool_2 : Nat := 50
abbrev funcLapiKeybool : Nat := 51
abbrev LfuncapiKeyedbool : Nat := 52
abbrev LfuncapiKeyedapiKeyedint : Nat := 53
abbrev structhasLfuncapiKeyedboolfirstLfuncapiKeyedapiKeyedint : Nat := 54
abbrev tiesorder : Nat := 55
abbrev tiesorderbool : Nat := 56
abbrev funcLapiKeytiesorderbool : Nat := 57
abbrev funcapiKeyedbool : Nat := 58
abbrev intint : Nat := 59
abbrev funcapiKeyedapiKeyedintint : Nat := 60
abbrev funcLapiKeyedfuncapiKeyedboolbool : Nat := 61
abbrev funcLintfuncintintint : Nat := 62
abbrev funcintintint : Nat := 63
abbrev structtiesorderlLapiKeyed : Nat := 64
abbrev tiessorter : Nat := 65
abbrev funcintapiRatio : Nat := 66
abbrev funcapiRatiobool : Nat := 67
abbrev funcapiRatiointbool : Nat := 68
abbrev funcapiRatioapiRatioint : Nat := 69
abbrev funcapiKeyedapiKeyedint : Nat := 70
abbrev mapinttieskind : Nat := 71
abbrev funcmapinttieskind : Nat := 72
abbrev funcapiKeyapiKeyedbool : Nat := 73
abbrev funcapiKeyapiKeyedapiKeyedint : Nat := 74
abbrev structhasfuncapiKeyapiKeyedboolfirstfuncapiKeyapiKeyedapiKeyedint : Nat := 75
abbrev tieskind : Nat := 76
abbrev tieskindbool : Nat := 77
abbrev funcLapiRatiofuncapiRatioboolbool : Nat := 78
abbrev funcLapiKeyedfuncapiKeyedboolint : Nat := 79
abbrev funcLintintfuncintintint : Nat := 80
abbrev funcintint : Nat := 81
abbrev funcintapiBig : Nat := 82
abbrev funcapiRatioapiErrno : Nat := 83
abbrev funcapiBigintbool : Nat := 84
abbrev intapiErrno : Nat := 85
abbrev funcapiRatioapiRatiointapiErrno : Nat := 86
abbrev funcapiKeyedLapiRatio : Nat := 87
abbrev funcfuncapiKeyedLapiRatiotieskind : Nat := 88
abbrev funcLapiRatiofuncapiRatioboolint : Nat := 89
abbrev funcLintintintfuncintintint : Nat := 90
abbrev funcLintintintintfuncintintint : Nat := 91
abbrev funcintbool : Nat := 92
abbrev funcapiBigapiErrno : Nat := 93
abbrev funcapiBigbool : Nat := 94
abbrev apiBigapiErrno : Nat := 95
abbrev funcapiBigapiBigapiBigapiErrno : Nat := 96
abbrev funcapiBigapiBigintapiErrno : Nat := 97
abbrev funcapiErrno : Nat := 98
abbrev apiErrno_2 : Nat := 99
abbrev funcapiRatio : Nat := 100
abbrev LapiBig : Nat := 101
abbrev funcapiBigLapiBig : Nat := 102
abbrev funcintapiErrnoint : Nat := 103
abbrev uint : Nat := 104
abbrev funcapiBigapiBigapiErrno : Nat := 105
abbrev LintLint : Nat := 106
abbrev funcLintLintLintLint : Nat := 107
abbrev funcboolLintapiBigapiErrno : Nat := 108
abbrev funcLintLintint : Nat := 109
abbrev funcboolapiErrno : Nat := 110
abbrev funcapiBigapiErrnoapiBig : Nat := 111
abbrev funcapiBig : Nat := 112
abbrev funcnatdigitsnatdigitsint : Nat := 113
abbrev funcLintfuncintboolbool : Nat := 114
abbrev natdigits : Nat := 115
abbrev natdigitsnatdigits : Nat := 116
abbrev funcnatdigitsnatdigitsnatdigitsnatdigits : Nat := 117
abbrev funcboolnatdigitsapiBig : Nat := 118
abbrev funcLintLint : Nat := 119
abbrev funcLintLintLint : Nat := 120
abbrev funcnatdigitsnatdigitsnatdigits : Nat := 121
abbrev apiErrnobool : Nat := 122
abbrev funcfuncintintbool : Nat := 123
abbrev iterSeq2intint : Nat := 124
abbrev funcnatdigitsiterSeq2intint : Nat := 125
abbrev funcLintfuncintboolint : Nat := 126
abbrev natdigitsint : Nat := 127
abbrev funcnatdigitsintnatdigitsint : Nat := 128
abbrev funcnatdigitsnatdigits : Nat := 129
abbrev funcLintintint : Nat := 130
abbrev funcuint64int : Nat := 131
abbrev uint64 : Nat := 132
abbrev funcnatdigitsintnatdigits : Nat := 133
abbrev funcintintbool : Nat := 134
abbrev funcintfuncintintnatdigits : Nat := 135
abbrev funcnatdigitsintint : Nat := 136
abbrev funcintint_2 : Nat := 137
abbrev funcstring : Nat := 138
abbrev structinterfaceabiTypeconcreteabiTypeassertedabiTypemissingMethodstring : Nat := 139
abbrev runtimeTypeAssertionError_2 : Nat := 140
abbrev t0runtimePanicNilError : Nat := 141
abbrev struct0runtimePanicNilError : Nat := 142
abbrev runtimePanicNilError_2 : Nat := 143
abbrev funcint : Nat := 144
abbrev uint32 : Nat := 145
abbrev internalabiTFlag : Nat := 146
abbrev internalabiKind : Nat := 147
abbrev funcunsafePointerunsafePointerbool : Nat := 148
abbrev uint8_2 : Nat := 149
abbrev internalabiNameOff : Nat := 150
abbrev internalabiTypeOff : Nat := 151
abbrev structSizeuintptrPtrBytesuintptrHashuint32TFlagabiTFlagAlignuint8FieldAlignuint8KindabiKindEqualfuncunsafePointerunsafePointerboolGCDatauint8StrabiNameOffPtrToThisabiTypeOff : Nat := 152
abbrev internalabiType : Nat := 153
abbrev unsafePointer : Nat := 154
end T
namespace F
abbrev podiumlaw21_TiesOrder : Nat := 3
abbrev podiumlaw21_TiesSort : Nat := 4
abbrev podiumlaw21_TiesFurther : Nat := 5
abbrev podiumlaw21_TiesLots : Nat := 6
abbrev podiumlaw21_sane : Nat := 7
abbrev podiumlaw21_right : Nat := 8
abbrev ties_Compare : Nat := 9
abbrev ties_Sort : Nat := 10
abbrev podiumlaw21_keyed : Nat := 11
abbrev podiumref13_SameInts : Nat := 12
abbrev podiumref21_Right : Nat := 13
abbrev podiumref21_Plain : Nat := 14
abbrev podiumref21_Few : Nat := 15
abbrev ties_plain : Nat := 16
abbrev ties_order_wrong : Nat := 17
abbrev ties_order_compare : Nat := 18
abbrev slices_ContainsFunc__LapiKeyed_apiKeyed : Nat := 19
abbrev slices_SortStableFunc__Lint_int : Nat := 20
abbrev ties_sorter_before : Nat := 21
abbrev podiumref10_Int : Nat := 22
abbrev podiumref21_few : Nat := 23
abbrev podiumref10_Few : Nat := 24
abbrev ties_plain_1 : Nat := 25
abbrev ties_greater : Nat := 26
abbrev ties_kinds : Nat := 27
abbrev ties_plain_2 : Nat := 28
abbrev ties_plain_3 : Nat := 29
abbrev ties_odd : Nat := 30
abbrev slices_ContainsFunc__LapiRatio_apiRatio : Nat := 31
abbrev slices_IndexFunc__LapiKeyed_apiKeyed : Nat := 32
abbrev slices_stableCmpFunc__int : Nat := 33
abbrev cmp_Or__int : Nat := 34
abbrev cmp_Compare__int : Nat := 35
abbrev podiumref09_Make : Nat := 36
abbrev podiumref10_Check : Nat := 37
abbrev podiumref10_FewBig : Nat := 38
abbrev ratio_Cmp : Nat := 39
abbrev ties_kinds_1 : Nat := 40
abbrev ties_kinds_2 : Nat := 41
abbrev ties_kinds_2_1 : Nat := 42
abbrev ties_kinds_2_2 : Nat := 43
abbrev ties_kinds_3 : Nat := 44
abbrev ties_kinds_4 : Nat := 45
abbrev ties_kinds_5 : Nat := 46
abbrev ties_kinds_6 : Nat := 47
abbrev ties_kinds_7 : Nat := 48
abbrev ratio_Check : Nat := 49
abbrev slices_IndexFunc__LapiRatio_apiRatio : Nat := 50
abbrev slices_insertionSortCmpFunc__int : Nat := 51
abbrev slices_symMergeCmpFunc__int : Nat := 52
abbrev cmp_isNaN__int : Nat := 53
abbrev podiumref09_Check : Nat := 54
abbrev podiumref10_zero : Nat := 55
abbrev podiumref09_Gcd : Nat := 56
abbrev podiumref09_Cmp : Nat := 57
abbrev ratio_caught : Nat := 58
abbrev ratio_valid : Nat := 59
abbrev ratio_products : Nat := 60
abbrev ratio_did__int : Nat := 61
abbrev nat_Cmp : Nat := 62
abbrev nat_Check : Nat := 63
abbrev ratio_positive : Nat := 64
abbrev nat_Gcd : Nat := 65
abbrev slices_rotateCmpFunc__int : Nat := 66
abbrev podiumref09_two : Nat := 67
abbrev podiumref09_divide : Nat := 68
abbrev podiumref09_of : Nat := 69
abbrev podiumref09_cmp : Nat := 70
abbrev ratio_need : Nat := 71
abbrev ratio_did__apiBig : Nat := 72
abbrev nat_Mul : Nat := 73
abbrev nat_caught : Nat := 74
abbrev nat_check : Nat := 75
abbrev nat_compare : Nat := 76
abbrev nat_Check_1 : Nat := 77
abbrev slices_ContainsFunc__Lint_int : Nat := 78
abbrev nat_div : Nat := 79
abbrev nat_big : Nat := 80
abbrev slices_swapRangeCmpFunc__int : Nat := 81
abbrev podiumref09_trim : Nat := 82
abbrev podiumref09_times : Nat := 83
abbrev podiumref09_less : Nat := 84
abbrev nat_mul : Nat := 85
abbrev nat_down : Nat := 86
abbrev slices_IndexFunc__Lint_int : Nat := 87
abbrev nat_short : Nat := 88
abbrev nat_trim : Nat := 89
abbrev nat_long : Nat := 90
abbrev podiumref09_digit : Nat := 91
abbrev slices_Backward__natdigits_int : Nat := 92
abbrev math_bits_LeadingZeros64 : Nat := 93
abbrev nat_moved : Nat := 94
abbrev slices_Backward__natdigits_int_1 : Nat := 95
abbrev math_bits_Len64 : Nat := 96
abbrev nat_carried : Nat := 97
abbrev nat_moved_1 : Nat := 98
abbrev nat_at : Nat := 99
end F

/-- podium/podiumlaw21.sane -/
noncomputable def C.podiumlaw21_sane : MFunc := ⟨141, 0, [.tmp 0],
 (.seq (.region [
 ⟨some 0, none, .val (.mv (.const (.bool false)))⟩] [])
 (.seq (.region [
 ⟨some 20, none, .val (.build [(.int 0), (.val (.string ⟨#[]⟩)), (.int 0)] [(0, 1, (.const (.int 3)))])⟩,
 ⟨some 21, none, .val (.build [(.int 0), (.val (.string ⟨#[]⟩)), (.int 0)] [(0, 1, (.const (.int 6)))])⟩,
 ⟨some 22, none, .val (.buildSlice T.apiKey 2 [(.int 0), (.val (.string ⟨#[]⟩)), (.int 0), (.int 0), (.val (.string ⟨#[]⟩)), (.int 0)] [(0, 3, (.tmp 20)), (3, 3, (.tmp 21))])⟩,
 ⟨some 1, none, .val (.mv (.tmp 22))⟩] [20, 21, 22])
 (.seq (.seq (.region [
 ⟨some 23, none, .call (.const (.func (.func F.podiumlaw21_keyed) [] [])) [(.const (.int 0)), (.const (.int 3)), (.const (.int 0)), (.const (.int 0))]⟩,
 ⟨some 24, none, .call (.const (.func (.func F.podiumlaw21_keyed) [] [])) [(.const (.int 1)), (.const (.int 2)), (.const (.int 9)), (.const (.int 0))]⟩,
 ⟨some 25, none, .val (.build [.nil, (.int 0), (.bool false), .nil, (.bool false), .nil, .nil, .nil, (.int 0), (.int 0), (.int 0), (.int 0), (.bool false), .nil, (.bool false), .nil, .nil, .nil, (.int 0), (.int 0), (.int 0), (.int 0), (.int 0)] [(0, 1, (.const .nil)), (1, 10, (.tmp 23)), (11, 10, (.tmp 24)), (21, 1, (.const (.int (-1)))), (22, 1, (.const (.int 0)))])⟩,
 ⟨some 26, none, .call (.const (.func (.func F.podiumlaw21_keyed) [] [])) [(.const (.int 0)), (.const (.int 3)), (.const (.int 0)), (.const (.int 0))]⟩,
 ⟨some 27, none, .call (.const (.func (.func F.podiumlaw21_keyed) [] [])) [(.const (.int 1)), (.const (.int 3)), (.const (.int 9)), (.const (.int 0))]⟩,
 ⟨some 28, none, .val (.build [.nil, (.int 0), (.bool false), .nil, (.bool false), .nil, .nil, .nil, (.int 0), (.int 0), (.int 0), (.int 0), (.bool false), .nil, (.bool false), .nil, .nil, .nil, (.int 0), (.int 0), (.int 0), (.int 0), (.int 0)] [(0, 1, (.const .nil)), (1, 10, (.tmp 26)), (11, 10, (.tmp 27)), (21, 1, (.const (.int 0))), (22, 1, (.const (.int (-1))))])⟩,
 ⟨some 29, none, .val (.mv (.tmp 1))⟩,
 ⟨some 30, none, .call (.const (.func (.func F.podiumlaw21_keyed) [] [])) [(.const (.int 0)), (.const (.int 3)), (.const (.int 7)), (.const (.int 0))]⟩,
 ⟨some 31, none, .call (.const (.func (.func F.podiumlaw21_keyed) [] [])) [(.const (.int 1)), (.const (.int 3)), (.const (.int 9)), (.const (.int 5))]⟩,
 ⟨some 32, none, .val (.build [.nil, (.int 0), (.bool false), .nil, (.bool false), .nil, .nil, .nil, (.int 0), (.int 0), (.int 0), (.int 0), (.bool false), .nil, (.bool false), .nil, .nil, .nil, (.int 0), (.int 0), (.int 0), (.int 0), (.int 0)] [(0, 1, (.tmp 29)), (1, 10, (.tmp 30)), (11, 10, (.tmp 31)), (21, 1, (.const (.int 1))), (22, 1, (.const (.int 1)))])⟩,
 ⟨some 33, none, .val (.mv (.tmp 1))⟩,
 ⟨some 34, none, .call (.const (.func (.func F.podiumlaw21_keyed) [] [])) [(.const (.int 0)), (.const (.int 3)), (.const (.int 7)), (.const (.int 4))]⟩,
 ⟨some 35, none, .call (.const (.func (.func F.podiumlaw21_keyed) [] [])) [(.const (.int 1)), (.const (.int 3)), (.const (.int 7)), (.const (.int 5))]⟩,
 ⟨some 36, none, .val (.build [.nil, (.int 0), (.bool false), .nil, (.bool false), .nil, .nil, .nil, (.int 0), (.int 0), (.int 0), (.int 0), (.bool false), .nil, (.bool false), .nil, .nil, .nil, (.int 0), (.int 0), (.int 0), (.int 0), (.int 0)] [(0, 1, (.tmp 33)), (1, 10, (.tmp 34)), (11, 10, (.tmp 35)), (21, 1, (.const (.int (-1)))), (22, 1, (.const (.int 2)))])⟩,
 ⟨some 37, none, .val (.mv (.tmp 1))⟩,
 ⟨some 38, none, .call (.const (.func (.func F.podiumlaw21_keyed) [] [])) [(.const (.int 0)), (.const (.int 3)), (.const (.int 7)), (.const (.int 5))]⟩,
 ⟨some 39, none, .call (.const (.func (.func F.podiumlaw21_keyed) [] [])) [(.const (.int 1)), (.const (.int 3)), (.const (.int 7)), (.const (.int 5))]⟩,
 ⟨some 40, none, .val (.build [.nil, (.int 0), (.bool false), .nil, (.bool false), .nil, .nil, .nil, (.int 0), (.int 0), (.int 0), (.int 0), (.bool false), .nil, (.bool false), .nil, .nil, .nil, (.int 0), (.int 0), (.int 0), (.int 0), (.int 0)] [(0, 1, (.tmp 37)), (1, 10, (.tmp 38)), (11, 10, (.tmp 39)), (21, 1, (.const (.int 0))), (22, 1, (.const (.int (-1))))])⟩,
 ⟨some 41, none, .val (.buildSlice T.structkeysLapiKeyaapiKeyedbapiKeyedcintbyint 5 (.nil :: (.int 0) :: (.bool false) :: .nil :: (.bool false) :: .nil :: .nil :: .nil :: (.int 0) :: (.int 0) :: (.int 0) :: (.int 0) :: (.bool false) :: .nil :: (.bool false) :: .nil :: .nil :: .nil :: (.int 0) :: (.int 0) :: (.int 0) :: (.int 0) :: (.int 0) :: .nil :: (.int 0) :: (.bool false) :: .nil :: (.bool false) :: .nil :: .nil :: .nil :: (.int 0) :: (.int 0) :: (.int 0) :: (.int 0) :: (.bool false) :: .nil :: (.bool false) :: .nil :: .nil :: .nil :: (.int 0) :: (.int 0) :: (.int 0) :: (.int 0) :: (.int 0) :: .nil :: (.int 0) :: (.bool false) :: .nil :: (.bool false) :: .nil :: .nil :: .nil :: (.int 0) :: (.int 0) :: (.int 0) :: (.int 0) :: (.bool false) :: .nil :: (.bool false) :: .nil :: .nil :: .nil :: (.int 0) :: (.int 0) :: (.int 0) :: (.int 0) :: (.int 0) :: .nil :: (.int 0) :: (.bool false) :: .nil :: (.bool false) :: .nil :: .nil :: .nil :: (.int 0) :: (.int 0) :: (.int 0) :: (.int 0) :: (.bool false) :: .nil :: (.bool false) :: .nil :: .nil :: .nil :: (.int 0) :: (.int 0) :: (.int 0) :: (.int 0) :: (.int 0) :: .nil :: (.int 0) :: (.bool false) :: .nil :: (.bool false) :: .nil :: .nil :: .nil :: (.int 0) :: (.int 0) :: (.int 0) :: (.int 0) :: (.bool false) :: .nil :: (.bool false) :: .nil :: .nil :: .nil :: (.int 0) :: (.int 0) :: (.int 0) :: (.int 0) :: (.int 0) :: []) [(0, 23, (.tmp 25)), (23, 23, (.tmp 28)), (46, 23, (.tmp 32)), (69, 23, (.tmp 36)), (92, 23, (.tmp 40))])⟩,
 ⟨some 42, none, .val (.len (.tmp 41))⟩,
 ⟨some 43, none, .val (.mv (.const (.int 0)))⟩] [23, 24, 25, 26, 27, 28, 29, 30, 31, 32, 33, 34, 35, 36, 37, 38, 39, 40])
 (.block 0 (.loop (.seq (.region [
 ⟨some 44, none, .val (.bin .lss T.int (.tmp 43) (.tmp 42))⟩] [])
 (.seq (.cond (.tmp 44)
  .skip
 (.exit 0))
 (.seq (.block 1 (.seq (.region [
 ⟨some 45, none, .val (.indexAddr 23 (.tmp 41) (.tmp 43))⟩,
 ⟨some 46, none, .val (.load 23 true (.tmp 45))⟩,
 ⟨some 3, none, .alloc T.structkeysLapiKeyaapiKeyedbapiKeyedcintbyint [.nil, (.int 0), (.bool false), .nil, (.bool false), .nil, .nil, .nil, (.int 0), (.int 0), (.int 0), (.int 0), (.bool false), .nil, (.bool false), .nil, .nil, .nil, (.int 0), (.int 0), (.int 0), (.int 0), (.int 0)]⟩,
 ⟨none, none, .store 23 (.tmp 3) (.tmp 46)⟩] [45, 46])
 (.seq (.region [
 ⟨some 48, none, .val (.fieldAddr 0 (.tmp 3))⟩,
 ⟨some 49, none, .val (.load 1 false (.tmp 48))⟩,
 ⟨some 50, none, .val (.fieldAddr 1 (.tmp 3))⟩,
 ⟨some 51, none, .val (.load 10 true (.tmp 50))⟩,
 ⟨some 52, none, .val (.fieldAddr 11 (.tmp 3))⟩,
 ⟨some 53, none, .val (.load 10 true (.tmp 52))⟩,
 ⟨some 54, none, .call (.const (.func (.func F.ties_Compare) [] [])) [(.tmp 49), (.tmp 51), (.tmp 53)]⟩,
 ⟨some 47, none, .val (.mv (.tmp 54))⟩,
 ⟨some 55, none, .val (.extract 0 (.tmp 47))⟩,
 ⟨some 56, none, .val (.extract 1 (.tmp 47))⟩,
 ⟨some 57, none, .val (.extract 2 (.tmp 47))⟩,
 ⟨some 4, none, .val (.mv (.tmp 55))⟩,
 ⟨some 5, none, .val (.mv (.tmp 56))⟩,
 ⟨some 6, none, .val (.mv (.tmp 57))⟩] [48, 49, 50, 51, 52, 53, 54, 47, 55, 56, 57])
 (.seq (.region [
 ⟨some 58, none, .val (.mv (.tmp 4))⟩,
 ⟨some 59, none, .val (.fieldAddr 21 (.tmp 3))⟩,
 ⟨some 60, none, .val (.load 1 false (.tmp 59))⟩,
 ⟨some 61, none, .val (.bin .neq T.int (.tmp 58) (.tmp 60))⟩,
 ⟨some 62, none, .val (.mv (.tmp 61))⟩,
 ⟨some 63, some (62, false), .val (.mv (.tmp 5))⟩,
 ⟨some 64, some (62, false), .val (.fieldAddr 22 (.tmp 3))⟩,
 ⟨some 65, some (62, false), .val (.load 1 false (.tmp 64))⟩,
 ⟨some 66, some (62, false), .val (.bin .neq T.int (.tmp 63) (.tmp 65))⟩,
 ⟨some 67, none, .val (.pick (.tmp 62) (.const (.bool true)) (.tmp 66))⟩,
 ⟨some 68, none, .val (.mv (.tmp 67))⟩,
 ⟨some 69, some (68, false), .val (.mv (.tmp 6))⟩,
 ⟨some 70, some (68, false), .val (.bin .neq T.apiErrno (.tmp 69) (.const (.int 0)))⟩,
 ⟨some 71, none, .val (.pick (.tmp 68) (.const (.bool true)) (.tmp 70))⟩] [58, 59, 60, 61, 62, 63, 64, 65, 66, 67, 68, 69, 70])
 (.cond (.tmp 71)
 (.seq (.region [
 ⟨some 0, none, .val (.mv (.const (.bool false)))⟩] [])
  .ret)
  .skip)))))
 (.region [
 ⟨some 72, none, .val (.bin .add T.int (.tmp 43) (.const (.int 1)))⟩,
 ⟨some 43, none, .val (.mv (.tmp 72))⟩] [72])))))))
 (.seq (.region [
 ⟨some 74, none, .val (.build [(.int 0), (.val (.string ⟨#[]⟩)), (.int 0)] [(0, 1, (.const (.int 5)))])⟩,
 ⟨some 75, none, .val (.buildSlice T.apiKey 1 [(.int 0), (.val (.string ⟨#[]⟩)), (.int 0)] [(0, 3, (.tmp 74))])⟩,
 ⟨some 76, none, .call (.const (.func (.func F.podiumlaw21_keyed) [] [])) [(.const (.int 0)), (.const (.int 1)), (.const (.int 1)), (.const (.int 1))]⟩,
 ⟨some 77, none, .call (.const (.func (.func F.podiumlaw21_keyed) [] [])) [(.const (.int 1)), (.const (.int 1)), (.const (.int 1)), (.const (.int 1))]⟩,
 ⟨some 78, none, .call (.const (.func (.func F.ties_Compare) [] [])) [(.tmp 75), (.tmp 76), (.tmp 77)]⟩,
 ⟨some 73, none, .val (.mv (.tmp 78))⟩,
 ⟨some 79, none, .val (.extract 0 (.tmp 73))⟩,
 ⟨some 80, none, .val (.extract 1 (.tmp 73))⟩,
 ⟨some 81, none, .val (.extract 2 (.tmp 73))⟩,
 ⟨some 7, none, .val (.mv (.tmp 79))⟩,
 ⟨some 8, none, .val (.mv (.tmp 80))⟩,
 ⟨some 9, none, .val (.mv (.tmp 81))⟩] [74, 75, 76, 77, 78, 73, 79, 80, 81, 7, 8])
 (.seq (.region [
 ⟨some 83, none, .val (.build [(.int 0), (.val (.string ⟨#[]⟩)), (.int 0)] [(0, 1, (.const (.int 1)))])⟩,
 ⟨some 84, none, .val (.buildSlice T.apiKey 1 [(.int 0), (.val (.string ⟨#[]⟩)), (.int 0)] [(0, 3, (.tmp 83))])⟩,
 ⟨some 85, none, .call (.const (.func (.func F.podiumlaw21_keyed) [] [])) [(.const (.int 0)), (.const (.int 1)), (.const (.int 1)), (.const (.int 1))]⟩,
 ⟨some 86, none, .call (.const (.func (.func F.podiumlaw21_keyed) [] [])) [(.const (.int 1)), (.const (.int 1)), (.const (.int 1)), (.const (.int 1))]⟩,
 ⟨some 87, none, .call (.const (.func (.func F.ties_Compare) [] [])) [(.tmp 84), (.tmp 85), (.tmp 86)]⟩,
 ⟨some 82, none, .val (.mv (.tmp 87))⟩,
 ⟨some 88, none, .val (.extract 0 (.tmp 82))⟩,
 ⟨some 89, none, .val (.extract 1 (.tmp 82))⟩,
 ⟨some 90, none, .val (.extract 2 (.tmp 82))⟩,
 ⟨some 10, none, .val (.mv (.tmp 88))⟩,
 ⟨some 11, none, .val (.mv (.tmp 89))⟩,
 ⟨some 12, none, .val (.mv (.tmp 90))⟩] [83, 84, 85, 86, 87, 82, 88, 89, 90, 10, 11])
 (.seq (.region [
 ⟨some 92, none, .val (.build [(.int 0), (.bool false), .nil, (.bool false), .nil, .nil, .nil, (.int 0), (.int 0), (.int 0)] [])⟩,
 ⟨some 93, none, .call (.const (.func (.func F.podiumlaw21_keyed) [] [])) [(.const (.int 1)), (.const (.int 1)), (.const (.int 1)), (.const (.int 1))]⟩,
 ⟨some 94, none, .call (.const (.func (.func F.ties_Compare) [] [])) [(.const .nil), (.tmp 92), (.tmp 93)]⟩,
 ⟨some 91, none, .val (.mv (.tmp 94))⟩,
 ⟨some 95, none, .val (.extract 0 (.tmp 91))⟩,
 ⟨some 96, none, .val (.extract 1 (.tmp 91))⟩,
 ⟨some 97, none, .val (.extract 2 (.tmp 91))⟩,
 ⟨some 13, none, .val (.mv (.tmp 95))⟩,
 ⟨some 14, none, .val (.mv (.tmp 96))⟩,
 ⟨some 15, none, .val (.mv (.tmp 97))⟩] [92, 93, 94, 91, 95, 96, 97, 13, 14])
 (.seq (.draw true [
 (.late, ⟨some 99, none, .val (.mv (.tmp 1))⟩),
 (.late, ⟨some 100, none, .val (.slice 3 (.tmp 99) none (some (.const (.int 1))) none)⟩),
 (.hard, ⟨some 101, none, .call (.const (.func (.func F.podiumlaw21_keyed) [] [])) [(.const (.int 5)), (.const (.int 1)), (.const (.int 3)), (.const (.int 0))]⟩),
 (.hard, ⟨some 102, none, .call (.const (.func (.func F.podiumlaw21_keyed) [] [])) [(.const (.int 4)), (.const (.int 1)), (.const (.int 3)), (.const (.int 0))]⟩),
 (.hard, ⟨some 103, none, .call (.const (.func (.func F.podiumlaw21_keyed) [] [])) [(.const (.int 3)), (.const (.int 2)), (.const (.int 1)), (.const (.int 0))]⟩),
 (.hard, ⟨some 104, none, .call (.const (.func (.func F.podiumlaw21_keyed) [] [])) [(.const (.int 2)), (.const (.int 1)), (.const (.int 8)), (.const (.int 0))]⟩),
 (.late, ⟨some 105, none, .val (.buildSlice T.apiKeyed 4 ((.int 0) :: (.bool false) :: .nil :: (.bool false) :: .nil :: .nil :: .nil :: (.int 0) :: (.int 0) :: (.int 0) :: (.int 0) :: (.bool false) :: .nil :: (.bool false) :: .nil :: .nil :: .nil :: (.int 0) :: (.int 0) :: (.int 0) :: (.int 0) :: (.bool false) :: .nil :: (.bool false) :: .nil :: .nil :: .nil :: (.int 0) :: (.int 0) :: (.int 0) :: (.int 0) :: (.bool false) :: .nil :: (.bool false) :: .nil :: .nil :: .nil :: (.int 0) :: (.int 0) :: (.int 0) :: []) [(0, 10, (.tmp 101)), (10, 10, (.tmp 102)), (20, 10, (.tmp 103)), (30, 10, (.tmp 104))])⟩),
 (.hard, ⟨some 106, none, .call (.const (.func (.func F.ties_Sort) [] [])) [(.tmp 100), (.tmp 105)]⟩),
 (.late, ⟨some 98, none, .val (.mv (.tmp 106))⟩),
 (.late, ⟨some 107, none, .val (.extract 0 (.tmp 98))⟩),
 (.late, ⟨some 108, none, .val (.extract 1 (.tmp 98))⟩),
 (.late, ⟨some 16, none, .val (.mv (.tmp 107))⟩),
 (.late, ⟨some 17, none, .val (.mv (.tmp 108))⟩)] [99, 100, 101, 102, 103, 104, 105, 106, 98, 107, 108])
 (.seq (.region [
 ⟨some 110, none, .call (.const (.func (.func F.ties_Sort) [] [])) [(.const .nil), (.const .nil)]⟩,
 ⟨some 109, none, .val (.mv (.tmp 110))⟩,
 ⟨some 111, none, .val (.extract 0 (.tmp 109))⟩,
 ⟨some 112, none, .val (.extract 1 (.tmp 109))⟩,
 ⟨some 18, none, .val (.mv (.tmp 111))⟩,
 ⟨some 19, none, .val (.mv (.tmp 112))⟩] [110, 109, 111, 112])
 (.seq (.region [
 ⟨some 113, none, .val (.mv (.tmp 9))⟩,
 ⟨some 114, none, .val (.bin .eql T.apiErrno (.tmp 113) (.const (.int 210)))⟩,
 ⟨some 115, none, .val (.mv (.tmp 114))⟩,
 ⟨some 116, some (115, true), .val (.mv (.tmp 12))⟩,
 ⟨some 117, some (115, true), .val (.bin .eql T.apiErrno (.tmp 116) (.const (.int 210)))⟩,
 ⟨some 118, none, .val (.pick (.tmp 115) (.tmp 117) (.const (.bool false)))⟩,
 ⟨some 119, none, .val (.mv (.tmp 118))⟩,
 ⟨some 120, some (119, true), .val (.mv (.tmp 15))⟩,
 ⟨some 121, some (119, true), .val (.bin .eql T.apiErrno (.tmp 120) (.const (.int 210)))⟩,
 ⟨some 122, none, .val (.pick (.tmp 119) (.tmp 121) (.const (.bool false)))⟩,
 ⟨some 123, none, .val (.mv (.tmp 122))⟩,
 ⟨some 124, some (123, true), .val (.mv (.tmp 17))⟩,
 ⟨some 125, some (123, true), .val (.bin .eql T.apiErrno (.tmp 124) (.const (.int 0)))⟩,
 ⟨some 126, none, .val (.pick (.tmp 123) (.tmp 125) (.const (.bool false)))⟩,
 ⟨some 127, none, .val (.mv (.tmp 126))⟩,
 ⟨some 128, some (127, true), .val (.mv (.tmp 19))⟩,
 ⟨some 129, some (127, true), .val (.bin .eql T.apiErrno (.tmp 128) (.const (.int 0)))⟩,
 ⟨some 130, none, .val (.pick (.tmp 127) (.tmp 129) (.const (.bool false)))⟩,
 ⟨some 131, none, .val (.mv (.tmp 130))⟩,
 ⟨some 132, some (131, true), .val (.mv (.tmp 16))⟩,
 ⟨some 133, some (131, true), .val (.buildSlice T.int 4 [(.int 0), (.int 0), (.int 0), (.int 0)] [(0, 1, (.const (.int 2))), (1, 1, (.const (.int 3))), (2, 1, (.const (.int 1))), (3, 1, (.const (.int 0)))])⟩,
 ⟨some 134, some (131, true), .call (.const (.func (.func F.podiumref13_SameInts) [] [])) [(.tmp 132), (.tmp 133)]⟩,
 ⟨some 135, none, .val (.pick (.tmp 131) (.tmp 134) (.const (.bool false)))⟩,
 ⟨some 136, none, .val (.mv (.tmp 135))⟩,
 ⟨some 137, some (136, true), .val (.mv (.tmp 18))⟩,
 ⟨some 138, some (136, true), .val (.len (.tmp 137))⟩,
 ⟨some 139, some (136, true), .val (.bin .eql T.int (.tmp 138) (.const (.int 0)))⟩,
 ⟨some 140, none, .val (.pick (.tmp 136) (.tmp 139) (.const (.bool false)))⟩,
 ⟨some 0, none, .val (.mv (.tmp 140))⟩] [113, 114, 115, 116, 117, 118, 119, 120, 121, 122, 123, 124, 125, 126, 127, 128, 129, 130, 131, 132, 133, 134, 135, 136, 137, 138, 139, 140])
  .ret)))))))))⟩
theorem H.podiumlaw21_sane : Has P F.podiumlaw21_sane C.podiumlaw21_sane := ⟨Try.f7, Try.func7, by kernel_rfl, by kernel_rfl⟩

/-- podium/podiumlaw21.right -/
noncomputable def C.podiumlaw21_right : MFunc := ⟨25, 2, [.tmp 4],
 (.seq (.region [
 ⟨some 4, none, .val (.mv (.const (.bool false)))⟩] [])
 (.seq (.seq (.region [
 ⟨some 7, none, .val (.mv (.tmp 1))⟩,
 ⟨some 8, none, .val (.len (.tmp 7))⟩,
 ⟨some 9, none, .val (.mv (.const (.int 0)))⟩] [])
 (.block 0 (.loop (.seq (.region [
 ⟨some 10, none, .val (.bin .lss T.int (.tmp 9) (.tmp 8))⟩] [])
 (.seq (.cond (.tmp 10)
  .skip
 (.exit 0))
 (.seq (.block 1 (.seq (.region [
 ⟨some 11, none, .val (.indexAddr 10 (.tmp 7) (.tmp 9))⟩,
 ⟨some 12, none, .val (.load 10 true (.tmp 11))⟩,
 ⟨some 6, none, .alloc T.apiKeyed [(.int 0), (.bool false), .nil, (.bool false), .nil, .nil, .nil, (.int 0), (.int 0), (.int 0)]⟩,
 ⟨none, none, .store 10 (.tmp 6) (.tmp 12)⟩] [11, 12])
 (.seq (.region [
 ⟨some 13, none, .val (.mv (.tmp 0))⟩,
 ⟨some 14, none, .val (.load 10 true (.tmp 6))⟩,
 ⟨some 15, none, .call (.const (.func (.func F.podiumref21_Right) [] [])) [(.tmp 13), (.tmp 14)]⟩,
 ⟨some 16, none, .val (.un .not (.tmp 15))⟩] [13, 14, 15])
 (.cond (.tmp 16)
 (.seq (.region [
 ⟨some 4, none, .val (.mv (.const (.bool false)))⟩] [])
  .ret)
  .skip))))
 (.region [
 ⟨some 17, none, .val (.bin .add T.int (.tmp 9) (.const (.int 1)))⟩,
 ⟨some 9, none, .val (.mv (.tmp 17))⟩] [17])))))))
 (.seq (.region [
 ⟨some 18, none, .val (.mv (.tmp 0))⟩,
 ⟨some 19, none, .call (.const (.func (.func F.podiumref21_Plain) [] [])) [(.tmp 18)]⟩,
 ⟨some 20, none, .val (.mv (.tmp 19))⟩,
 ⟨some 21, some (20, true), .val (.mv (.tmp 0))⟩,
 ⟨some 22, some (20, true), .val (.mv (.tmp 1))⟩,
 ⟨some 23, some (20, true), .call (.const (.func (.func F.podiumref21_Few) [] [])) [(.tmp 21), (.tmp 22)]⟩,
 ⟨some 24, none, .val (.pick (.tmp 20) (.tmp 23) (.const (.bool false)))⟩,
 ⟨some 4, none, .val (.mv (.tmp 24))⟩] [18, 19, 20, 21, 22, 23, 24])
  .ret)))⟩
theorem H.podiumlaw21_right : Has P F.podiumlaw21_right C.podiumlaw21_right := ⟨Try.f8, Try.func8, by kernel_rfl, by kernel_rfl⟩

/-- podium/ties.Compare -/
noncomputable def C.ties_Compare : MFunc := ⟨37, 3, [.tmp 6, .tmp 7, .tmp 8],
 (.seq (.region [
 ⟨some 4, none, .box T.apiKeyed (.tmp 1)⟩,
 ⟨some 5, none, .box T.apiKeyed (.tmp 2)⟩,
 ⟨some 6, none, .val (.mv (.const (.int 0)))⟩,
 ⟨some 7, none, .val (.mv (.const (.int 0)))⟩,
 ⟨some 8, none, .val (.mv (.const (.int 0)))⟩] [])
 (.seq (.region [
 ⟨some 12, none, .val (.mv (.tmp 0))⟩,
 ⟨some 13, none, .call (.const (.func (.func F.ties_plain) [] [])) [(.tmp 12)]⟩,
 ⟨some 11, none, .val (.mv (.tmp 13))⟩,
 ⟨some 14, none, .val (.extract 0 (.tmp 11))⟩,
 ⟨some 15, none, .val (.extract 1 (.tmp 11))⟩,
 ⟨some 9, none, .alloc T.tiesorder [.nil, .nil]⟩,
 ⟨none, none, .store 2 (.tmp 9) (.tmp 14)⟩,
 ⟨some 10, none, .val (.mv (.tmp 15))⟩] [12, 13, 11, 14, 15])
 (.seq (.seq (.region [
 ⟨some 16, none, .val (.mv (.tmp 10))⟩,
 ⟨some 17, none, .val (.un .not (.tmp 16))⟩,
 ⟨some 18, none, .val (.mv (.tmp 17))⟩,
 ⟨some 19, some (18, false), .val (.load 2 true (.tmp 9))⟩,
 ⟨some 20, some (18, false), .val (.load 10 true (.tmp 4))⟩,
 ⟨some 21, some (18, false), .call (.const (.func (.func F.ties_order_wrong) [] [])) [(.tmp 19), (.tmp 20)]⟩,
 ⟨some 22, none, .val (.pick (.tmp 18) (.const (.bool true)) (.tmp 21))⟩,
 ⟨some 23, none, .val (.mv (.tmp 22))⟩,
 ⟨some 24, some (23, false), .val (.load 2 true (.tmp 9))⟩,
 ⟨some 25, some (23, false), .val (.load 10 true (.tmp 5))⟩,
 ⟨some 26, some (23, false), .call (.const (.func (.func F.ties_order_wrong) [] [])) [(.tmp 24), (.tmp 25)]⟩,
 ⟨some 27, none, .val (.pick (.tmp 23) (.const (.bool true)) (.tmp 26))⟩] [16, 17, 18, 19, 20, 21, 22, 23, 24, 25, 26])
 (.cond (.tmp 27)
 (.seq (.region [
 ⟨some 6, none, .val (.mv (.const (.int 0)))⟩,
 ⟨some 7, none, .val (.mv (.const (.int 0)))⟩,
 ⟨some 8, none, .val (.mv (.const (.int 210)))⟩] [])
  .ret)
  .skip))
 (.seq (.region [
 ⟨some 29, none, .val (.load 2 true (.tmp 9))⟩,
 ⟨some 30, none, .val (.load 10 true (.tmp 4))⟩,
 ⟨some 31, none, .val (.load 10 true (.tmp 5))⟩,
 ⟨some 32, none, .call (.const (.func (.func F.ties_order_compare) [] [])) [(.tmp 29), (.tmp 30), (.tmp 31)]⟩,
 ⟨some 28, none, .val (.mv (.tmp 32))⟩,
 ⟨some 33, none, .val (.extract 0 (.tmp 28))⟩,
 ⟨some 34, none, .val (.extract 1 (.tmp 28))⟩,
 ⟨some 6, none, .val (.mv (.tmp 33))⟩,
 ⟨some 7, none, .val (.mv (.tmp 34))⟩] [29, 30, 31, 32, 28, 33, 34])
 (.seq (.region [
 ⟨some 35, none, .val (.mv (.tmp 6))⟩,
 ⟨some 36, none, .val (.mv (.tmp 7))⟩,
 ⟨some 6, none, .val (.mv (.tmp 35))⟩,
 ⟨some 7, none, .val (.mv (.tmp 36))⟩,
 ⟨some 8, none, .val (.mv (.const (.int 0)))⟩] [35, 36])
  .ret)))))⟩
theorem H.ties_Compare : Has P F.ties_Compare C.ties_Compare := ⟨Try.f9, Try.func9, by kernel_rfl, by kernel_rfl⟩

/-- podium/ties.Sort -/
noncomputable def C.ties_Sort : MFunc := ⟨42, 2, [.tmp 4, .tmp 5],
 (.seq (.region [
 ⟨some 4, none, .val (.mv (.const .nil))⟩,
 ⟨some 5, none, .val (.mv (.const (.int 0)))⟩] [])
 (.seq (.region [
 ⟨some 10, none, .val (.mv (.tmp 0))⟩,
 ⟨some 11, none, .call (.const (.func (.func F.ties_plain) [] [])) [(.tmp 10)]⟩,
 ⟨some 9, none, .val (.mv (.tmp 11))⟩,
 ⟨some 12, none, .val (.extract 0 (.tmp 9))⟩,
 ⟨some 13, none, .val (.extract 1 (.tmp 9))⟩,
 ⟨some 6, none, .alloc T.tiesorder [.nil, .nil]⟩,
 ⟨none, none, .store 2 (.tmp 6) (.tmp 12)⟩,
 ⟨some 7, none, .val (.mv (.tmp 13))⟩] [10, 11, 9, 12, 13])
 (.seq (.seq (.region [
 ⟨some 14, none, .val (.mv (.tmp 7))⟩,
 ⟨some 15, none, .val (.un .not (.tmp 14))⟩,
 ⟨some 16, none, .val (.mv (.tmp 15))⟩,
 ⟨some 17, some (16, false), .val (.mv (.tmp 1))⟩,
 ⟨some 18, some (16, false), .val (.load 2 true (.tmp 6))⟩,
 ⟨some 19, some (16, false), .val (.mkFunc (.func F.ties_order_wrong) [(.tmp 18)] [])⟩,
 ⟨some 20, some (16, false), .call (.const (.func (.func F.slices_ContainsFunc__LapiKeyed_apiKeyed) [] [])) [(.tmp 17), (.tmp 19)]⟩,
 ⟨some 21, none, .val (.pick (.tmp 16) (.const (.bool true)) (.tmp 20))⟩] [14, 15, 16, 17, 18, 19, 20])
 (.cond (.tmp 21)
 (.seq (.region [
 ⟨some 4, none, .val (.mv (.const .nil))⟩,
 ⟨some 5, none, .val (.mv (.const (.int 210)))⟩] [])
  .ret)
  .skip))
 (.seq (.seq (.region [
 ⟨some 22, none, .val (.mv (.tmp 1))⟩,
 ⟨some 23, none, .val (.len (.tmp 22))⟩,
 ⟨some 24, none, .val (.bin .gtr T.int (.tmp 23) (.const (.int 4096)))⟩] [22, 23])
 (.cond (.tmp 24)
 (.seq (.region [
 ⟨some 4, none, .val (.mv (.const .nil))⟩,
 ⟨some 5, none, .val (.mv (.const (.int 2)))⟩] [])
  .ret)
  .skip))
 (.seq (.seq (.region [
 ⟨some 25, none, .val (.mv (.tmp 1))⟩,
 ⟨some 26, none, .val (.len (.tmp 25))⟩,
 ⟨some 27, none, .val (.mv (.const (.int 0)))⟩] [25])
 (.block 0 (.loop (.seq (.region [
 ⟨some 28, none, .val (.bin .lss T.int (.tmp 27) (.tmp 26))⟩] [])
 (.seq (.cond (.tmp 28)
  .skip
 (.exit 0))
 (.seq (.block 1 (.seq (.region [
 ⟨some 29, none, .val (.mv (.tmp 27))⟩,
 ⟨some 8, none, .val (.mv (.tmp 29))⟩] [29])
 (.region [
 ⟨some 30, none, .val (.mv (.tmp 4))⟩,
 ⟨some 31, none, .val (.mv (.tmp 8))⟩,
 ⟨some 32, none, .val (.buildSlice T.int 1 [(.int 0)] [(0, 1, (.tmp 31))])⟩,
 ⟨some 33, none, .append T.int 8 1 (.tmp 30) (.tmp 32)⟩,
 ⟨some 4, none, .val (.mv (.tmp 33))⟩] [30, 31, 32, 33])))
 (.region [
 ⟨some 34, none, .val (.bin .add T.int (.tmp 27) (.const (.int 1)))⟩,
 ⟨some 27, none, .val (.mv (.tmp 34))⟩] [34])))))))
 (.seq (.region [
 ⟨some 35, none, .val (.mv (.tmp 4))⟩,
 ⟨some 36, none, .val (.load 2 true (.tmp 6))⟩,
 ⟨some 37, none, .val (.mv (.tmp 1))⟩,
 ⟨some 38, none, .val (.build [.nil, .nil, .nil] [(0, 2, (.tmp 36)), (2, 1, (.tmp 37))])⟩,
 ⟨some 39, none, .val (.mkFunc (.func F.ties_sorter_before) [(.tmp 38)] [])⟩,
 ⟨some 40, none, .call (.const (.func (.func F.slices_SortStableFunc__Lint_int) [] [])) [(.tmp 35), (.tmp 39)]⟩] [35, 36, 37, 38, 39, 40])
 (.seq (.region [
 ⟨some 41, none, .val (.mv (.tmp 4))⟩,
 ⟨some 4, none, .val (.mv (.tmp 41))⟩,
 ⟨some 5, none, .val (.mv (.const (.int 0)))⟩] [41])
  .ret)))))))⟩
theorem H.ties_Sort : Has P F.ties_Sort C.ties_Sort := ⟨Try.f10, Try.func10, by kernel_rfl, by kernel_rfl⟩

/-- podium/podiumlaw21.keyed -/
noncomputable def C.podiumlaw21_keyed : MFunc := ⟨15, 4, [.cell 8 10 true],
 (.seq (.region [
 ⟨some 8, none, .alloc T.apiKeyed [(.int 0), (.bool false), .nil, (.bool false), .nil, .nil, .nil, (.int 0), (.int 0), (.int 0)]⟩] [])
 (.seq (.region [
 ⟨some 9, none, .val (.mv (.tmp 0))⟩,
 ⟨some 10, none, .val (.mv (.tmp 1))⟩,
 ⟨some 11, none, .call (.const (.func (.func F.podiumref10_Int) [] [])) [(.tmp 10)]⟩,
 ⟨some 12, none, .val (.mv (.tmp 2))⟩,
 ⟨some 13, none, .val (.mv (.tmp 3))⟩,
 ⟨some 14, none, .val (.build [(.int 0), (.bool false), .nil, (.bool false), .nil, .nil, .nil, (.int 0), (.int 0), (.int 0)] [(0, 1, (.tmp 9)), (1, 4, (.tmp 11)), (7, 1, (.tmp 12)), (9, 1, (.tmp 13))])⟩,
 ⟨none, none, .store 10 (.tmp 8) (.tmp 14)⟩] [9, 10, 11, 12, 13, 14])
  .ret))⟩
theorem H.podiumlaw21_keyed : Has P F.podiumlaw21_keyed C.podiumlaw21_keyed := ⟨Try.f11, Try.func11, by kernel_rfl, by kernel_rfl⟩

/-- podium/podiumref13.SameInts -/
noncomputable def C.podiumref13_SameInts : MFunc := ⟨26, 2, [.tmp 4],
 (.seq (.region [
 ⟨some 4, none, .val (.mv (.const (.bool false)))⟩] [])
 (.seq (.seq (.region [
 ⟨some 6, none, .val (.mv (.tmp 0))⟩,
 ⟨some 7, none, .val (.len (.tmp 6))⟩,
 ⟨some 8, none, .val (.mv (.tmp 1))⟩,
 ⟨some 9, none, .val (.len (.tmp 8))⟩,
 ⟨some 10, none, .val (.bin .neq T.int (.tmp 7) (.tmp 9))⟩] [6, 7, 8, 9])
 (.cond (.tmp 10)
 (.seq (.region [
 ⟨some 4, none, .val (.mv (.const (.bool false)))⟩] [])
  .ret)
  .skip))
 (.seq (.seq (.region [
 ⟨some 5, none, .val (.mv (.const (.int 0)))⟩] [])
 (.block 0 (.loop (.seq (.seq (.region [
 ⟨some 11, none, .val (.mv (.tmp 5))⟩,
 ⟨some 12, none, .val (.mv (.tmp 0))⟩,
 ⟨some 13, none, .val (.len (.tmp 12))⟩,
 ⟨some 14, none, .val (.bin .lss T.int (.tmp 11) (.tmp 13))⟩] [11, 12, 13])
 (.cond (.tmp 14)
  .skip
 (.exit 0)))
 (.seq (.block 1 (.seq (.draw false [
 (.early, ⟨some 17, none, .val (.mv (.tmp 0))⟩),
 (.early, ⟨some 18, none, .val (.mv (.tmp 5))⟩),
 (.early, ⟨some 19, none, .val (.indexAddr 1 (.tmp 17) (.tmp 18))⟩),
 (.early, ⟨some 20, none, .val (.load 1 false (.tmp 19))⟩),
 (.early, ⟨some 21, none, .val (.mv (.tmp 1))⟩),
 (.early, ⟨some 22, none, .val (.mv (.tmp 5))⟩),
 (.early, ⟨some 23, none, .val (.indexAddr 1 (.tmp 21) (.tmp 22))⟩),
 (.early, ⟨some 24, none, .val (.load 1 false (.tmp 23))⟩),
 (.early, ⟨some 25, none, .val (.bin .neq T.int (.tmp 20) (.tmp 24))⟩)] [17, 18, 19, 20, 21, 22, 23, 24])
 (.cond (.tmp 25)
 (.seq (.region [
 ⟨some 4, none, .val (.mv (.const (.bool false)))⟩] [])
  .ret)
  .skip)))
 (.region [
 ⟨some 15, none, .val (.mv (.tmp 5))⟩,
 ⟨some 16, none, .val (.bin .add T.int (.tmp 15) (.const (.int 1)))⟩,
 ⟨some 5, none, .val (.mv (.tmp 16))⟩] [15, 16]))))))
 (.seq (.region [
 ⟨some 4, none, .val (.mv (.const (.bool true)))⟩] [])
  .ret))))⟩
theorem H.podiumref13_SameInts : Has P F.podiumref13_SameInts C.podiumref13_SameInts := ⟨Try.f12, Try.func12, by kernel_rfl, by kernel_rfl⟩

/-- podium/podiumref21.Right -/
noncomputable def C.podiumref21_Right : MFunc := ⟨85, 2, [.tmp 4],
 (.seq (.region [
 ⟨some 3, none, .box T.apiKeyed (.tmp 1)⟩,
 ⟨some 4, none, .val (.mv (.const (.bool false)))⟩] [])
 (.seq (.seq (.region [
 ⟨some 9, none, .val (.fieldAddr 1 (.tmp 3))⟩,
 ⟨some 10, none, .val (.load 4 true (.tmp 9))⟩,
 ⟨some 11, none, .call (.const (.func (.func F.podiumref21_few) [] [])) [(.tmp 10)]⟩,
 ⟨some 12, none, .val (.un .not (.tmp 11))⟩] [9, 10, 11])
 (.cond (.tmp 12)
 (.seq (.region [
 ⟨some 4, none, .val (.mv (.const (.bool false)))⟩] [])
  .ret)
  .skip))
 (.seq (.seq (.region [
 ⟨some 5, none, .val (.mv (.const (.int 0)))⟩] [])
 (.block 0 (.loop (.seq (.seq (.region [
 ⟨some 13, none, .val (.mv (.tmp 5))⟩,
 ⟨some 14, none, .val (.fieldAddr 5 (.tmp 3))⟩,
 ⟨some 15, none, .val (.load 1 false (.tmp 14))⟩,
 ⟨some 16, none, .val (.len (.tmp 15))⟩,
 ⟨some 17, none, .val (.bin .lss T.int (.tmp 13) (.tmp 16))⟩] [13, 14, 15, 16])
 (.cond (.tmp 17)
  .skip
 (.exit 0)))
 (.seq (.block 1 (.seq (.region [
 ⟨some 20, none, .val (.fieldAddr 5 (.tmp 3))⟩,
 ⟨some 21, none, .val (.load 1 false (.tmp 20))⟩,
 ⟨some 22, none, .val (.mv (.tmp 5))⟩,
 ⟨some 23, none, .val (.indexAddr 4 (.tmp 21) (.tmp 22))⟩,
 ⟨some 24, none, .val (.load 4 true (.tmp 23))⟩,
 ⟨some 25, none, .call (.const (.func (.func F.podiumref21_few) [] [])) [(.tmp 24)]⟩,
 ⟨some 26, none, .val (.un .not (.tmp 25))⟩] [20, 21, 22, 23, 24, 25])
 (.cond (.tmp 26)
 (.seq (.region [
 ⟨some 4, none, .val (.mv (.const (.bool false)))⟩] [])
  .ret)
  .skip)))
 (.region [
 ⟨some 18, none, .val (.mv (.tmp 5))⟩,
 ⟨some 19, none, .val (.bin .add T.int (.tmp 18) (.const (.int 1)))⟩,
 ⟨some 5, none, .val (.mv (.tmp 19))⟩] [18, 19]))))))
 (.seq (.seq (.region [
 ⟨some 6, none, .val (.mv (.const (.int 0)))⟩] [])
 (.block 2 (.loop (.seq (.seq (.region [
 ⟨some 27, none, .val (.mv (.tmp 6))⟩,
 ⟨some 28, none, .val (.fieldAddr 6 (.tmp 3))⟩,
 ⟨some 29, none, .val (.load 1 false (.tmp 28))⟩,
 ⟨some 30, none, .val (.len (.tmp 29))⟩,
 ⟨some 31, none, .val (.bin .lss T.int (.tmp 27) (.tmp 30))⟩] [27, 28, 29, 30])
 (.cond (.tmp 31)
  .skip
 (.exit 2)))
 (.seq (.block 3 (.seq (.region [
 ⟨some 34, none, .val (.fieldAddr 6 (.tmp 3))⟩,
 ⟨some 35, none, .val (.load 1 false (.tmp 34))⟩,
 ⟨some 36, none, .val (.mv (.tmp 6))⟩,
 ⟨some 37, none, .val (.indexAddr 4 (.tmp 35) (.tmp 36))⟩,
 ⟨some 38, none, .val (.load 4 true (.tmp 37))⟩,
 ⟨some 39, none, .call (.const (.func (.func F.podiumref21_few) [] [])) [(.tmp 38)]⟩,
 ⟨some 40, none, .val (.un .not (.tmp 39))⟩] [34, 35, 36, 37, 38, 39])
 (.cond (.tmp 40)
 (.seq (.region [
 ⟨some 4, none, .val (.mv (.const (.bool false)))⟩] [])
  .ret)
  .skip)))
 (.region [
 ⟨some 32, none, .val (.mv (.tmp 6))⟩,
 ⟨some 33, none, .val (.bin .add T.int (.tmp 32) (.const (.int 1)))⟩,
 ⟨some 6, none, .val (.mv (.tmp 33))⟩] [32, 33]))))))
 (.seq (.seq (.region [
 ⟨some 7, none, .val (.mv (.const (.int 0)))⟩] [])
 (.block 4 (.loop (.seq (.seq (.region [
 ⟨some 41, none, .val (.mv (.tmp 7))⟩,
 ⟨some 42, none, .val (.mv (.tmp 0))⟩,
 ⟨some 43, none, .val (.len (.tmp 42))⟩,
 ⟨some 44, none, .val (.bin .lss T.int (.tmp 41) (.tmp 43))⟩] [41, 42, 43])
 (.cond (.tmp 44)
  .skip
 (.exit 4)))
 (.seq (.block 5 (.seq (.region [
 ⟨some 47, none, .val (.mv (.tmp 0))⟩,
 ⟨some 48, none, .val (.mv (.tmp 7))⟩,
 ⟨some 49, none, .val (.indexAddr 3 (.tmp 47) (.tmp 48))⟩,
 ⟨some 50, none, .val (.load 3 true (.tmp 49))⟩,
 ⟨some 8, none, .alloc T.apiKey [(.int 0), (.val (.string ⟨#[]⟩)), (.int 0)]⟩,
 ⟨none, none, .store 3 (.tmp 8) (.tmp 50)⟩] [47, 48, 49, 50])
 (.seq (.region (
 ⟨some 51, none, .val (.fieldAddr 0 (.tmp 8))⟩ ::
 ⟨some 52, none, .val (.load 1 false (.tmp 51))⟩ ::
 ⟨some 53, none, .val (.bin .eql T.int (.tmp 52) (.const (.int 1)))⟩ ::
 ⟨some 54, none, .val (.mv (.tmp 53))⟩ ::
 ⟨some 55, some (54, true), .val (.fieldAddr 2 (.tmp 8))⟩ ::
 ⟨some 56, some (54, true), .val (.load 1 false (.tmp 55))⟩ ::
 ⟨some 57, some (54, true), .val (.bin .lss T.int (.tmp 56) (.const (.int 0)))⟩ ::
 ⟨some 58, some (54, true), .val (.mv (.tmp 57))⟩ ::
 ⟨some 59, some (58, false), .val (.fieldAddr 2 (.tmp 8))⟩ ::
 ⟨some 60, some (58, false), .val (.load 1 false (.tmp 59))⟩ ::
 ⟨some 61, some (58, false), .val (.fieldAddr 5 (.tmp 3))⟩ ::
 ⟨some 62, some (58, false), .val (.load 1 false (.tmp 61))⟩ ::
 ⟨some 63, some (58, false), .val (.len (.tmp 62))⟩ ::
 ⟨some 64, some (58, false), .val (.bin .geq T.int (.tmp 60) (.tmp 63))⟩ ::
 ⟨some 65, some (54, true), .val (.pick (.tmp 58) (.const (.bool true)) (.tmp 64))⟩ ::
 ⟨some 66, none, .val (.pick (.tmp 54) (.tmp 65) (.const (.bool false)))⟩ ::
 ⟨some 67, none, .val (.mv (.tmp 66))⟩ ::
 ⟨some 68, some (67, false), .val (.fieldAddr 0 (.tmp 8))⟩ ::
 ⟨some 69, some (67, false), .val (.load 1 false (.tmp 68))⟩ ::
 ⟨some 70, some (67, false), .val (.bin .eql T.int (.tmp 69) (.const (.int 2)))⟩ ::
 ⟨some 71, some (67, false), .val (.mv (.tmp 70))⟩ ::
 ⟨some 72, some (71, true), .val (.fieldAddr 2 (.tmp 8))⟩ ::
 ⟨some 73, some (71, true), .val (.load 1 false (.tmp 72))⟩ ::
 ⟨some 74, some (71, true), .val (.bin .lss T.int (.tmp 73) (.const (.int 0)))⟩ ::
 ⟨some 75, some (71, true), .val (.mv (.tmp 74))⟩ ::
 ⟨some 76, some (75, false), .val (.fieldAddr 2 (.tmp 8))⟩ ::
 ⟨some 77, some (75, false), .val (.load 1 false (.tmp 76))⟩ ::
 ⟨some 78, some (75, false), .val (.fieldAddr 6 (.tmp 3))⟩ ::
 ⟨some 79, some (75, false), .val (.load 1 false (.tmp 78))⟩ ::
 ⟨some 80, some (75, false), .val (.len (.tmp 79))⟩ ::
 ⟨some 81, some (75, false), .val (.bin .geq T.int (.tmp 77) (.tmp 80))⟩ ::
 ⟨some 82, some (71, true), .val (.pick (.tmp 75) (.const (.bool true)) (.tmp 81))⟩ ::
 ⟨some 83, some (67, false), .val (.pick (.tmp 71) (.tmp 82) (.const (.bool false)))⟩ ::
 ⟨some 84, none, .val (.pick (.tmp 67) (.const (.bool true)) (.tmp 83))⟩ :: []) (51 :: 52 :: 53 :: 54 :: 55 :: 56 :: 57 :: 58 :: 59 :: 60 :: 61 :: 62 :: 63 :: 64 :: 65 :: 66 :: 67 :: 68 :: 69 :: 70 :: 71 :: 72 :: 73 :: 74 :: 75 :: 76 :: 77 :: 78 :: 79 :: 80 :: 81 :: 82 :: 83 :: []))
 (.cond (.tmp 84)
 (.seq (.region [
 ⟨some 4, none, .val (.mv (.const (.bool false)))⟩] [])
  .ret)
  .skip))))
 (.region [
 ⟨some 45, none, .val (.mv (.tmp 7))⟩,
 ⟨some 46, none, .val (.bin .add T.int (.tmp 45) (.const (.int 1)))⟩,
 ⟨some 7, none, .val (.mv (.tmp 46))⟩] [45, 46]))))))
 (.seq (.region [
 ⟨some 4, none, .val (.mv (.const (.bool true)))⟩] [])
  .ret))))))⟩
theorem H.podiumref21_Right : Has P F.podiumref21_Right C.podiumref21_Right := ⟨Try.f13, Try.func13, by kernel_rfl, by kernel_rfl⟩

/-- podium/podiumref21.Plain -/
noncomputable def C.podiumref21_Plain : MFunc := ⟨37, 1, [.tmp 2],
 (.seq (.region [
 ⟨some 2, none, .val (.mv (.const (.bool false)))⟩] [])
 (.seq (.seq (.region [
 ⟨some 3, none, .val (.mv (.const (.int 0)))⟩] [])
 (.block 0 (.loop (.seq (.seq (.region [
 ⟨some 5, none, .val (.mv (.tmp 3))⟩,
 ⟨some 6, none, .val (.mv (.tmp 0))⟩,
 ⟨some 7, none, .val (.len (.tmp 6))⟩,
 ⟨some 8, none, .val (.bin .lss T.int (.tmp 5) (.tmp 7))⟩] [5, 6, 7])
 (.cond (.tmp 8)
  .skip
 (.exit 0)))
 (.seq (.block 1 (.seq (.region [
 ⟨some 11, none, .val (.mv (.tmp 0))⟩,
 ⟨some 12, none, .val (.mv (.tmp 3))⟩,
 ⟨some 13, none, .val (.indexAddr 3 (.tmp 11) (.tmp 12))⟩,
 ⟨some 14, none, .val (.fieldAddr 0 (.tmp 13))⟩,
 ⟨some 15, none, .val (.load 1 false (.tmp 14))⟩,
 ⟨some 4, none, .val (.mv (.tmp 15))⟩] [11, 12, 13, 14, 15])
 (.seq (.region [
 ⟨some 16, none, .val (.mv (.tmp 4))⟩,
 ⟨some 17, none, .val (.bin .neq T.int (.tmp 16) (.const (.int 1)))⟩,
 ⟨some 18, none, .val (.mv (.tmp 17))⟩,
 ⟨some 19, some (18, true), .val (.mv (.tmp 4))⟩,
 ⟨some 20, some (18, true), .val (.bin .neq T.int (.tmp 19) (.const (.int 2)))⟩,
 ⟨some 21, none, .val (.pick (.tmp 18) (.tmp 20) (.const (.bool false)))⟩,
 ⟨some 22, none, .val (.mv (.tmp 21))⟩,
 ⟨some 23, some (22, true), .val (.mv (.tmp 4))⟩,
 ⟨some 24, some (22, true), .val (.bin .neq T.int (.tmp 23) (.const (.int 3)))⟩,
 ⟨some 25, none, .val (.pick (.tmp 22) (.tmp 24) (.const (.bool false)))⟩,
 ⟨some 26, none, .val (.mv (.tmp 25))⟩,
 ⟨some 27, some (26, true), .val (.mv (.tmp 4))⟩,
 ⟨some 28, some (26, true), .val (.bin .neq T.int (.tmp 27) (.const (.int 4)))⟩,
 ⟨some 29, none, .val (.pick (.tmp 26) (.tmp 28) (.const (.bool false)))⟩,
 ⟨some 30, none, .val (.mv (.tmp 29))⟩,
 ⟨some 31, some (30, true), .val (.mv (.tmp 4))⟩,
 ⟨some 32, some (30, true), .val (.bin .neq T.int (.tmp 31) (.const (.int 6)))⟩,
 ⟨some 33, none, .val (.pick (.tmp 30) (.tmp 32) (.const (.bool false)))⟩] [16, 17, 18, 19, 20, 21, 22, 23, 24, 25, 26, 27, 28, 29, 30, 31, 32])
 (.cond (.tmp 33)
 (.seq (.region [
 ⟨some 2, none, .val (.mv (.const (.bool false)))⟩] [])
  .ret)
  .skip))))
 (.region [
 ⟨some 9, none, .val (.mv (.tmp 3))⟩,
 ⟨some 10, none, .val (.bin .add T.int (.tmp 9) (.const (.int 1)))⟩,
 ⟨some 3, none, .val (.mv (.tmp 10))⟩] [9, 10]))))))
 (.seq (.region [
 ⟨some 34, none, .val (.mv (.tmp 0))⟩,
 ⟨some 35, none, .val (.len (.tmp 34))⟩,
 ⟨some 36, none, .val (.bin .leq T.int (.tmp 35) (.const (.int 32)))⟩,
 ⟨some 2, none, .val (.mv (.tmp 36))⟩] [34, 35, 36])
  .ret)))⟩
theorem H.podiumref21_Plain : Has P F.podiumref21_Plain C.podiumref21_Plain := ⟨Try.f14, Try.func14, by kernel_rfl, by kernel_rfl⟩

/-- podium/podiumref21.Few -/
noncomputable def C.podiumref21_Few : MFunc := ⟨71, 2, [.tmp 4],
 (.seq (.region [
 ⟨some 4, none, .val (.mv (.const (.bool false)))⟩] [])
 (.seq (.seq (.region [
 ⟨some 9, none, .val (.mv (.tmp 0))⟩,
 ⟨some 10, none, .val (.len (.tmp 9))⟩,
 ⟨some 11, none, .val (.bin .gtr T.int (.tmp 10) (.const (.int 40)))⟩,
 ⟨some 12, none, .val (.mv (.tmp 11))⟩,
 ⟨some 13, some (12, false), .val (.mv (.tmp 1))⟩,
 ⟨some 14, some (12, false), .val (.len (.tmp 13))⟩,
 ⟨some 15, some (12, false), .val (.bin .gtr T.int (.tmp 14) (.const (.int 12)))⟩,
 ⟨some 16, none, .val (.pick (.tmp 12) (.const (.bool true)) (.tmp 15))⟩] [9, 10, 11, 12, 13, 14, 15])
 (.cond (.tmp 16)
 (.seq (.region [
 ⟨some 4, none, .val (.mv (.const (.bool false)))⟩] [])
  .ret)
  .skip))
 (.seq (.seq (.region [
 ⟨some 5, none, .val (.mv (.const (.int 0)))⟩] [])
 (.block 0 (.loop (.seq (.seq (.region [
 ⟨some 17, none, .val (.mv (.tmp 5))⟩,
 ⟨some 18, none, .val (.mv (.tmp 1))⟩,
 ⟨some 19, none, .val (.len (.tmp 18))⟩,
 ⟨some 20, none, .val (.bin .lss T.int (.tmp 17) (.tmp 19))⟩] [17, 18, 19])
 (.cond (.tmp 20)
  .skip
 (.exit 0)))
 (.seq (.block 1 (.seq (.region [
 ⟨some 23, none, .val (.mv (.tmp 1))⟩,
 ⟨some 24, none, .val (.mv (.tmp 5))⟩,
 ⟨some 25, none, .val (.indexAddr 10 (.tmp 23) (.tmp 24))⟩,
 ⟨some 26, none, .val (.load 10 true (.tmp 25))⟩,
 ⟨some 6, none, .alloc T.apiKeyed [(.int 0), (.bool false), .nil, (.bool false), .nil, .nil, .nil, (.int 0), (.int 0), (.int 0)]⟩,
 ⟨none, none, .store 10 (.tmp 6) (.tmp 26)⟩] [23, 24, 25, 26])
 (.seq (.seq (.region [
 ⟨some 27, none, .val (.fieldAddr 5 (.tmp 6))⟩,
 ⟨some 28, none, .val (.load 1 false (.tmp 27))⟩,
 ⟨some 29, none, .val (.len (.tmp 28))⟩,
 ⟨some 30, none, .val (.bin .gtr T.int (.tmp 29) (.const (.int 10)))⟩,
 ⟨some 31, none, .val (.mv (.tmp 30))⟩,
 ⟨some 32, some (31, false), .val (.fieldAddr 6 (.tmp 6))⟩,
 ⟨some 33, some (31, false), .val (.load 1 false (.tmp 32))⟩,
 ⟨some 34, some (31, false), .val (.len (.tmp 33))⟩,
 ⟨some 35, some (31, false), .val (.bin .gtr T.int (.tmp 34) (.const (.int 10)))⟩,
 ⟨some 36, none, .val (.pick (.tmp 31) (.const (.bool true)) (.tmp 35))⟩,
 ⟨some 37, none, .val (.mv (.tmp 36))⟩,
 ⟨some 38, some (37, false), .val (.fieldAddr 1 (.tmp 6))⟩,
 ⟨some 39, some (37, false), .val (.load 4 true (.tmp 38))⟩,
 ⟨some 40, some (37, false), .call (.const (.func (.func F.podiumref10_Few) [] [])) [(.tmp 39), (.const (.int 4))]⟩,
 ⟨some 41, some (37, false), .val (.un .not (.tmp 40))⟩,
 ⟨some 42, none, .val (.pick (.tmp 37) (.const (.bool true)) (.tmp 41))⟩] [27, 28, 29, 30, 31, 32, 33, 34, 35, 36, 37, 38, 39, 40, 41])
 (.cond (.tmp 42)
 (.seq (.region [
 ⟨some 4, none, .val (.mv (.const (.bool false)))⟩] [])
  .ret)
  .skip))
 (.seq (.seq (.region [
 ⟨some 7, none, .val (.mv (.const (.int 0)))⟩] [])
 (.block 2 (.loop (.seq (.seq (.region [
 ⟨some 43, none, .val (.mv (.tmp 7))⟩,
 ⟨some 44, none, .val (.fieldAddr 5 (.tmp 6))⟩,
 ⟨some 45, none, .val (.load 1 false (.tmp 44))⟩,
 ⟨some 46, none, .val (.len (.tmp 45))⟩,
 ⟨some 47, none, .val (.bin .lss T.int (.tmp 43) (.tmp 46))⟩] [43, 44, 45, 46])
 (.cond (.tmp 47)
  .skip
 (.exit 2)))
 (.seq (.block 3 (.seq (.region [
 ⟨some 50, none, .val (.fieldAddr 5 (.tmp 6))⟩,
 ⟨some 51, none, .val (.load 1 false (.tmp 50))⟩,
 ⟨some 52, none, .val (.mv (.tmp 7))⟩,
 ⟨some 53, none, .val (.indexAddr 4 (.tmp 51) (.tmp 52))⟩,
 ⟨some 54, none, .val (.load 4 true (.tmp 53))⟩,
 ⟨some 55, none, .call (.const (.func (.func F.podiumref10_Few) [] [])) [(.tmp 54), (.const (.int 4))]⟩,
 ⟨some 56, none, .val (.un .not (.tmp 55))⟩] [50, 51, 52, 53, 54, 55])
 (.cond (.tmp 56)
 (.seq (.region [
 ⟨some 4, none, .val (.mv (.const (.bool false)))⟩] [])
  .ret)
  .skip)))
 (.region [
 ⟨some 48, none, .val (.mv (.tmp 7))⟩,
 ⟨some 49, none, .val (.bin .add T.int (.tmp 48) (.const (.int 1)))⟩,
 ⟨some 7, none, .val (.mv (.tmp 49))⟩] [48, 49]))))))
 (.seq (.region [
 ⟨some 8, none, .val (.mv (.const (.int 0)))⟩] [])
 (.block 4 (.loop (.seq (.seq (.region [
 ⟨some 57, none, .val (.mv (.tmp 8))⟩,
 ⟨some 58, none, .val (.fieldAddr 6 (.tmp 6))⟩,
 ⟨some 59, none, .val (.load 1 false (.tmp 58))⟩,
 ⟨some 60, none, .val (.len (.tmp 59))⟩,
 ⟨some 61, none, .val (.bin .lss T.int (.tmp 57) (.tmp 60))⟩] [57, 58, 59, 60])
 (.cond (.tmp 61)
  .skip
 (.exit 4)))
 (.seq (.block 5 (.seq (.region [
 ⟨some 64, none, .val (.fieldAddr 6 (.tmp 6))⟩,
 ⟨some 65, none, .val (.load 1 false (.tmp 64))⟩,
 ⟨some 66, none, .val (.mv (.tmp 8))⟩,
 ⟨some 67, none, .val (.indexAddr 4 (.tmp 65) (.tmp 66))⟩,
 ⟨some 68, none, .val (.load 4 true (.tmp 67))⟩,
 ⟨some 69, none, .call (.const (.func (.func F.podiumref10_Few) [] [])) [(.tmp 68), (.const (.int 4))]⟩,
 ⟨some 70, none, .val (.un .not (.tmp 69))⟩] [64, 65, 66, 67, 68, 69])
 (.cond (.tmp 70)
 (.seq (.region [
 ⟨some 4, none, .val (.mv (.const (.bool false)))⟩] [])
  .ret)
  .skip)))
 (.region [
 ⟨some 62, none, .val (.mv (.tmp 8))⟩,
 ⟨some 63, none, .val (.bin .add T.int (.tmp 62) (.const (.int 1)))⟩,
 ⟨some 8, none, .val (.mv (.tmp 63))⟩] [62, 63]))))))))))
 (.region [
 ⟨some 21, none, .val (.mv (.tmp 5))⟩,
 ⟨some 22, none, .val (.bin .add T.int (.tmp 21) (.const (.int 1)))⟩,
 ⟨some 5, none, .val (.mv (.tmp 22))⟩] [21, 22]))))))
 (.seq (.region [
 ⟨some 4, none, .val (.mv (.const (.bool true)))⟩] [])
  .ret))))⟩
theorem H.podiumref21_Few : Has P F.podiumref21_Few C.podiumref21_Few := ⟨Try.f15, Try.func15, by kernel_rfl, by kernel_rfl⟩

/-- podium/ties.plain -/
noncomputable def C.ties_plain : MFunc := ⟨48, 1, [.cell 2 2 true, .tmp 3],
 (.seq (.region [
 ⟨some 2, none, .alloc T.tiesorder [.nil, .nil]⟩,
 ⟨some 3, none, .val (.mv (.const (.bool false)))⟩] [])
 (.seq (.region [
 ⟨some 9, none, .val (.fieldAddr 1 (.tmp 2))⟩,
 ⟨some 10, none, .val (.load 1 false (.tmp 9))⟩,
 ⟨some 11, none, .val (.buildSlice T.funcapiKeyedapiKeyedint 1 [(.val .nilFunc)] [(0, 1, (.const (.func (.func F.ties_plain_1) [] [])))])⟩,
 ⟨some 12, none, .append T.funcapiKeyedapiKeyedint 8 1 (.tmp 10) (.tmp 11)⟩,
 ⟨some 13, none, .val (.fieldAddr 1 (.tmp 2))⟩,
 ⟨none, none, .store 1 (.tmp 13) (.tmp 12)⟩] [9, 10, 11, 12, 13])
 (.seq (.region [
 ⟨some 14, none, .call (.const (.func (.func F.ties_kinds) [] [])) []⟩,
 ⟨some 4, none, .val (.mv (.tmp 14))⟩] [14])
 (.seq (.seq (.region [
 ⟨some 15, none, .val (.mv (.tmp 0))⟩,
 ⟨some 16, none, .val (.len (.tmp 15))⟩,
 ⟨some 17, none, .val (.mv (.const (.int 0)))⟩] [])
 (.block 0 (.loop (.seq (.region [
 ⟨some 18, none, .val (.bin .lss T.int (.tmp 17) (.tmp 16))⟩] [])
 (.seq (.cond (.tmp 18)
  .skip
 (.exit 0))
 (.seq (.block 1 (.seq (.region [
 ⟨some 19, none, .val (.indexAddr 3 (.tmp 15) (.tmp 17))⟩,
 ⟨some 20, none, .val (.load 3 true (.tmp 19))⟩,
 ⟨some 6, none, .alloc T.apiKey [(.int 0), (.val (.string ⟨#[]⟩)), (.int 0)]⟩,
 ⟨none, none, .store 3 (.tmp 6) (.tmp 20)⟩] [19, 20])
 (.seq (.region [
 ⟨some 22, none, .val (.mv (.tmp 4))⟩,
 ⟨some 23, none, .val (.fieldAddr 0 (.tmp 6))⟩,
 ⟨some 24, none, .val (.load 1 false (.tmp 23))⟩,
 ⟨some 25, none, .val (.lookup (false, [.int]) (.agg [(.val .nilFunc), (.val .nilFunc)]) true (.tmp 22) (.tmp 24))⟩,
 ⟨some 21, none, .val (.mv (.tmp 25))⟩,
 ⟨some 26, none, .val (.extract 0 (.tmp 21))⟩,
 ⟨some 27, none, .val (.extract 1 (.tmp 21))⟩,
 ⟨some 7, none, .alloc T.tieskind [(.val .nilFunc), (.val .nilFunc)]⟩,
 ⟨none, none, .store 2 (.tmp 7) (.tmp 26)⟩,
 ⟨some 8, none, .val (.mv (.tmp 27))⟩] [22, 23, 24, 25, 21, 26, 27])
 (.seq (.seq (.region [
 ⟨some 28, none, .val (.mv (.tmp 8))⟩,
 ⟨some 29, none, .val (.un .not (.tmp 28))⟩] [28])
 (.cond (.tmp 29)
 (.seq (.region [
 ⟨some 30, none, .val (.load 2 true (.tmp 2))⟩,
 ⟨none, none, .store 2 (.tmp 2) (.tmp 30)⟩,
 ⟨some 3, none, .val (.mv (.const (.bool false)))⟩] [30])
  .ret)
  .skip))
 (.seq (.region [
 ⟨some 31, none, .val (.fieldAddr 0 (.tmp 2))⟩,
 ⟨some 32, none, .val (.load 1 false (.tmp 31))⟩,
 ⟨some 33, none, .val (.mkFunc (.func F.ties_plain_2) [] [(.tmp 7), (.tmp 6)])⟩,
 ⟨some 34, none, .val (.buildSlice T.funcapiKeyedbool 1 [(.val .nilFunc)] [(0, 1, (.tmp 33))])⟩,
 ⟨some 35, none, .append T.funcapiKeyedbool 8 1 (.tmp 32) (.tmp 34)⟩,
 ⟨some 36, none, .val (.fieldAddr 0 (.tmp 2))⟩,
 ⟨none, none, .store 1 (.tmp 36) (.tmp 35)⟩] [31, 32, 33, 34, 35, 36])
 (.region [
 ⟨some 37, none, .val (.fieldAddr 1 (.tmp 2))⟩,
 ⟨some 38, none, .val (.load 1 false (.tmp 37))⟩,
 ⟨some 39, none, .val (.mkFunc (.func F.ties_plain_3) [] [(.tmp 7), (.tmp 6)])⟩,
 ⟨some 40, none, .val (.buildSlice T.funcapiKeyedapiKeyedint 1 [(.val .nilFunc)] [(0, 1, (.tmp 39))])⟩,
 ⟨some 41, none, .append T.funcapiKeyedapiKeyedint 8 1 (.tmp 38) (.tmp 40)⟩,
 ⟨some 42, none, .val (.fieldAddr 1 (.tmp 2))⟩,
 ⟨none, none, .store 1 (.tmp 42) (.tmp 41)⟩] [37, 38, 39, 40, 41, 42]))))))
 (.region [
 ⟨some 43, none, .val (.bin .add T.int (.tmp 17) (.const (.int 1)))⟩,
 ⟨some 17, none, .val (.mv (.tmp 43))⟩] [43])))))))
 (.seq (.region [
 ⟨some 44, none, .val (.load 2 true (.tmp 2))⟩,
 ⟨some 45, none, .val (.mv (.tmp 0))⟩,
 ⟨some 46, none, .val (.len (.tmp 45))⟩,
 ⟨some 47, none, .val (.bin .leq T.int (.tmp 46) (.const (.int 32)))⟩,
 ⟨none, none, .store 2 (.tmp 2) (.tmp 44)⟩,
 ⟨some 3, none, .val (.mv (.tmp 47))⟩] [44, 45, 46, 47])
  .ret)))))⟩
theorem H.ties_plain : Has P F.ties_plain C.ties_plain := ⟨Try.f16, Try.func16, by kernel_rfl, by kernel_rfl⟩

/-- (podium/ties.order).wrong -/
noncomputable def C.ties_order_wrong : MFunc := ⟨32, 2, [.tmp 4],
 (.seq (.region [
 ⟨some 2, none, .box T.tiesorder (.tmp 0)⟩,
 ⟨some 3, none, .box T.apiKeyed (.tmp 1)⟩,
 ⟨some 4, none, .val (.mv (.const (.bool false)))⟩] [])
 (.seq (.seq (.region [
 ⟨some 7, none, .val (.fieldAddr 0 (.tmp 2))⟩,
 ⟨some 8, none, .val (.load 1 false (.tmp 7))⟩,
 ⟨some 9, none, .val (.len (.tmp 8))⟩,
 ⟨some 10, none, .val (.mv (.const (.int 0)))⟩] [7])
 (.block 0 (.loop (.seq (.region [
 ⟨some 11, none, .val (.bin .lss T.int (.tmp 10) (.tmp 9))⟩] [])
 (.seq (.cond (.tmp 11)
  .skip
 (.exit 0))
 (.seq (.block 1 (.seq (.region [
 ⟨some 12, none, .val (.indexAddr 1 (.tmp 8) (.tmp 10))⟩,
 ⟨some 13, none, .val (.load 1 false (.tmp 12))⟩,
 ⟨some 6, none, .val (.mv (.tmp 13))⟩] [12, 13])
 (.seq (.region [
 ⟨some 14, none, .val (.mv (.tmp 6))⟩,
 ⟨some 15, none, .val (.load 10 true (.tmp 3))⟩,
 ⟨some 16, none, .call (.tmp 14) [(.tmp 15)]⟩,
 ⟨some 17, none, .val (.un .not (.tmp 16))⟩] [14, 15, 16])
 (.cond (.tmp 17)
 (.seq (.region [
 ⟨some 4, none, .val (.mv (.const (.bool true)))⟩] [])
  .ret)
  .skip))))
 (.region [
 ⟨some 18, none, .val (.bin .add T.int (.tmp 10) (.const (.int 1)))⟩,
 ⟨some 10, none, .val (.mv (.tmp 18))⟩] [18])))))))
 (.seq (.region [
 ⟨some 19, none, .val (.fieldAddr 1 (.tmp 3))⟩,
 ⟨some 20, none, .val (.load 4 true (.tmp 19))⟩,
 ⟨some 21, none, .call (.const (.func (.func F.ties_odd) [] [])) [(.tmp 20)]⟩,
 ⟨some 22, none, .val (.mv (.tmp 21))⟩,
 ⟨some 23, some (22, false), .val (.fieldAddr 5 (.tmp 3))⟩,
 ⟨some 24, some (22, false), .val (.load 1 false (.tmp 23))⟩,
 ⟨some 25, some (22, false), .call (.const (.func (.func F.slices_ContainsFunc__LapiRatio_apiRatio) [] [])) [(.tmp 24), (.const (.func (.func F.ties_odd) [] []))]⟩,
 ⟨some 26, none, .val (.pick (.tmp 22) (.const (.bool true)) (.tmp 25))⟩,
 ⟨some 27, none, .val (.mv (.tmp 26))⟩,
 ⟨some 28, some (27, false), .val (.fieldAddr 6 (.tmp 3))⟩,
 ⟨some 29, some (27, false), .val (.load 1 false (.tmp 28))⟩,
 ⟨some 30, some (27, false), .call (.const (.func (.func F.slices_ContainsFunc__LapiRatio_apiRatio) [] [])) [(.tmp 29), (.const (.func (.func F.ties_odd) [] []))]⟩,
 ⟨some 31, none, .val (.pick (.tmp 27) (.const (.bool true)) (.tmp 30))⟩,
 ⟨some 4, none, .val (.mv (.tmp 31))⟩] [19, 20, 21, 22, 23, 24, 25, 26, 27, 28, 29, 30, 31])
  .ret)))⟩
theorem H.ties_order_wrong : Has P F.ties_order_wrong C.ties_order_wrong := ⟨Try.f17, Try.func17, by kernel_rfl, by kernel_rfl⟩

/-- (podium/ties.order).compare -/
noncomputable def C.ties_order_compare : MFunc := ⟨28, 3, [.tmp 6, .tmp 7],
 (.seq (.region [
 ⟨some 3, none, .box T.tiesorder (.tmp 0)⟩,
 ⟨some 4, none, .box T.apiKeyed (.tmp 1)⟩,
 ⟨some 5, none, .box T.apiKeyed (.tmp 2)⟩,
 ⟨some 6, none, .val (.mv (.const (.int 0)))⟩,
 ⟨some 7, none, .val (.mv (.const (.int 0)))⟩] [])
 (.seq (.seq (.region [
 ⟨some 11, none, .val (.fieldAddr 1 (.tmp 3))⟩,
 ⟨some 12, none, .val (.load 1 false (.tmp 11))⟩,
 ⟨some 13, none, .val (.len (.tmp 12))⟩,
 ⟨some 14, none, .val (.mv (.const (.int 0)))⟩] [11])
 (.block 0 (.loop (.seq (.region [
 ⟨some 15, none, .val (.bin .lss T.int (.tmp 14) (.tmp 13))⟩] [])
 (.seq (.cond (.tmp 15)
  .skip
 (.exit 0))
 (.seq (.block 1 (.seq (.region [
 ⟨some 16, none, .val (.mv (.tmp 14))⟩,
 ⟨some 17, none, .val (.indexAddr 1 (.tmp 12) (.tmp 14))⟩,
 ⟨some 18, none, .val (.load 1 false (.tmp 17))⟩,
 ⟨some 8, none, .val (.mv (.tmp 16))⟩,
 ⟨some 9, none, .val (.mv (.tmp 18))⟩] [16, 17, 18])
 (.seq (.region [
 ⟨some 19, none, .val (.mv (.tmp 9))⟩,
 ⟨some 20, none, .val (.load 10 true (.tmp 4))⟩,
 ⟨some 21, none, .val (.load 10 true (.tmp 5))⟩,
 ⟨some 22, none, .call (.tmp 19) [(.tmp 20), (.tmp 21)]⟩,
 ⟨some 10, none, .val (.mv (.tmp 22))⟩] [19, 20, 21, 22])
 (.seq (.region [
 ⟨some 23, none, .val (.mv (.tmp 10))⟩,
 ⟨some 24, none, .val (.bin .neq T.int (.tmp 23) (.const (.int 0)))⟩] [23])
 (.cond (.tmp 24)
 (.seq (.region [
 ⟨some 25, none, .val (.mv (.tmp 10))⟩,
 ⟨some 26, none, .val (.mv (.tmp 8))⟩,
 ⟨some 6, none, .val (.mv (.tmp 25))⟩,
 ⟨some 7, none, .val (.mv (.tmp 26))⟩] [25, 26])
  .ret)
  .skip)))))
 (.region [
 ⟨some 27, none, .val (.bin .add T.int (.tmp 14) (.const (.int 1)))⟩,
 ⟨some 14, none, .val (.mv (.tmp 27))⟩] [27])))))))
 (.seq (.region [
 ⟨some 6, none, .val (.mv (.const (.int 0)))⟩,
 ⟨some 7, none, .val (.mv (.const (.int (-1))))⟩] [])
  .ret)))⟩
theorem H.ties_order_compare : Has P F.ties_order_compare C.ties_order_compare := ⟨Try.f18, Try.func18, by kernel_rfl, by kernel_rfl⟩

/-- slices.ContainsFunc[[]podium/api.Keyed,podium/api.Keyed] -/
noncomputable def C.slices_ContainsFunc__LapiKeyed_apiKeyed : MFunc := ⟨9, 2, [.tmp 4],
 (.seq (.region [
 ⟨some 4, none, .val (.mv (.const (.bool false)))⟩] [])
 (.seq (.region [
 ⟨some 5, none, .val (.mv (.tmp 0))⟩,
 ⟨some 6, none, .val (.mv (.tmp 1))⟩,
 ⟨some 7, none, .call (.const (.func (.func F.slices_IndexFunc__LapiKeyed_apiKeyed) [] [])) [(.tmp 5), (.tmp 6)]⟩,
 ⟨some 8, none, .val (.bin .geq T.int (.tmp 7) (.const (.int 0)))⟩,
 ⟨some 4, none, .val (.mv (.tmp 8))⟩] [5, 6, 7, 8])
  .ret))⟩
theorem H.slices_ContainsFunc__LapiKeyed_apiKeyed : Has P F.slices_ContainsFunc__LapiKeyed_apiKeyed C.slices_ContainsFunc__LapiKeyed_apiKeyed := ⟨Try.f19, Try.func19, by kernel_rfl, by kernel_rfl⟩

/-- slices.SortStableFunc[[]int,int] -/
noncomputable def C.slices_SortStableFunc__Lint_int : MFunc := ⟨9, 2, [],
 (.region [
 ⟨some 4, none, .val (.mv (.tmp 0))⟩,
 ⟨some 5, none, .val (.mv (.tmp 0))⟩,
 ⟨some 6, none, .val (.len (.tmp 5))⟩,
 ⟨some 7, none, .val (.mv (.tmp 1))⟩,
 ⟨some 8, none, .call (.const (.func (.func F.slices_stableCmpFunc__int) [] [])) [(.tmp 4), (.tmp 6), (.tmp 7)]⟩] [4, 5, 6, 7, 8])⟩
theorem H.slices_SortStableFunc__Lint_int : Has P F.slices_SortStableFunc__Lint_int C.slices_SortStableFunc__Lint_int := ⟨Try.f20, Try.func20, by kernel_rfl, by kernel_rfl⟩

/-- (podium/ties.sorter).before -/
noncomputable def C.ties_sorter_before : MFunc := ⟨41, 3, [.tmp 6],
 (.seq (.region [
 ⟨some 3, none, .box T.tiessorter (.tmp 0)⟩,
 ⟨some 6, none, .val (.mv (.const (.int 0)))⟩] [])
 (.seq (.draw true [
 (.early, ⟨some 10, none, .val (.fieldAddr 0 (.tmp 3))⟩),
 (.early, ⟨some 11, none, .val (.load 2 true (.tmp 10))⟩),
 (.early, ⟨some 12, none, .val (.fieldAddr 2 (.tmp 3))⟩),
 (.early, ⟨some 13, none, .val (.load 1 false (.tmp 12))⟩),
 (.early, ⟨some 14, none, .val (.mv (.tmp 1))⟩),
 (.early, ⟨some 15, none, .val (.indexAddr 10 (.tmp 13) (.tmp 14))⟩),
 (.early, ⟨some 16, none, .val (.load 10 true (.tmp 15))⟩),
 (.early, ⟨some 17, none, .val (.fieldAddr 2 (.tmp 3))⟩),
 (.early, ⟨some 18, none, .val (.load 1 false (.tmp 17))⟩),
 (.early, ⟨some 19, none, .val (.mv (.tmp 2))⟩),
 (.early, ⟨some 20, none, .val (.indexAddr 10 (.tmp 18) (.tmp 19))⟩),
 (.early, ⟨some 21, none, .val (.load 10 true (.tmp 20))⟩),
 (.hard, ⟨some 22, none, .call (.const (.func (.func F.ties_order_compare) [] [])) [(.tmp 11), (.tmp 16), (.tmp 21)]⟩),
 (.late, ⟨some 9, none, .val (.mv (.tmp 22))⟩),
 (.late, ⟨some 23, none, .val (.extract 0 (.tmp 9))⟩),
 (.late, ⟨some 24, none, .val (.extract 1 (.tmp 9))⟩),
 (.late, ⟨some 7, none, .val (.mv (.tmp 23))⟩),
 (.late, ⟨some 8, none, .val (.mv (.tmp 24))⟩)] [10, 11, 12, 13, 14, 15, 16, 17, 18, 19, 20, 21, 22, 9, 23, 24, 8])
 (.seq (.draw true [
 (.late, ⟨some 25, none, .val (.mv (.tmp 7))⟩),
 (.early, ⟨some 26, none, .val (.fieldAddr 2 (.tmp 3))⟩),
 (.early, ⟨some 27, none, .val (.load 1 false (.tmp 26))⟩),
 (.early, ⟨some 28, none, .val (.mv (.tmp 1))⟩),
 (.early, ⟨some 29, none, .val (.indexAddr 10 (.tmp 27) (.tmp 28))⟩),
 (.early, ⟨some 30, none, .val (.fieldAddr 0 (.tmp 29))⟩),
 (.early, ⟨some 31, none, .val (.load 1 false (.tmp 30))⟩),
 (.early, ⟨some 32, none, .val (.fieldAddr 2 (.tmp 3))⟩),
 (.early, ⟨some 33, none, .val (.load 1 false (.tmp 32))⟩),
 (.early, ⟨some 34, none, .val (.mv (.tmp 2))⟩),
 (.early, ⟨some 35, none, .val (.indexAddr 10 (.tmp 33) (.tmp 34))⟩),
 (.early, ⟨some 36, none, .val (.fieldAddr 0 (.tmp 35))⟩),
 (.early, ⟨some 37, none, .val (.load 1 false (.tmp 36))⟩),
 (.hard, ⟨some 38, none, .call (.const (.func (.func F.cmp_Compare__int) [] [])) [(.tmp 31), (.tmp 37)]⟩),
 (.late, ⟨some 39, none, .val (.buildSlice T.int 2 [(.int 0), (.int 0)] [(0, 1, (.tmp 25)), (1, 1, (.tmp 38))])⟩),
 (.hard, ⟨some 40, none, .call (.const (.func (.func F.cmp_Or__int) [] [])) [(.tmp 39)]⟩),
 (.late, ⟨some 6, none, .val (.mv (.tmp 40))⟩)] [25, 26, 27, 28, 29, 30, 31, 32, 33, 34, 35, 36, 37, 38, 39, 40])
  .ret)))⟩
theorem H.ties_sorter_before : Has P F.ties_sorter_before C.ties_sorter_before := ⟨Try.f21, Try.func21, by kernel_rfl, by kernel_rfl⟩

/-- podium/podiumref10.Int -/
noncomputable def C.podiumref10_Int : MFunc := ⟨7, 1, [.cell 2 4 true],
 (.seq (.region [
 ⟨some 2, none, .alloc T.apiRatio [(.bool false), .nil, (.bool false), .nil]⟩] [])
 (.seq (.region [
 ⟨some 3, none, .val (.mv (.tmp 0))⟩,
 ⟨some 4, none, .call (.const (.func (.func F.podiumref09_Make) [] [])) [(.tmp 3)]⟩,
 ⟨some 5, none, .call (.const (.func (.func F.podiumref09_Make) [] [])) [(.const (.int 1))]⟩,
 ⟨some 6, none, .val (.build [(.bool false), .nil, (.bool false), .nil] [(0, 2, (.tmp 4)), (2, 2, (.tmp 5))])⟩,
 ⟨none, none, .store 4 (.tmp 2) (.tmp 6)⟩] [3, 4, 5, 6])
  .ret))⟩
theorem H.podiumref10_Int : Has P F.podiumref10_Int C.podiumref10_Int := ⟨Try.f22, Try.func22, by kernel_rfl, by kernel_rfl⟩

/-- podium/podiumref21.few -/
noncomputable def C.podiumref21_few : MFunc := ⟨20, 1, [.tmp 2],
 (.seq (.region [
 ⟨some 1, none, .box T.apiRatio (.tmp 0)⟩,
 ⟨some 2, none, .val (.mv (.const (.bool false)))⟩] [])
 (.seq (.region [
 ⟨some 3, none, .val (.load 4 true (.tmp 1))⟩,
 ⟨some 4, none, .call (.const (.func (.func F.podiumref10_Check) [] [])) [(.tmp 3)]⟩,
 ⟨some 5, none, .val (.bin .eql T.apiErrno (.tmp 4) (.const (.int 0)))⟩,
 ⟨some 6, none, .val (.mv (.tmp 5))⟩,
 ⟨some 7, some (6, true), .val (.fieldAddr 0 (.tmp 1))⟩,
 ⟨some 8, some (6, true), .val (.fieldAddr 1 (.tmp 7))⟩,
 ⟨some 9, some (6, true), .val (.load 1 false (.tmp 8))⟩,
 ⟨some 10, some (6, true), .val (.len (.tmp 9))⟩,
 ⟨some 11, some (6, true), .val (.bin .leq T.int (.tmp 10) (.const (.int 1024)))⟩,
 ⟨some 12, none, .val (.pick (.tmp 6) (.tmp 11) (.const (.bool false)))⟩,
 ⟨some 13, none, .val (.mv (.tmp 12))⟩,
 ⟨some 14, some (13, true), .val (.fieldAddr 2 (.tmp 1))⟩,
 ⟨some 15, some (13, true), .val (.fieldAddr 1 (.tmp 14))⟩,
 ⟨some 16, some (13, true), .val (.load 1 false (.tmp 15))⟩,
 ⟨some 17, some (13, true), .val (.len (.tmp 16))⟩,
 ⟨some 18, some (13, true), .val (.bin .leq T.int (.tmp 17) (.const (.int 1024)))⟩,
 ⟨some 19, none, .val (.pick (.tmp 13) (.tmp 18) (.const (.bool false)))⟩,
 ⟨some 2, none, .val (.mv (.tmp 19))⟩] [3, 4, 5, 6, 7, 8, 9, 10, 11, 12, 13, 14, 15, 16, 17, 18, 19])
  .ret))⟩
theorem H.podiumref21_few : Has P F.podiumref21_few C.podiumref21_few := ⟨Try.f23, Try.func23, by kernel_rfl, by kernel_rfl⟩

/-- podium/podiumref10.Few -/
noncomputable def C.podiumref10_Few : MFunc := ⟨15, 2, [.tmp 4],
 (.seq (.region [
 ⟨some 2, none, .box T.apiRatio (.tmp 0)⟩,
 ⟨some 4, none, .val (.mv (.const (.bool false)))⟩] [])
 (.seq (.region [
 ⟨some 5, none, .val (.fieldAddr 0 (.tmp 2))⟩,
 ⟨some 6, none, .val (.load 2 true (.tmp 5))⟩,
 ⟨some 7, none, .val (.mv (.tmp 1))⟩,
 ⟨some 8, none, .call (.const (.func (.func F.podiumref10_FewBig) [] [])) [(.tmp 6), (.tmp 7)]⟩,
 ⟨some 9, none, .val (.mv (.tmp 8))⟩,
 ⟨some 10, some (9, true), .val (.fieldAddr 2 (.tmp 2))⟩,
 ⟨some 11, some (9, true), .val (.load 2 true (.tmp 10))⟩,
 ⟨some 12, some (9, true), .val (.mv (.tmp 1))⟩,
 ⟨some 13, some (9, true), .call (.const (.func (.func F.podiumref10_FewBig) [] [])) [(.tmp 11), (.tmp 12)]⟩,
 ⟨some 14, none, .val (.pick (.tmp 9) (.tmp 13) (.const (.bool false)))⟩,
 ⟨some 4, none, .val (.mv (.tmp 14))⟩] [5, 6, 7, 8, 9, 10, 11, 12, 13, 14])
  .ret))⟩
theorem H.podiumref10_Few : Has P F.podiumref10_Few C.podiumref10_Few := ⟨Try.f24, Try.func24, by kernel_rfl, by kernel_rfl⟩

/-- podium/ties.plain$1 -/
noncomputable def C.ties_plain_1 : MFunc := ⟨10, 2, [.tmp 4],
 (.seq (.region [
 ⟨some 2, none, .box T.apiKeyed (.tmp 0)⟩,
 ⟨some 3, none, .box T.apiKeyed (.tmp 1)⟩,
 ⟨some 4, none, .val (.mv (.const (.int 0)))⟩] [])
 (.seq (.region [
 ⟨some 5, none, .val (.fieldAddr 1 (.tmp 2))⟩,
 ⟨some 6, none, .val (.load 4 true (.tmp 5))⟩,
 ⟨some 7, none, .val (.fieldAddr 1 (.tmp 3))⟩,
 ⟨some 8, none, .val (.load 4 true (.tmp 7))⟩,
 ⟨some 9, none, .call (.const (.func (.func F.ties_greater) [] [])) [(.tmp 6), (.tmp 8)]⟩,
 ⟨some 4, none, .val (.mv (.tmp 9))⟩] [5, 6, 7, 8, 9])
  .ret))⟩
theorem H.ties_plain_1 : Has P F.ties_plain_1 C.ties_plain_1 := ⟨Try.f25, Try.func25, by kernel_rfl, by kernel_rfl⟩

/-- podium/ties.greater -/
noncomputable def C.ties_greater : MFunc := ⟨14, 2, [.tmp 4],
 (.seq (.region [
 ⟨some 2, none, .box T.apiRatio (.tmp 0)⟩,
 ⟨some 3, none, .box T.apiRatio (.tmp 1)⟩,
 ⟨some 4, none, .val (.mv (.const (.int 0)))⟩] [])
 (.seq (.region [
 ⟨some 8, none, .val (.load 4 true (.tmp 3))⟩,
 ⟨some 9, none, .val (.load 4 true (.tmp 2))⟩,
 ⟨some 10, none, .call (.const (.func (.func F.ratio_Cmp) [] [])) [(.tmp 8), (.tmp 9)]⟩,
 ⟨some 7, none, .val (.mv (.tmp 10))⟩,
 ⟨some 11, none, .val (.extract 0 (.tmp 7))⟩,
 ⟨some 12, none, .val (.extract 1 (.tmp 7))⟩,
 ⟨some 5, none, .val (.mv (.tmp 11))⟩,
 ⟨some 6, none, .val (.mv (.tmp 12))⟩] [8, 9, 10, 7, 11, 12, 6])
 (.seq (.region [
 ⟨some 13, none, .val (.mv (.tmp 5))⟩,
 ⟨some 4, none, .val (.mv (.tmp 13))⟩] [13])
  .ret)))⟩
theorem H.ties_greater : Has P F.ties_greater C.ties_greater := ⟨Try.f26, Try.func26, by kernel_rfl, by kernel_rfl⟩

/-- podium/ties.kinds -/
noncomputable def C.ties_kinds : MFunc := ⟨15, 0, [.tmp 0],
 (.seq (.region [
 ⟨some 0, none, .val (.mv (.const (.val (.map none))))⟩] [])
 (.seq (.region [
 ⟨some 1, none, .val (.mv (.const (.func (.func F.ties_kinds_1) [] [])))⟩] [])
 (.seq (.region [
 ⟨some 2, none, .val (.mv (.const (.func (.func F.ties_kinds_2) [] [])))⟩] [])
 (.seq (.region [
 ⟨some 3, none, .mkMap⟩,
 ⟨some 4, none, .val (.mv (.tmp 2))⟩,
 ⟨some 5, none, .call (.tmp 4) [(.const (.func (.func F.ties_kinds_3) [] []))]⟩,
 ⟨none, none, .mapSet (false, [.int]) (.tmp 3) (.const (.int 1)) (.tmp 5)⟩,
 ⟨some 6, none, .val (.mv (.tmp 2))⟩,
 ⟨some 7, none, .call (.tmp 6) [(.const (.func (.func F.ties_kinds_4) [] []))]⟩,
 ⟨none, none, .mapSet (false, [.int]) (.tmp 3) (.const (.int 2)) (.tmp 7)⟩,
 ⟨some 8, none, .val (.mv (.tmp 1))⟩,
 ⟨some 9, none, .val (.build [(.val .nilFunc), (.val .nilFunc)] [(0, 1, (.tmp 8)), (1, 1, (.const (.func (.func F.ties_kinds_5) [] [])))])⟩,
 ⟨none, none, .mapSet (false, [.int]) (.tmp 3) (.const (.int 3)) (.tmp 9)⟩,
 ⟨some 10, none, .val (.mv (.tmp 1))⟩,
 ⟨some 11, none, .val (.build [(.val .nilFunc), (.val .nilFunc)] [(0, 1, (.tmp 10)), (1, 1, (.const (.func (.func F.ties_kinds_6) [] [])))])⟩,
 ⟨none, none, .mapSet (false, [.int]) (.tmp 3) (.const (.int 4)) (.tmp 11)⟩,
 ⟨some 12, none, .val (.mv (.tmp 1))⟩,
 ⟨some 13, none, .val (.build [(.val .nilFunc), (.val .nilFunc)] [(0, 1, (.tmp 12)), (1, 1, (.const (.func (.func F.ties_kinds_7) [] [])))])⟩,
 ⟨none, none, .mapSet (false, [.int]) (.tmp 3) (.const (.int 6)) (.tmp 13)⟩,
 ⟨some 14, none, .val (.mv (.tmp 3))⟩,
 ⟨some 0, none, .val (.mv (.tmp 14))⟩] [3, 4, 5, 6, 7, 8, 9, 10, 11, 12, 13, 14])
  .ret))))⟩
theorem H.ties_kinds : Has P F.ties_kinds C.ties_kinds := ⟨Try.f27, Try.func27, by kernel_rfl, by kernel_rfl⟩

/-- podium/ties.plain$2 -/
noncomputable def C.ties_plain_2 : MFunc := ⟨10, 3, [.tmp 4],
 (.seq (.region [
 ⟨some 3, none, .box T.apiKeyed (.tmp 0)⟩,
 ⟨some 4, none, .val (.mv (.const (.bool false)))⟩] [])
 (.seq (.region [
 ⟨some 5, none, .val (.fieldAddr 0 (.tmp 1))⟩,
 ⟨some 6, none, .val (.load 1 false (.tmp 5))⟩,
 ⟨some 7, none, .val (.load 3 true (.tmp 2))⟩,
 ⟨some 8, none, .val (.load 10 true (.tmp 3))⟩,
 ⟨some 9, none, .call (.tmp 6) [(.tmp 7), (.tmp 8)]⟩,
 ⟨some 4, none, .val (.mv (.tmp 9))⟩] [5, 6, 7, 8, 9])
  .ret))⟩
theorem H.ties_plain_2 : Has P F.ties_plain_2 C.ties_plain_2 := ⟨Try.f28, Try.func28, by kernel_rfl, by kernel_rfl⟩

/-- podium/ties.plain$3 -/
noncomputable def C.ties_plain_3 : MFunc := ⟨13, 4, [.tmp 6],
 (.seq (.region [
 ⟨some 4, none, .box T.apiKeyed (.tmp 0)⟩,
 ⟨some 5, none, .box T.apiKeyed (.tmp 1)⟩,
 ⟨some 6, none, .val (.mv (.const (.int 0)))⟩] [])
 (.seq (.region [
 ⟨some 7, none, .val (.fieldAddr 1 (.tmp 2))⟩,
 ⟨some 8, none, .val (.load 1 false (.tmp 7))⟩,
 ⟨some 9, none, .val (.load 3 true (.tmp 3))⟩,
 ⟨some 10, none, .val (.load 10 true (.tmp 4))⟩,
 ⟨some 11, none, .val (.load 10 true (.tmp 5))⟩,
 ⟨some 12, none, .call (.tmp 8) [(.tmp 9), (.tmp 10), (.tmp 11)]⟩,
 ⟨some 6, none, .val (.mv (.tmp 12))⟩] [7, 8, 9, 10, 11, 12])
  .ret))⟩
theorem H.ties_plain_3 : Has P F.ties_plain_3 C.ties_plain_3 := ⟨Try.f29, Try.func29, by kernel_rfl, by kernel_rfl⟩

/-- podium/ties.odd -/
noncomputable def C.ties_odd : MFunc := ⟨18, 1, [.tmp 2],
 (.seq (.region [
 ⟨some 1, none, .box T.apiRatio (.tmp 0)⟩,
 ⟨some 2, none, .val (.mv (.const (.bool false)))⟩] [])
 (.seq (.region [
 ⟨some 3, none, .val (.load 4 true (.tmp 1))⟩,
 ⟨some 4, none, .call (.const (.func (.func F.ratio_Check) [] [])) [(.tmp 3)]⟩,
 ⟨some 5, none, .val (.bin .neq T.apiErrno (.tmp 4) (.const (.int 0)))⟩,
 ⟨some 6, none, .val (.mv (.tmp 5))⟩,
 ⟨some 7, some (6, false), .val (.fieldAddr 0 (.tmp 1))⟩,
 ⟨some 8, some (6, false), .val (.fieldAddr 1 (.tmp 7))⟩,
 ⟨some 9, some (6, false), .val (.load 1 false (.tmp 8))⟩,
 ⟨some 10, some (6, false), .val (.len (.tmp 9))⟩,
 ⟨some 11, some (6, false), .val (.fieldAddr 2 (.tmp 1))⟩,
 ⟨some 12, some (6, false), .val (.fieldAddr 1 (.tmp 11))⟩,
 ⟨some 13, some (6, false), .val (.load 1 false (.tmp 12))⟩,
 ⟨some 14, some (6, false), .val (.len (.tmp 13))⟩,
 ⟨some 15, some (6, false), .val (.minmax true [(.tmp 10), (.tmp 14)])⟩,
 ⟨some 16, some (6, false), .val (.bin .gtr T.int (.tmp 15) (.const (.int 1024)))⟩,
 ⟨some 17, none, .val (.pick (.tmp 6) (.const (.bool true)) (.tmp 16))⟩,
 ⟨some 2, none, .val (.mv (.tmp 17))⟩] [3, 4, 5, 6, 7, 8, 9, 10, 11, 12, 13, 14, 15, 16, 17])
  .ret))⟩
theorem H.ties_odd : Has P F.ties_odd C.ties_odd := ⟨Try.f30, Try.func30, by kernel_rfl, by kernel_rfl⟩

/-- slices.ContainsFunc[[]podium/api.Ratio,podium/api.Ratio] -/
noncomputable def C.slices_ContainsFunc__LapiRatio_apiRatio : MFunc := ⟨9, 2, [.tmp 4],
 (.seq (.region [
 ⟨some 4, none, .val (.mv (.const (.bool false)))⟩] [])
 (.seq (.region [
 ⟨some 5, none, .val (.mv (.tmp 0))⟩,
 ⟨some 6, none, .val (.mv (.tmp 1))⟩,
 ⟨some 7, none, .call (.const (.func (.func F.slices_IndexFunc__LapiRatio_apiRatio) [] [])) [(.tmp 5), (.tmp 6)]⟩,
 ⟨some 8, none, .val (.bin .geq T.int (.tmp 7) (.const (.int 0)))⟩,
 ⟨some 4, none, .val (.mv (.tmp 8))⟩] [5, 6, 7, 8])
  .ret))⟩
theorem H.slices_ContainsFunc__LapiRatio_apiRatio : Has P F.slices_ContainsFunc__LapiRatio_apiRatio C.slices_ContainsFunc__LapiRatio_apiRatio := ⟨Try.f31, Try.func31, by kernel_rfl, by kernel_rfl⟩

/-- slices.IndexFunc[[]podium/api.Keyed,podium/api.Keyed] -/
noncomputable def C.slices_IndexFunc__LapiKeyed_apiKeyed : MFunc := ⟨19, 2, [.tmp 4],
 (.seq (.region [
 ⟨some 4, none, .val (.mv (.const (.int 0)))⟩] [])
 (.seq (.seq (.region [
 ⟨some 6, none, .val (.mv (.tmp 0))⟩,
 ⟨some 7, none, .val (.len (.tmp 6))⟩,
 ⟨some 8, none, .val (.mv (.const (.int 0)))⟩] [6])
 (.block 0 (.loop (.seq (.region [
 ⟨some 9, none, .val (.bin .lss T.int (.tmp 8) (.tmp 7))⟩] [])
 (.seq (.cond (.tmp 9)
  .skip
 (.exit 0))
 (.seq (.block 1 (.seq (.region [
 ⟨some 10, none, .val (.mv (.tmp 8))⟩,
 ⟨some 5, none, .val (.mv (.tmp 10))⟩] [10])
 (.seq (.region [
 ⟨some 11, none, .val (.mv (.tmp 1))⟩,
 ⟨some 12, none, .val (.mv (.tmp 0))⟩,
 ⟨some 13, none, .val (.mv (.tmp 5))⟩,
 ⟨some 14, none, .val (.indexAddr 10 (.tmp 12) (.tmp 13))⟩,
 ⟨some 15, none, .val (.load 10 true (.tmp 14))⟩,
 ⟨some 16, none, .call (.tmp 11) [(.tmp 15)]⟩] [11, 12, 13, 14, 15])
 (.cond (.tmp 16)
 (.seq (.region [
 ⟨some 17, none, .val (.mv (.tmp 5))⟩,
 ⟨some 4, none, .val (.mv (.tmp 17))⟩] [17])
  .ret)
  .skip))))
 (.region [
 ⟨some 18, none, .val (.bin .add T.int (.tmp 8) (.const (.int 1)))⟩,
 ⟨some 8, none, .val (.mv (.tmp 18))⟩] [18])))))))
 (.seq (.region [
 ⟨some 4, none, .val (.mv (.const (.int (-1))))⟩] [])
  .ret)))⟩
theorem H.slices_IndexFunc__LapiKeyed_apiKeyed : Has P F.slices_IndexFunc__LapiKeyed_apiKeyed C.slices_IndexFunc__LapiKeyed_apiKeyed := ⟨Try.f32, Try.func32, by kernel_rfl, by kernel_rfl⟩

/-- slices.stableCmpFunc[int] -/
noncomputable def C.slices_stableCmpFunc__int : MFunc := ⟨63, 3, [],
 (.seq (.region [
 ⟨some 6, none, .val (.mv (.const (.int 20)))⟩] [])
 (.seq (.region [
 ⟨some 10, none, .val (.mv (.tmp 6))⟩,
 ⟨some 7, none, .val (.mv (.const (.int 0)))⟩,
 ⟨some 8, none, .val (.mv (.tmp 10))⟩] [10])
 (.seq (.block 0 (.loop (.seq (.seq (.region [
 ⟨some 11, none, .val (.mv (.tmp 8))⟩,
 ⟨some 12, none, .val (.mv (.tmp 1))⟩,
 ⟨some 13, none, .val (.bin .leq T.int (.tmp 11) (.tmp 12))⟩] [11, 12])
 (.cond (.tmp 13)
  .skip
 (.exit 0)))
 (.block 1 (.seq (.region [
 ⟨some 14, none, .val (.mv (.tmp 0))⟩,
 ⟨some 15, none, .val (.mv (.tmp 7))⟩,
 ⟨some 16, none, .val (.mv (.tmp 8))⟩,
 ⟨some 17, none, .val (.mv (.tmp 2))⟩,
 ⟨some 18, none, .call (.const (.func (.func F.slices_insertionSortCmpFunc__int) [] [])) [(.tmp 14), (.tmp 15), (.tmp 16), (.tmp 17)]⟩] [14, 15, 16, 17, 18])
 (.seq (.region [
 ⟨some 19, none, .val (.mv (.tmp 8))⟩,
 ⟨some 7, none, .val (.mv (.tmp 19))⟩] [19])
 (.region [
 ⟨some 20, none, .val (.mv (.tmp 8))⟩,
 ⟨some 21, none, .val (.mv (.tmp 6))⟩,
 ⟨some 22, none, .val (.bin .add T.int (.tmp 20) (.tmp 21))⟩,
 ⟨some 8, none, .val (.mv (.tmp 22))⟩] [20, 21, 22])))))))
 (.seq (.region [
 ⟨some 23, none, .val (.mv (.tmp 0))⟩,
 ⟨some 24, none, .val (.mv (.tmp 7))⟩,
 ⟨some 25, none, .val (.mv (.tmp 1))⟩,
 ⟨some 26, none, .val (.mv (.tmp 2))⟩,
 ⟨some 27, none, .call (.const (.func (.func F.slices_insertionSortCmpFunc__int) [] [])) [(.tmp 23), (.tmp 24), (.tmp 25), (.tmp 26)]⟩] [23, 24, 25, 26, 27])
 (.block 2 (.loop (.seq (.seq (.region [
 ⟨some 28, none, .val (.mv (.tmp 6))⟩,
 ⟨some 29, none, .val (.mv (.tmp 1))⟩,
 ⟨some 30, none, .val (.bin .lss T.int (.tmp 28) (.tmp 29))⟩] [28, 29])
 (.cond (.tmp 30)
  .skip
 (.exit 2)))
 (.block 3 (.seq (.region [
 ⟨some 31, none, .val (.mv (.tmp 6))⟩,
 ⟨some 32, none, .val (.bin .mul T.int (.const (.int 2)) (.tmp 31))⟩,
 ⟨some 7, none, .val (.mv (.const (.int 0)))⟩,
 ⟨some 8, none, .val (.mv (.tmp 32))⟩] [31, 32])
 (.seq (.block 4 (.loop (.seq (.seq (.region [
 ⟨some 33, none, .val (.mv (.tmp 8))⟩,
 ⟨some 34, none, .val (.mv (.tmp 1))⟩,
 ⟨some 35, none, .val (.bin .leq T.int (.tmp 33) (.tmp 34))⟩] [33, 34])
 (.cond (.tmp 35)
  .skip
 (.exit 4)))
 (.block 5 (.seq (.region [
 ⟨some 36, none, .val (.mv (.tmp 0))⟩,
 ⟨some 37, none, .val (.mv (.tmp 7))⟩,
 ⟨some 38, none, .val (.mv (.tmp 7))⟩,
 ⟨some 39, none, .val (.mv (.tmp 6))⟩,
 ⟨some 40, none, .val (.bin .add T.int (.tmp 38) (.tmp 39))⟩,
 ⟨some 41, none, .val (.mv (.tmp 8))⟩,
 ⟨some 42, none, .val (.mv (.tmp 2))⟩,
 ⟨some 43, none, .call (.const (.func (.func F.slices_symMergeCmpFunc__int) [] [])) [(.tmp 36), (.tmp 37), (.tmp 40), (.tmp 41), (.tmp 42)]⟩] [36, 37, 38, 39, 40, 41, 42, 43])
 (.seq (.region [
 ⟨some 44, none, .val (.mv (.tmp 8))⟩,
 ⟨some 7, none, .val (.mv (.tmp 44))⟩] [44])
 (.region [
 ⟨some 45, none, .val (.mv (.tmp 8))⟩,
 ⟨some 46, none, .val (.mv (.tmp 6))⟩,
 ⟨some 47, none, .val (.bin .mul T.int (.const (.int 2)) (.tmp 46))⟩,
 ⟨some 48, none, .val (.bin .add T.int (.tmp 45) (.tmp 47))⟩,
 ⟨some 8, none, .val (.mv (.tmp 48))⟩] [45, 46, 47, 48])))))))
 (.seq (.seq (.region [
 ⟨some 49, none, .val (.mv (.tmp 7))⟩,
 ⟨some 50, none, .val (.mv (.tmp 6))⟩,
 ⟨some 51, none, .val (.bin .add T.int (.tmp 49) (.tmp 50))⟩,
 ⟨some 9, none, .val (.mv (.tmp 51))⟩] [49, 50, 51])
 (.seq (.region [
 ⟨some 52, none, .val (.mv (.tmp 9))⟩,
 ⟨some 53, none, .val (.mv (.tmp 1))⟩,
 ⟨some 54, none, .val (.bin .lss T.int (.tmp 52) (.tmp 53))⟩] [52, 53])
 (.cond (.tmp 54)
 (.region [
 ⟨some 55, none, .val (.mv (.tmp 0))⟩,
 ⟨some 56, none, .val (.mv (.tmp 7))⟩,
 ⟨some 57, none, .val (.mv (.tmp 9))⟩,
 ⟨some 58, none, .val (.mv (.tmp 1))⟩,
 ⟨some 59, none, .val (.mv (.tmp 2))⟩,
 ⟨some 60, none, .call (.const (.func (.func F.slices_symMergeCmpFunc__int) [] [])) [(.tmp 55), (.tmp 56), (.tmp 57), (.tmp 58), (.tmp 59)]⟩] [55, 56, 57, 58, 59, 60])
  .skip)))
 (.region [
 ⟨some 61, none, .val (.mv (.tmp 6))⟩,
 ⟨some 62, none, .val (.bin .mul T.int (.tmp 61) (.const (.int 2)))⟩,
 ⟨some 6, none, .val (.mv (.tmp 62))⟩] [61, 62]))))))))))))⟩
theorem H.slices_stableCmpFunc__int : Has P F.slices_stableCmpFunc__int C.slices_stableCmpFunc__int := ⟨Try.f33, Try.func33, by kernel_rfl, by kernel_rfl⟩

/-- cmp.Or[int] -/
noncomputable def C.cmp_Or__int : MFunc := ⟨18, 1, [.tmp 2],
 (.seq (.region [
 ⟨some 2, none, .val (.mv (.const (.int 0)))⟩] [])
 (.seq (.region [
 ⟨some 3, none, .val (.mv (.const (.int 0)))⟩] [])
 (.seq (.seq (.region [
 ⟨some 6, none, .val (.mv (.tmp 0))⟩,
 ⟨some 7, none, .val (.len (.tmp 6))⟩,
 ⟨some 8, none, .val (.mv (.const (.int 0)))⟩] [])
 (.block 0 (.loop (.seq (.region [
 ⟨some 9, none, .val (.bin .lss T.int (.tmp 8) (.tmp 7))⟩] [])
 (.seq (.cond (.tmp 9)
  .skip
 (.exit 0))
 (.seq (.block 1 (.seq (.region [
 ⟨some 10, none, .val (.indexAddr 1 (.tmp 6) (.tmp 8))⟩,
 ⟨some 11, none, .val (.load 1 false (.tmp 10))⟩,
 ⟨some 5, none, .val (.mv (.tmp 11))⟩] [10, 11])
 (.seq (.region [
 ⟨some 12, none, .val (.mv (.tmp 5))⟩,
 ⟨some 13, none, .val (.mv (.tmp 3))⟩,
 ⟨some 14, none, .val (.bin .neq T.int (.tmp 12) (.tmp 13))⟩] [12, 13])
 (.cond (.tmp 14)
 (.seq (.region [
 ⟨some 15, none, .val (.mv (.tmp 5))⟩,
 ⟨some 2, none, .val (.mv (.tmp 15))⟩] [15])
  .ret)
  .skip))))
 (.region [
 ⟨some 16, none, .val (.bin .add T.int (.tmp 8) (.const (.int 1)))⟩,
 ⟨some 8, none, .val (.mv (.tmp 16))⟩] [16])))))))
 (.seq (.region [
 ⟨some 17, none, .val (.mv (.tmp 3))⟩,
 ⟨some 2, none, .val (.mv (.tmp 17))⟩] [17])
  .ret))))⟩
theorem H.cmp_Or__int : Has P F.cmp_Or__int C.cmp_Or__int := ⟨Try.f34, Try.func34, by kernel_rfl, by kernel_rfl⟩

/-- cmp.Compare[int] -/
noncomputable def C.cmp_Compare__int : MFunc := ⟨20, 2, [.tmp 4],
 (.seq (.region [
 ⟨some 4, none, .val (.mv (.const (.int 0)))⟩] [])
 (.seq (.region [
 ⟨some 7, none, .val (.mv (.tmp 0))⟩,
 ⟨some 8, none, .call (.const (.func (.func F.cmp_isNaN__int) [] [])) [(.tmp 7)]⟩,
 ⟨some 5, none, .val (.mv (.tmp 8))⟩] [7, 8])
 (.seq (.region [
 ⟨some 9, none, .val (.mv (.tmp 1))⟩,
 ⟨some 10, none, .call (.const (.func (.func F.cmp_isNaN__int) [] [])) [(.tmp 9)]⟩,
 ⟨some 6, none, .val (.mv (.tmp 10))⟩] [9, 10])
 (.seq (.seq (.region [
 ⟨some 11, none, .val (.mv (.tmp 5))⟩] [])
 (.cond (.tmp 11)
 (.seq (.seq (.region [
 ⟨some 12, none, .val (.mv (.tmp 6))⟩] [])
 (.cond (.tmp 12)
 (.seq (.region [
 ⟨some 4, none, .val (.mv (.const (.int 0)))⟩] [])
  .ret)
  .skip))
 (.seq (.region [
 ⟨some 4, none, .val (.mv (.const (.int (-1))))⟩] [])
  .ret))
  .skip))
 (.seq (.seq (.region [
 ⟨some 13, none, .val (.mv (.tmp 6))⟩] [])
 (.cond (.tmp 13)
 (.seq (.region [
 ⟨some 4, none, .val (.mv (.const (.int 1)))⟩] [])
  .ret)
  .skip))
 (.seq (.seq (.region [
 ⟨some 14, none, .val (.mv (.tmp 0))⟩,
 ⟨some 15, none, .val (.mv (.tmp 1))⟩,
 ⟨some 16, none, .val (.bin .lss T.int (.tmp 14) (.tmp 15))⟩] [14, 15])
 (.cond (.tmp 16)
 (.seq (.region [
 ⟨some 4, none, .val (.mv (.const (.int (-1))))⟩] [])
  .ret)
  .skip))
 (.seq (.seq (.region [
 ⟨some 17, none, .val (.mv (.tmp 0))⟩,
 ⟨some 18, none, .val (.mv (.tmp 1))⟩,
 ⟨some 19, none, .val (.bin .gtr T.int (.tmp 17) (.tmp 18))⟩] [17, 18])
 (.cond (.tmp 19)
 (.seq (.region [
 ⟨some 4, none, .val (.mv (.const (.int 1)))⟩] [])
  .ret)
  .skip))
 (.seq (.region [
 ⟨some 4, none, .val (.mv (.const (.int 0)))⟩] [])
  .ret))))))))⟩
theorem H.cmp_Compare__int : Has P F.cmp_Compare__int C.cmp_Compare__int := ⟨Try.f35, Try.func35, by kernel_rfl, by kernel_rfl⟩

/-- podium/podiumref09.Make -/
noncomputable def C.podiumref09_Make : MFunc := ⟨26, 1, [.cell 2 2 true],
 (.seq (.region [
 ⟨some 2, none, .alloc T.apiBig [(.bool false), .nil]⟩] [])
 (.seq (.region [
 ⟨some 6, none, .val (.buildSlice T.int 0 [] [])⟩,
 ⟨some 3, none, .val (.mv (.tmp 6))⟩] [6])
 (.seq (.seq (.region [
 ⟨some 7, none, .val (.mv (.tmp 0))⟩,
 ⟨some 4, none, .val (.mv (.tmp 7))⟩] [7])
 (.block 0 (.loop (.seq (.seq (.region [
 ⟨some 8, none, .val (.mv (.tmp 4))⟩,
 ⟨some 9, none, .val (.bin .neq T.int (.tmp 8) (.const (.int 0)))⟩] [8])
 (.cond (.tmp 9)
  .skip
 (.exit 0)))
 (.seq (.block 1 (.seq (.region [
 ⟨some 12, none, .val (.mv (.tmp 4))⟩,
 ⟨some 13, none, .val (.bin .rem T.int (.tmp 12) (.const (.int 1073741824)))⟩,
 ⟨some 5, none, .val (.mv (.tmp 13))⟩] [12, 13])
 (.seq (.seq (.region [
 ⟨some 14, none, .val (.mv (.tmp 5))⟩,
 ⟨some 15, none, .val (.bin .lss T.int (.tmp 14) (.const (.int 0)))⟩] [14])
 (.cond (.tmp 15)
 (.region [
 ⟨some 16, none, .val (.mv (.tmp 5))⟩,
 ⟨some 17, none, .val (.un .neg (.tmp 16))⟩,
 ⟨some 5, none, .val (.mv (.tmp 17))⟩] [16, 17])
  .skip))
 (.region [
 ⟨some 18, none, .val (.mv (.tmp 3))⟩,
 ⟨some 19, none, .val (.mv (.tmp 5))⟩,
 ⟨some 20, none, .val (.buildSlice T.int 1 [(.int 0)] [(0, 1, (.tmp 19))])⟩,
 ⟨some 21, none, .append T.int 8 1 (.tmp 18) (.tmp 20)⟩,
 ⟨some 3, none, .val (.mv (.tmp 21))⟩] [18, 19, 20, 21]))))
 (.region [
 ⟨some 10, none, .val (.mv (.tmp 4))⟩,
 ⟨some 11, none, .val (.bin .quo T.int (.tmp 10) (.const (.int 1073741824)))⟩,
 ⟨some 4, none, .val (.mv (.tmp 11))⟩] [10, 11]))))))
 (.seq (.region [
 ⟨some 22, none, .val (.mv (.tmp 0))⟩,
 ⟨some 23, none, .val (.bin .lss T.int (.tmp 22) (.const (.int 0)))⟩,
 ⟨some 24, none, .val (.mv (.tmp 3))⟩,
 ⟨some 25, none, .val (.build [(.bool false), .nil] [(0, 1, (.tmp 23)), (1, 1, (.tmp 24))])⟩,
 ⟨none, none, .store 2 (.tmp 2) (.tmp 25)⟩] [22, 23, 24, 25])
  .ret))))⟩
theorem H.podiumref09_Make : Has P F.podiumref09_Make C.podiumref09_Make := ⟨Try.f36, Try.func36, by kernel_rfl, by kernel_rfl⟩

/-- podium/podiumref10.Check -/
noncomputable def C.podiumref10_Check : MFunc := ⟨43, 1, [.tmp 2],
 (.seq (.region [
 ⟨some 1, none, .box T.apiRatio (.tmp 0)⟩,
 ⟨some 2, none, .val (.mv (.const (.int 0)))⟩] [])
 (.seq (.seq (.region [
 ⟨some 7, none, .val (.fieldAddr 0 (.tmp 1))⟩,
 ⟨some 8, none, .val (.load 2 true (.tmp 7))⟩,
 ⟨some 9, none, .call (.const (.func (.func F.podiumref09_Check) [] [])) [(.tmp 8)]⟩,
 ⟨some 10, none, .val (.bin .neq T.apiErrno (.tmp 9) (.const (.int 0)))⟩,
 ⟨some 11, none, .val (.mv (.tmp 10))⟩,
 ⟨some 12, some (11, false), .val (.fieldAddr 2 (.tmp 1))⟩,
 ⟨some 13, some (11, false), .val (.load 2 true (.tmp 12))⟩,
 ⟨some 14, some (11, false), .call (.const (.func (.func F.podiumref09_Check) [] [])) [(.tmp 13)]⟩,
 ⟨some 15, some (11, false), .val (.bin .neq T.apiErrno (.tmp 14) (.const (.int 0)))⟩,
 ⟨some 16, none, .val (.pick (.tmp 11) (.const (.bool true)) (.tmp 15))⟩,
 ⟨some 17, none, .val (.mv (.tmp 16))⟩,
 ⟨some 18, some (17, false), .val (.fieldAddr 2 (.tmp 1))⟩,
 ⟨some 19, some (17, false), .val (.load 2 true (.tmp 18))⟩,
 ⟨some 20, some (17, false), .call (.const (.func (.func F.podiumref10_zero) [] [])) [(.tmp 19)]⟩,
 ⟨some 21, none, .val (.pick (.tmp 17) (.const (.bool true)) (.tmp 20))⟩,
 ⟨some 22, none, .val (.mv (.tmp 21))⟩,
 ⟨some 23, some (22, false), .val (.fieldAddr 2 (.tmp 1))⟩,
 ⟨some 24, some (22, false), .val (.fieldAddr 0 (.tmp 23))⟩,
 ⟨some 25, some (22, false), .val (.load 1 false (.tmp 24))⟩,
 ⟨some 26, none, .val (.pick (.tmp 22) (.const (.bool true)) (.tmp 25))⟩] [7, 8, 9, 10, 11, 12, 13, 14, 15, 16, 17, 18, 19, 20, 21, 22, 23, 24, 25])
 (.cond (.tmp 26)
 (.seq (.region [
 ⟨some 2, none, .val (.mv (.const (.int 100)))⟩] [])
  .ret)
  .skip))
 (.seq (.region [
 ⟨some 28, none, .val (.fieldAddr 0 (.tmp 1))⟩,
 ⟨some 29, none, .val (.load 2 true (.tmp 28))⟩,
 ⟨some 30, none, .val (.fieldAddr 2 (.tmp 1))⟩,
 ⟨some 31, none, .val (.load 2 true (.tmp 30))⟩,
 ⟨some 32, none, .call (.const (.func (.func F.podiumref09_Gcd) [] [])) [(.tmp 29), (.tmp 31)]⟩,
 ⟨some 27, none, .val (.mv (.tmp 32))⟩,
 ⟨some 33, none, .val (.extract 0 (.tmp 27))⟩,
 ⟨some 34, none, .val (.extract 1 (.tmp 27))⟩,
 ⟨some 3, none, .alloc T.apiBig [(.bool false), .nil]⟩,
 ⟨none, none, .store 2 (.tmp 3) (.tmp 33)⟩,
 ⟨some 4, none, .val (.mv (.tmp 34))⟩] [28, 29, 30, 31, 32, 27, 33, 34, 4])
 (.seq (.draw true [
 (.late, ⟨some 36, none, .val (.load 2 true (.tmp 3))⟩),
 (.hard, ⟨some 37, none, .call (.const (.func (.func F.podiumref09_Make) [] [])) [(.const (.int 1))]⟩),
 (.hard, ⟨some 38, none, .call (.const (.func (.func F.podiumref09_Cmp) [] [])) [(.tmp 36), (.tmp 37)]⟩),
 (.late, ⟨some 35, none, .val (.mv (.tmp 38))⟩),
 (.late, ⟨some 39, none, .val (.extract 0 (.tmp 35))⟩),
 (.late, ⟨some 40, none, .val (.extract 1 (.tmp 35))⟩),
 (.late, ⟨some 5, none, .val (.mv (.tmp 39))⟩),
 (.late, ⟨some 6, none, .val (.mv (.tmp 40))⟩)] [36, 37, 38, 35, 39, 40, 6])
 (.seq (.seq (.region [
 ⟨some 41, none, .val (.mv (.tmp 5))⟩,
 ⟨some 42, none, .val (.bin .neq T.int (.tmp 41) (.const (.int 0)))⟩] [41])
 (.cond (.tmp 42)
 (.seq (.region [
 ⟨some 2, none, .val (.mv (.const (.int 100)))⟩] [])
  .ret)
  .skip))
 (.seq (.region [
 ⟨some 2, none, .val (.mv (.const (.int 0)))⟩] [])
  .ret))))))⟩
theorem H.podiumref10_Check : Has P F.podiumref10_Check C.podiumref10_Check := ⟨Try.f37, Try.func37, by kernel_rfl, by kernel_rfl⟩

/-- podium/podiumref10.FewBig -/
noncomputable def C.podiumref10_FewBig : MFunc := ⟨22, 2, [.tmp 4],
 (.seq (.region [
 ⟨some 2, none, .box T.apiBig (.tmp 0)⟩,
 ⟨some 4, none, .val (.mv (.const (.bool false)))⟩] [])
 (.seq (.region [
 ⟨some 5, none, .val (.fieldAddr 1 (.tmp 2))⟩,
 ⟨some 6, none, .val (.load 1 false (.tmp 5))⟩,
 ⟨some 7, none, .val (.len (.tmp 6))⟩,
 ⟨some 8, none, .val (.mv (.tmp 1))⟩,
 ⟨some 9, none, .val (.bin .leq T.int (.tmp 7) (.tmp 8))⟩,
 ⟨some 10, none, .val (.mv (.tmp 9))⟩,
 ⟨some 11, some (10, false), .val (.fieldAddr 1 (.tmp 2))⟩,
 ⟨some 12, some (10, false), .val (.load 1 false (.tmp 11))⟩,
 ⟨some 13, some (10, false), .val (.len (.tmp 12))⟩,
 ⟨some 14, some (10, false), .val (.bin .gtr T.int (.tmp 13) (.const (.int 2048)))⟩,
 ⟨some 15, some (10, false), .val (.mv (.tmp 14))⟩,
 ⟨some 16, some (15, true), .val (.fieldAddr 1 (.tmp 2))⟩,
 ⟨some 17, some (15, true), .val (.load 1 false (.tmp 16))⟩,
 ⟨some 18, some (15, true), .val (.len (.tmp 17))⟩,
 ⟨some 19, some (15, true), .val (.bin .leq T.int (.tmp 18) (.const (.int 2052)))⟩,
 ⟨some 20, some (10, false), .val (.pick (.tmp 15) (.tmp 19) (.const (.bool false)))⟩,
 ⟨some 21, none, .val (.pick (.tmp 10) (.const (.bool true)) (.tmp 20))⟩,
 ⟨some 4, none, .val (.mv (.tmp 21))⟩] [5, 6, 7, 8, 9, 10, 11, 12, 13, 14, 15, 16, 17, 18, 19, 20, 21])
  .ret))⟩
theorem H.podiumref10_FewBig : Has P F.podiumref10_FewBig C.podiumref10_FewBig := ⟨Try.f38, Try.func38, by kernel_rfl, by kernel_rfl⟩

/-- podium/ratio.Cmp -/
noncomputable def C.ratio_Cmp : MDFunc := ⟨31, 2, [5], [.tmp 4, .cell 5 1 false],
 (.pre [] (.region [
 ⟨some 2, none, .box T.apiRatio (.tmp 0)⟩,
 ⟨some 3, none, .box T.apiRatio (.tmp 1)⟩,
 ⟨some 4, none, .val (.mv (.const (.int 0)))⟩,
 ⟨some 5, none, .alloc T.apiErrno [(.int 0)]⟩] [])
 (.push (.const (.func (.func F.ratio_caught) [] [])) [(.tmp 5)]
 (.pre [4] (.region [
 ⟨some 7, none, .val (.load 4 true (.tmp 2))⟩,
 ⟨some 8, none, .val (.load 4 true (.tmp 3))⟩,
 ⟨some 9, none, .val (.buildSlice T.apiRatio 2 [(.bool false), .nil, (.bool false), .nil, (.bool false), .nil, (.bool false), .nil] [(0, 4, (.tmp 7)), (4, 4, (.tmp 8))])⟩,
 ⟨some 10, none, .call (.const (.func (.func F.ratio_valid) [] [])) [(.tmp 9)]⟩] [7, 8, 9, 10])
 (.pre [4] (.region [
 ⟨some 11, none, .val (.fieldAddr 0 (.tmp 2))⟩,
 ⟨some 12, none, .val (.load 2 true (.tmp 11))⟩,
 ⟨some 13, none, .val (.fieldAddr 2 (.tmp 3))⟩,
 ⟨some 14, none, .val (.load 2 true (.tmp 13))⟩,
 ⟨some 15, none, .val (.fieldAddr 0 (.tmp 3))⟩,
 ⟨some 16, none, .val (.load 2 true (.tmp 15))⟩,
 ⟨some 17, none, .val (.fieldAddr 2 (.tmp 2))⟩,
 ⟨some 18, none, .val (.load 2 true (.tmp 17))⟩,
 ⟨some 19, none, .val (.buildSlice T.apiBig 4 [(.bool false), .nil, (.bool false), .nil, (.bool false), .nil, (.bool false), .nil] [(0, 2, (.tmp 12)), (2, 2, (.tmp 14)), (4, 2, (.tmp 16)), (6, 2, (.tmp 18))])⟩,
 ⟨some 20, none, .call (.const (.func (.func F.ratio_products) [] [])) [(.tmp 19)]⟩,
 ⟨some 6, none, .val (.mv (.tmp 20))⟩] [11, 12, 13, 14, 15, 16, 17, 18, 19, 20])
 (.pre [] (.draw true [
 (.early, ⟨some 21, none, .val (.mv (.tmp 6))⟩),
 (.early, ⟨some 22, none, .val (.indexAddr 2 (.tmp 21) (.const (.int 0)))⟩),
 (.early, ⟨some 23, none, .val (.load 2 true (.tmp 22))⟩),
 (.early, ⟨some 24, none, .val (.mv (.tmp 6))⟩),
 (.early, ⟨some 25, none, .val (.indexAddr 2 (.tmp 24) (.const (.int 1)))⟩),
 (.early, ⟨some 26, none, .val (.load 2 true (.tmp 25))⟩),
 (.hard, ⟨some 27, none, .call (.const (.func (.func F.nat_Cmp) [] [])) [(.tmp 23), (.tmp 26)]⟩),
 (.late, ⟨some 28, none, .val (.extract 0 (.tmp 27))⟩),
 (.late, ⟨some 29, none, .val (.extract 1 (.tmp 27))⟩),
 (.hard, ⟨some 30, none, .call (.const (.func (.func F.ratio_did__int) [] [])) [(.tmp 28), (.tmp 29)]⟩),
 (.late, ⟨some 4, none, .val (.mv (.tmp 30))⟩),
 (.last, ⟨none, none, .store 1 (.tmp 5) (.const (.int 0))⟩)] [21, 22, 23, 24, 25, 26, 27, 28, 29, 30])
 (.pre [4] .ret
  .done))))))⟩
theorem H.ratio_Cmp : HasD P F.ratio_Cmp C.ratio_Cmp := ⟨Try.f39, Try.func39, by kernel_rfl, by kernel_rfl⟩

/-- podium/ties.kinds$1 -/
noncomputable def C.ties_kinds_1 : MFunc := ⟨5, 2, [.tmp 4],
 (.seq (.region [
 ⟨some 2, none, .box T.apiKey (.tmp 0)⟩,
 ⟨some 3, none, .box T.apiKeyed (.tmp 1)⟩,
 ⟨some 4, none, .val (.mv (.const (.bool false)))⟩] [2, 3])
 (.seq (.region [
 ⟨some 4, none, .val (.mv (.const (.bool true)))⟩] [])
  .ret))⟩
theorem H.ties_kinds_1 : Has P F.ties_kinds_1 C.ties_kinds_1 := ⟨Try.f40, Try.func40, by kernel_rfl, by kernel_rfl⟩

/-- podium/ties.kinds$2 -/
noncomputable def C.ties_kinds_2 : MFunc := ⟨6, 1, [.cell 2 2 true],
 (.seq (.region [
 ⟨some 1, none, .box T.funcapiKeyedLapiRatio (.tmp 0)⟩,
 ⟨some 2, none, .alloc T.tieskind [(.val .nilFunc), (.val .nilFunc)]⟩] [])
 (.seq (.region [
 ⟨some 3, none, .val (.mkFunc (.func F.ties_kinds_2_1) [] [(.tmp 1)])⟩,
 ⟨some 4, none, .val (.mkFunc (.func F.ties_kinds_2_2) [] [(.tmp 1)])⟩,
 ⟨some 5, none, .val (.build [(.val .nilFunc), (.val .nilFunc)] [(0, 1, (.tmp 3)), (1, 1, (.tmp 4))])⟩,
 ⟨none, none, .store 2 (.tmp 2) (.tmp 5)⟩] [3, 4, 5])
  .ret))⟩
theorem H.ties_kinds_2 : Has P F.ties_kinds_2 C.ties_kinds_2 := ⟨Try.f41, Try.func41, by kernel_rfl, by kernel_rfl⟩

/-- podium/ties.kinds$2$1 -/
noncomputable def C.ties_kinds_2_1 : MFunc := ⟨18, 3, [.tmp 5],
 (.seq (.region [
 ⟨some 3, none, .box T.apiKey (.tmp 0)⟩,
 ⟨some 4, none, .box T.apiKeyed (.tmp 1)⟩,
 ⟨some 5, none, .val (.mv (.const (.bool false)))⟩] [])
 (.seq (.draw true [
 (.early, ⟨some 6, none, .val (.fieldAddr 2 (.tmp 3))⟩),
 (.early, ⟨some 7, none, .val (.load 1 false (.tmp 6))⟩),
 (.early, ⟨some 8, none, .val (.bin .geq T.int (.tmp 7) (.const (.int 0)))⟩),
 (.early, ⟨some 9, none, .val (.mv (.tmp 8))⟩),
 (.late, ⟨some 10, some (9, true), .val (.fieldAddr 2 (.tmp 3))⟩),
 (.late, ⟨some 11, some (9, true), .val (.load 1 false (.tmp 10))⟩),
 (.early, ⟨some 12, some (9, true), .val (.load 1 false (.tmp 2))⟩),
 (.early, ⟨some 13, some (9, true), .val (.load 10 true (.tmp 4))⟩),
 (.hard, ⟨some 14, some (9, true), .call (.tmp 12) [(.tmp 13)]⟩),
 (.late, ⟨some 15, some (9, true), .val (.len (.tmp 14))⟩),
 (.late, ⟨some 16, some (9, true), .val (.bin .lss T.int (.tmp 11) (.tmp 15))⟩),
 (.late, ⟨some 17, none, .val (.pick (.tmp 9) (.tmp 16) (.const (.bool false)))⟩),
 (.late, ⟨some 5, none, .val (.mv (.tmp 17))⟩)] [6, 7, 8, 9, 10, 11, 12, 13, 14, 15, 16, 17])
  .ret))⟩
theorem H.ties_kinds_2_1 : Has P F.ties_kinds_2_1 C.ties_kinds_2_1 := ⟨Try.f42, Try.func42, by kernel_rfl, by kernel_rfl⟩

/-- podium/ties.kinds$2$2 -/
noncomputable def C.ties_kinds_2_2 : MFunc := ⟨23, 4, [.tmp 7],
 (.seq (.region [
 ⟨some 4, none, .box T.apiKey (.tmp 0)⟩,
 ⟨some 5, none, .box T.apiKeyed (.tmp 1)⟩,
 ⟨some 6, none, .box T.apiKeyed (.tmp 2)⟩,
 ⟨some 7, none, .val (.mv (.const (.int 0)))⟩] [])
 (.seq (.draw true [
 (.early, ⟨some 8, none, .val (.load 1 false (.tmp 3))⟩),
 (.early, ⟨some 9, none, .val (.load 10 true (.tmp 5))⟩),
 (.late, ⟨some 11, none, .val (.fieldAddr 2 (.tmp 4))⟩),
 (.late, ⟨some 12, none, .val (.load 1 false (.tmp 11))⟩),
 (.late, ⟨some 15, none, .val (.load 1 false (.tmp 3))⟩),
 (.late, ⟨some 16, none, .val (.load 10 true (.tmp 6))⟩),
 (.late, ⟨some 18, none, .val (.fieldAddr 2 (.tmp 4))⟩),
 (.late, ⟨some 19, none, .val (.load 1 false (.tmp 18))⟩),
 (.hard, ⟨some 10, none, .call (.tmp 8) [(.tmp 9)]⟩),
 (.late, ⟨some 13, none, .val (.indexAddr 4 (.tmp 10) (.tmp 12))⟩),
 (.late, ⟨some 14, none, .val (.load 4 true (.tmp 13))⟩),
 (.hard, ⟨some 17, none, .call (.tmp 15) [(.tmp 16)]⟩),
 (.late, ⟨some 20, none, .val (.indexAddr 4 (.tmp 17) (.tmp 19))⟩),
 (.late, ⟨some 21, none, .val (.load 4 true (.tmp 20))⟩),
 (.hard, ⟨some 22, none, .call (.const (.func (.func F.ties_greater) [] [])) [(.tmp 14), (.tmp 21)]⟩),
 (.late, ⟨some 7, none, .val (.mv (.tmp 22))⟩)] [8, 9, 10, 11, 12, 13, 14, 15, 16, 17, 18, 19, 20, 21, 22])
  .ret))⟩
theorem H.ties_kinds_2_2 : Has P F.ties_kinds_2_2 C.ties_kinds_2_2 := ⟨Try.f43, Try.func43, by kernel_rfl, by kernel_rfl⟩

/-- podium/ties.kinds$3 -/
noncomputable def C.ties_kinds_3 : MFunc := ⟨5, 1, [.tmp 2],
 (.seq (.region [
 ⟨some 1, none, .box T.apiKeyed (.tmp 0)⟩,
 ⟨some 2, none, .val (.mv (.const .nil))⟩] [])
 (.seq (.region [
 ⟨some 3, none, .val (.fieldAddr 5 (.tmp 1))⟩,
 ⟨some 4, none, .val (.load 1 false (.tmp 3))⟩,
 ⟨some 2, none, .val (.mv (.tmp 4))⟩] [3, 4])
  .ret))⟩
theorem H.ties_kinds_3 : Has P F.ties_kinds_3 C.ties_kinds_3 := ⟨Try.f44, Try.func44, by kernel_rfl, by kernel_rfl⟩

/-- podium/ties.kinds$4 -/
noncomputable def C.ties_kinds_4 : MFunc := ⟨5, 1, [.tmp 2],
 (.seq (.region [
 ⟨some 1, none, .box T.apiKeyed (.tmp 0)⟩,
 ⟨some 2, none, .val (.mv (.const .nil))⟩] [])
 (.seq (.region [
 ⟨some 3, none, .val (.fieldAddr 6 (.tmp 1))⟩,
 ⟨some 4, none, .val (.load 1 false (.tmp 3))⟩,
 ⟨some 2, none, .val (.mv (.tmp 4))⟩] [3, 4])
  .ret))⟩
theorem H.ties_kinds_4 : Has P F.ties_kinds_4 C.ties_kinds_4 := ⟨Try.f45, Try.func45, by kernel_rfl, by kernel_rfl⟩

/-- podium/ties.kinds$5 -/
noncomputable def C.ties_kinds_5 : MFunc := ⟨12, 3, [.tmp 6],
 (.seq (.region [
 ⟨some 3, none, .box T.apiKey (.tmp 0)⟩,
 ⟨some 4, none, .box T.apiKeyed (.tmp 1)⟩,
 ⟨some 5, none, .box T.apiKeyed (.tmp 2)⟩,
 ⟨some 6, none, .val (.mv (.const (.int 0)))⟩] [3])
 (.seq (.region [
 ⟨some 7, none, .val (.fieldAddr 7 (.tmp 5))⟩,
 ⟨some 8, none, .val (.load 1 false (.tmp 7))⟩,
 ⟨some 9, none, .val (.fieldAddr 7 (.tmp 4))⟩,
 ⟨some 10, none, .val (.load 1 false (.tmp 9))⟩,
 ⟨some 11, none, .call (.const (.func (.func F.cmp_Compare__int) [] [])) [(.tmp 8), (.tmp 10)]⟩,
 ⟨some 6, none, .val (.mv (.tmp 11))⟩] [7, 8, 9, 10, 11])
  .ret))⟩
theorem H.ties_kinds_5 : Has P F.ties_kinds_5 C.ties_kinds_5 := ⟨Try.f46, Try.func46, by kernel_rfl, by kernel_rfl⟩

/-- podium/ties.kinds$6 -/
noncomputable def C.ties_kinds_6 : MFunc := ⟨12, 3, [.tmp 6],
 (.seq (.region [
 ⟨some 3, none, .box T.apiKey (.tmp 0)⟩,
 ⟨some 4, none, .box T.apiKeyed (.tmp 1)⟩,
 ⟨some 5, none, .box T.apiKeyed (.tmp 2)⟩,
 ⟨some 6, none, .val (.mv (.const (.int 0)))⟩] [3])
 (.seq (.region [
 ⟨some 7, none, .val (.fieldAddr 8 (.tmp 5))⟩,
 ⟨some 8, none, .val (.load 1 false (.tmp 7))⟩,
 ⟨some 9, none, .val (.fieldAddr 8 (.tmp 4))⟩,
 ⟨some 10, none, .val (.load 1 false (.tmp 9))⟩,
 ⟨some 11, none, .call (.const (.func (.func F.cmp_Compare__int) [] [])) [(.tmp 8), (.tmp 10)]⟩,
 ⟨some 6, none, .val (.mv (.tmp 11))⟩] [7, 8, 9, 10, 11])
  .ret))⟩
theorem H.ties_kinds_6 : Has P F.ties_kinds_6 C.ties_kinds_6 := ⟨Try.f47, Try.func47, by kernel_rfl, by kernel_rfl⟩

/-- podium/ties.kinds$7 -/
noncomputable def C.ties_kinds_7 : MFunc := ⟨12, 3, [.tmp 6],
 (.seq (.region [
 ⟨some 3, none, .box T.apiKey (.tmp 0)⟩,
 ⟨some 4, none, .box T.apiKeyed (.tmp 1)⟩,
 ⟨some 5, none, .box T.apiKeyed (.tmp 2)⟩,
 ⟨some 6, none, .val (.mv (.const (.int 0)))⟩] [3])
 (.seq (.region [
 ⟨some 7, none, .val (.fieldAddr 9 (.tmp 4))⟩,
 ⟨some 8, none, .val (.load 1 false (.tmp 7))⟩,
 ⟨some 9, none, .val (.fieldAddr 9 (.tmp 5))⟩,
 ⟨some 10, none, .val (.load 1 false (.tmp 9))⟩,
 ⟨some 11, none, .call (.const (.func (.func F.cmp_Compare__int) [] [])) [(.tmp 8), (.tmp 10)]⟩,
 ⟨some 6, none, .val (.mv (.tmp 11))⟩] [7, 8, 9, 10, 11])
  .ret))⟩
theorem H.ties_kinds_7 : Has P F.ties_kinds_7 C.ties_kinds_7 := ⟨Try.f48, Try.func48, by kernel_rfl, by kernel_rfl⟩

/-- podium/ratio.Check -/
noncomputable def C.ratio_Check : MFunc := ⟨40, 1, [.tmp 2],
 (.seq (.region [
 ⟨some 1, none, .box T.apiRatio (.tmp 0)⟩,
 ⟨some 2, none, .val (.mv (.const (.int 0)))⟩] [])
 (.seq (.seq (.region [
 ⟨some 5, none, .val (.fieldAddr 0 (.tmp 1))⟩,
 ⟨some 6, none, .val (.load 2 true (.tmp 5))⟩,
 ⟨some 7, none, .call (.const (.func (.func F.nat_Check) [] [])) [(.tmp 6)]⟩,
 ⟨some 8, none, .val (.bin .neq T.apiErrno (.tmp 7) (.const (.int 0)))⟩,
 ⟨some 9, none, .val (.mv (.tmp 8))⟩,
 ⟨some 10, some (9, false), .val (.fieldAddr 2 (.tmp 1))⟩,
 ⟨some 11, some (9, false), .val (.load 2 true (.tmp 10))⟩,
 ⟨some 12, some (9, false), .call (.const (.func (.func F.nat_Check) [] [])) [(.tmp 11)]⟩,
 ⟨some 13, some (9, false), .val (.bin .neq T.apiErrno (.tmp 12) (.const (.int 0)))⟩,
 ⟨some 14, none, .val (.pick (.tmp 9) (.const (.bool true)) (.tmp 13))⟩,
 ⟨some 15, none, .val (.mv (.tmp 14))⟩,
 ⟨some 16, some (15, false), .val (.fieldAddr 2 (.tmp 1))⟩,
 ⟨some 17, some (15, false), .val (.load 2 true (.tmp 16))⟩,
 ⟨some 18, some (15, false), .call (.const (.func (.func F.ratio_positive) [] [])) [(.tmp 17)]⟩,
 ⟨some 19, some (15, false), .val (.un .not (.tmp 18))⟩,
 ⟨some 20, none, .val (.pick (.tmp 15) (.const (.bool true)) (.tmp 19))⟩] [5, 6, 7, 8, 9, 10, 11, 12, 13, 14, 15, 16, 17, 18, 19])
 (.cond (.tmp 20)
 (.seq (.region [
 ⟨some 2, none, .val (.mv (.const (.int 100)))⟩] [])
  .ret)
  .skip))
 (.seq (.region [
 ⟨some 22, none, .val (.fieldAddr 0 (.tmp 1))⟩,
 ⟨some 23, none, .val (.load 2 true (.tmp 22))⟩,
 ⟨some 24, none, .val (.fieldAddr 2 (.tmp 1))⟩,
 ⟨some 25, none, .val (.load 2 true (.tmp 24))⟩,
 ⟨some 26, none, .call (.const (.func (.func F.nat_Gcd) [] [])) [(.tmp 23), (.tmp 25)]⟩,
 ⟨some 21, none, .val (.mv (.tmp 26))⟩,
 ⟨some 27, none, .val (.extract 0 (.tmp 21))⟩,
 ⟨some 28, none, .val (.extract 1 (.tmp 21))⟩,
 ⟨some 3, none, .alloc T.apiBig [(.bool false), .nil]⟩,
 ⟨none, none, .store 2 (.tmp 3) (.tmp 27)⟩,
 ⟨some 4, none, .val (.mv (.tmp 28))⟩] [22, 23, 24, 25, 26, 21, 27, 28, 4])
 (.seq (.seq (.region [
 ⟨some 29, none, .val (.fieldAddr 1 (.tmp 3))⟩,
 ⟨some 30, none, .val (.load 1 false (.tmp 29))⟩,
 ⟨some 31, none, .val (.len (.tmp 30))⟩,
 ⟨some 32, none, .val (.bin .neq T.int (.tmp 31) (.const (.int 1)))⟩,
 ⟨some 33, none, .val (.mv (.tmp 32))⟩,
 ⟨some 34, some (33, false), .val (.fieldAddr 1 (.tmp 3))⟩,
 ⟨some 35, some (33, false), .val (.load 1 false (.tmp 34))⟩,
 ⟨some 36, some (33, false), .val (.indexAddr 1 (.tmp 35) (.const (.int 0)))⟩,
 ⟨some 37, some (33, false), .val (.load 1 false (.tmp 36))⟩,
 ⟨some 38, some (33, false), .val (.bin .neq T.int (.tmp 37) (.const (.int 1)))⟩,
 ⟨some 39, none, .val (.pick (.tmp 33) (.const (.bool true)) (.tmp 38))⟩] [29, 30, 31, 32, 33, 34, 35, 36, 37, 38])
 (.cond (.tmp 39)
 (.seq (.region [
 ⟨some 2, none, .val (.mv (.const (.int 100)))⟩] [])
  .ret)
  .skip))
 (.seq (.region [
 ⟨some 2, none, .val (.mv (.const (.int 0)))⟩] [])
  .ret)))))⟩
theorem H.ratio_Check : Has P F.ratio_Check C.ratio_Check := ⟨Try.f49, Try.func49, by kernel_rfl, by kernel_rfl⟩

/-- slices.IndexFunc[[]podium/api.Ratio,podium/api.Ratio] -/
noncomputable def C.slices_IndexFunc__LapiRatio_apiRatio : MFunc := ⟨19, 2, [.tmp 4],
 (.seq (.region [
 ⟨some 4, none, .val (.mv (.const (.int 0)))⟩] [])
 (.seq (.seq (.region [
 ⟨some 6, none, .val (.mv (.tmp 0))⟩,
 ⟨some 7, none, .val (.len (.tmp 6))⟩,
 ⟨some 8, none, .val (.mv (.const (.int 0)))⟩] [6])
 (.block 0 (.loop (.seq (.region [
 ⟨some 9, none, .val (.bin .lss T.int (.tmp 8) (.tmp 7))⟩] [])
 (.seq (.cond (.tmp 9)
  .skip
 (.exit 0))
 (.seq (.block 1 (.seq (.region [
 ⟨some 10, none, .val (.mv (.tmp 8))⟩,
 ⟨some 5, none, .val (.mv (.tmp 10))⟩] [10])
 (.seq (.region [
 ⟨some 11, none, .val (.mv (.tmp 1))⟩,
 ⟨some 12, none, .val (.mv (.tmp 0))⟩,
 ⟨some 13, none, .val (.mv (.tmp 5))⟩,
 ⟨some 14, none, .val (.indexAddr 4 (.tmp 12) (.tmp 13))⟩,
 ⟨some 15, none, .val (.load 4 true (.tmp 14))⟩,
 ⟨some 16, none, .call (.tmp 11) [(.tmp 15)]⟩] [11, 12, 13, 14, 15])
 (.cond (.tmp 16)
 (.seq (.region [
 ⟨some 17, none, .val (.mv (.tmp 5))⟩,
 ⟨some 4, none, .val (.mv (.tmp 17))⟩] [17])
  .ret)
  .skip))))
 (.region [
 ⟨some 18, none, .val (.bin .add T.int (.tmp 8) (.const (.int 1)))⟩,
 ⟨some 8, none, .val (.mv (.tmp 18))⟩] [18])))))))
 (.seq (.region [
 ⟨some 4, none, .val (.mv (.const (.int (-1))))⟩] [])
  .ret)))⟩
theorem H.slices_IndexFunc__LapiRatio_apiRatio : Has P F.slices_IndexFunc__LapiRatio_apiRatio C.slices_IndexFunc__LapiRatio_apiRatio := ⟨Try.f50, Try.func50, by kernel_rfl, by kernel_rfl⟩

/-- slices.insertionSortCmpFunc[int] -/
noncomputable def C.slices_insertionSortCmpFunc__int : MFunc := ⟨53, 4, [],
 (.seq (.region [
 ⟨some 10, none, .val (.mv (.tmp 1))⟩,
 ⟨some 11, none, .val (.bin .add T.int (.tmp 10) (.const (.int 1)))⟩,
 ⟨some 8, none, .val (.mv (.tmp 11))⟩] [10, 11])
 (.block 0 (.loop (.seq (.seq (.region [
 ⟨some 12, none, .val (.mv (.tmp 8))⟩,
 ⟨some 13, none, .val (.mv (.tmp 2))⟩,
 ⟨some 14, none, .val (.bin .lss T.int (.tmp 12) (.tmp 13))⟩] [12, 13])
 (.cond (.tmp 14)
  .skip
 (.exit 0)))
 (.seq (.block 1 (.seq (.region [
 ⟨some 17, none, .val (.mv (.tmp 8))⟩,
 ⟨some 9, none, .val (.mv (.tmp 17))⟩] [17])
 (.block 2 (.loop (.seq (.seq (.draw true [
 (.early, ⟨some 18, none, .val (.mv (.tmp 9))⟩),
 (.early, ⟨some 19, none, .val (.mv (.tmp 1))⟩),
 (.early, ⟨some 20, none, .val (.bin .gtr T.int (.tmp 18) (.tmp 19))⟩),
 (.early, ⟨some 21, none, .val (.mv (.tmp 20))⟩),
 (.early, ⟨some 22, some (21, true), .val (.mv (.tmp 3))⟩),
 (.early, ⟨some 23, some (21, true), .val (.mv (.tmp 0))⟩),
 (.early, ⟨some 24, some (21, true), .val (.mv (.tmp 9))⟩),
 (.early, ⟨some 25, some (21, true), .val (.indexAddr 1 (.tmp 23) (.tmp 24))⟩),
 (.early, ⟨some 26, some (21, true), .val (.load 1 false (.tmp 25))⟩),
 (.early, ⟨some 27, some (21, true), .val (.mv (.tmp 0))⟩),
 (.early, ⟨some 28, some (21, true), .val (.mv (.tmp 9))⟩),
 (.early, ⟨some 29, some (21, true), .val (.bin .sub T.int (.tmp 28) (.const (.int 1)))⟩),
 (.early, ⟨some 30, some (21, true), .val (.indexAddr 1 (.tmp 27) (.tmp 29))⟩),
 (.early, ⟨some 31, some (21, true), .val (.load 1 false (.tmp 30))⟩),
 (.hard, ⟨some 32, some (21, true), .call (.tmp 22) [(.tmp 26), (.tmp 31)]⟩),
 (.late, ⟨some 33, some (21, true), .val (.bin .lss T.int (.tmp 32) (.const (.int 0)))⟩),
 (.late, ⟨some 34, none, .val (.pick (.tmp 21) (.tmp 33) (.const (.bool false)))⟩)] [18, 19, 20, 21, 22, 23, 24, 25, 26, 27, 28, 29, 30, 31, 32, 33])
 (.cond (.tmp 34)
  .skip
 (.exit 2)))
 (.seq (.block 3 (.draw true [
 (.early, ⟨some 37, none, .val (.mv (.tmp 0))⟩),
 (.early, ⟨some 38, none, .val (.mv (.tmp 9))⟩),
 (.late, ⟨some 39, none, .val (.mv (.tmp 0))⟩),
 (.late, ⟨some 40, none, .val (.mv (.tmp 9))⟩),
 (.late, ⟨some 41, none, .val (.bin .sub T.int (.tmp 40) (.const (.int 1)))⟩),
 (.early, ⟨some 42, none, .val (.mv (.tmp 0))⟩),
 (.early, ⟨some 43, none, .val (.mv (.tmp 9))⟩),
 (.early, ⟨some 44, none, .val (.bin .sub T.int (.tmp 43) (.const (.int 1)))⟩),
 (.early, ⟨some 45, none, .val (.indexAddr 1 (.tmp 42) (.tmp 44))⟩),
 (.early, ⟨some 46, none, .val (.load 1 false (.tmp 45))⟩),
 (.early, ⟨some 47, none, .val (.mv (.tmp 0))⟩),
 (.early, ⟨some 48, none, .val (.mv (.tmp 9))⟩),
 (.early, ⟨some 49, none, .val (.indexAddr 1 (.tmp 47) (.tmp 48))⟩),
 (.early, ⟨some 50, none, .val (.load 1 false (.tmp 49))⟩),
 (.early, ⟨some 51, none, .val (.indexAddr 1 (.tmp 37) (.tmp 38))⟩),
 (.last, ⟨none, none, .store 1 (.tmp 51) (.tmp 46)⟩),
 (.late, ⟨some 52, none, .val (.indexAddr 1 (.tmp 39) (.tmp 41))⟩),
 (.last, ⟨none, none, .store 1 (.tmp 52) (.tmp 50)⟩)] [37, 38, 39, 40, 41, 42, 43, 44, 45, 46, 47, 48, 49, 50, 51, 52]))
 (.region [
 ⟨some 35, none, .val (.mv (.tmp 9))⟩,
 ⟨some 36, none, .val (.bin .sub T.int (.tmp 35) (.const (.int 1)))⟩,
 ⟨some 9, none, .val (.mv (.tmp 36))⟩] [35, 36])))))))
 (.region [
 ⟨some 15, none, .val (.mv (.tmp 8))⟩,
 ⟨some 16, none, .val (.bin .add T.int (.tmp 15) (.const (.int 1)))⟩,
 ⟨some 8, none, .val (.mv (.tmp 16))⟩] [15, 16]))))))⟩
theorem H.slices_insertionSortCmpFunc__int : Has P F.slices_insertionSortCmpFunc__int C.slices_insertionSortCmpFunc__int := ⟨Try.f51, Try.func51, by kernel_rfl, by kernel_rfl⟩

/-- cmp.isNaN[int] -/
noncomputable def C.cmp_isNaN__int : MFunc := ⟨6, 1, [.tmp 2],
 (.seq (.region [
 ⟨some 2, none, .val (.mv (.const (.bool false)))⟩] [])
 (.seq (.region [
 ⟨some 3, none, .val (.mv (.tmp 0))⟩,
 ⟨some 4, none, .val (.mv (.tmp 0))⟩,
 ⟨some 5, none, .val (.bin .neq T.int (.tmp 3) (.tmp 4))⟩,
 ⟨some 2, none, .val (.mv (.tmp 5))⟩] [3, 4, 5])
  .ret))⟩
theorem H.cmp_isNaN__int : Has P F.cmp_isNaN__int C.cmp_isNaN__int := ⟨Try.f53, Try.func53, by kernel_rfl, by kernel_rfl⟩

/-- podium/podiumref09.Check -/
noncomputable def C.podiumref09_Check : MFunc := ⟨50, 1, [.tmp 2],
 (.seq (.region [
 ⟨some 1, none, .box T.apiBig (.tmp 0)⟩,
 ⟨some 2, none, .val (.mv (.const (.int 0)))⟩] [])
 (.seq (.region [
 ⟨some 5, none, .val (.fieldAddr 1 (.tmp 1))⟩,
 ⟨some 6, none, .val (.load 1 false (.tmp 5))⟩,
 ⟨some 7, none, .val (.len (.tmp 6))⟩,
 ⟨some 3, none, .val (.mv (.tmp 7))⟩] [5, 6, 7])
 (.seq (.seq (.region [
 ⟨some 8, none, .val (.mv (.tmp 3))⟩,
 ⟨some 9, none, .val (.bin .gtr T.int (.tmp 8) (.const (.int 2048)))⟩,
 ⟨some 10, none, .val (.mv (.tmp 9))⟩,
 ⟨some 11, some (10, false), .val (.mv (.tmp 3))⟩,
 ⟨some 12, some (10, false), .val (.bin .eql T.int (.tmp 11) (.const (.int 0)))⟩,
 ⟨some 13, some (10, false), .val (.mv (.tmp 12))⟩,
 ⟨some 14, some (13, true), .val (.fieldAddr 0 (.tmp 1))⟩,
 ⟨some 15, some (13, true), .val (.load 1 false (.tmp 14))⟩,
 ⟨some 16, some (10, false), .val (.pick (.tmp 13) (.tmp 15) (.const (.bool false)))⟩,
 ⟨some 17, none, .val (.pick (.tmp 10) (.const (.bool true)) (.tmp 16))⟩,
 ⟨some 18, none, .val (.mv (.tmp 17))⟩,
 ⟨some 19, some (18, false), .val (.mv (.tmp 3))⟩,
 ⟨some 20, some (18, false), .val (.bin .gtr T.int (.tmp 19) (.const (.int 0)))⟩,
 ⟨some 21, some (18, false), .val (.mv (.tmp 20))⟩,
 ⟨some 22, some (21, true), .val (.fieldAddr 1 (.tmp 1))⟩,
 ⟨some 23, some (21, true), .val (.load 1 false (.tmp 22))⟩,
 ⟨some 24, some (21, true), .val (.mv (.tmp 3))⟩,
 ⟨some 25, some (21, true), .val (.bin .sub T.int (.tmp 24) (.const (.int 1)))⟩,
 ⟨some 26, some (21, true), .val (.indexAddr 1 (.tmp 23) (.tmp 25))⟩,
 ⟨some 27, some (21, true), .val (.load 1 false (.tmp 26))⟩,
 ⟨some 28, some (21, true), .val (.bin .eql T.int (.tmp 27) (.const (.int 0)))⟩,
 ⟨some 29, some (18, false), .val (.pick (.tmp 21) (.tmp 28) (.const (.bool false)))⟩,
 ⟨some 30, none, .val (.pick (.tmp 18) (.const (.bool true)) (.tmp 29))⟩] [8, 9, 10, 11, 12, 13, 14, 15, 16, 17, 18, 19, 20, 21, 22, 23, 24, 25, 26, 27, 28, 29])
 (.cond (.tmp 30)
 (.seq (.region [
 ⟨some 2, none, .val (.mv (.const (.int 90)))⟩] [])
  .ret)
  .skip))
 (.seq (.seq (.region [
 ⟨some 4, none, .val (.mv (.const (.int 0)))⟩] [])
 (.block 0 (.loop (.seq (.seq (.region [
 ⟨some 31, none, .val (.mv (.tmp 4))⟩,
 ⟨some 32, none, .val (.mv (.tmp 3))⟩,
 ⟨some 33, none, .val (.bin .lss T.int (.tmp 31) (.tmp 32))⟩] [31, 32])
 (.cond (.tmp 33)
  .skip
 (.exit 0)))
 (.seq (.block 1 (.seq (.region [
 ⟨some 36, none, .val (.fieldAddr 1 (.tmp 1))⟩,
 ⟨some 37, none, .val (.load 1 false (.tmp 36))⟩,
 ⟨some 38, none, .val (.mv (.tmp 4))⟩,
 ⟨some 39, none, .val (.indexAddr 1 (.tmp 37) (.tmp 38))⟩,
 ⟨some 40, none, .val (.load 1 false (.tmp 39))⟩,
 ⟨some 41, none, .val (.bin .lss T.int (.tmp 40) (.const (.int 0)))⟩,
 ⟨some 42, none, .val (.mv (.tmp 41))⟩,
 ⟨some 43, some (42, false), .val (.fieldAddr 1 (.tmp 1))⟩,
 ⟨some 44, some (42, false), .val (.load 1 false (.tmp 43))⟩,
 ⟨some 45, some (42, false), .val (.mv (.tmp 4))⟩,
 ⟨some 46, some (42, false), .val (.indexAddr 1 (.tmp 44) (.tmp 45))⟩,
 ⟨some 47, some (42, false), .val (.load 1 false (.tmp 46))⟩,
 ⟨some 48, some (42, false), .val (.bin .geq T.int (.tmp 47) (.const (.int 1073741824)))⟩,
 ⟨some 49, none, .val (.pick (.tmp 42) (.const (.bool true)) (.tmp 48))⟩] [36, 37, 38, 39, 40, 41, 42, 43, 44, 45, 46, 47, 48])
 (.cond (.tmp 49)
 (.seq (.region [
 ⟨some 2, none, .val (.mv (.const (.int 90)))⟩] [])
  .ret)
  .skip)))
 (.region [
 ⟨some 34, none, .val (.mv (.tmp 4))⟩,
 ⟨some 35, none, .val (.bin .add T.int (.tmp 34) (.const (.int 1)))⟩,
 ⟨some 4, none, .val (.mv (.tmp 35))⟩] [34, 35]))))))
 (.seq (.region [
 ⟨some 2, none, .val (.mv (.const (.int 0)))⟩] [])
  .ret)))))⟩
theorem H.podiumref09_Check : Has P F.podiumref09_Check C.podiumref09_Check := ⟨Try.f54, Try.func54, by kernel_rfl, by kernel_rfl⟩

/-- podium/podiumref10.zero -/
noncomputable def C.podiumref10_zero : MFunc := ⟨7, 1, [.tmp 2],
 (.seq (.region [
 ⟨some 1, none, .box T.apiBig (.tmp 0)⟩,
 ⟨some 2, none, .val (.mv (.const (.bool false)))⟩] [])
 (.seq (.region [
 ⟨some 3, none, .val (.fieldAddr 1 (.tmp 1))⟩,
 ⟨some 4, none, .val (.load 1 false (.tmp 3))⟩,
 ⟨some 5, none, .val (.len (.tmp 4))⟩,
 ⟨some 6, none, .val (.bin .eql T.int (.tmp 5) (.const (.int 0)))⟩,
 ⟨some 2, none, .val (.mv (.tmp 6))⟩] [3, 4, 5, 6])
  .ret))⟩
theorem H.podiumref10_zero : Has P F.podiumref10_zero C.podiumref10_zero := ⟨Try.f55, Try.func55, by kernel_rfl, by kernel_rfl⟩

/-- podium/podiumref09.Gcd -/
noncomputable def C.podiumref09_Gcd : MFunc := ⟨37, 2, [.cell 4 2 true, .tmp 5],
 (.seq (.region [
 ⟨some 2, none, .box T.apiBig (.tmp 0)⟩,
 ⟨some 3, none, .box T.apiBig (.tmp 1)⟩,
 ⟨some 4, none, .alloc T.apiBig [(.bool false), .nil]⟩,
 ⟨some 5, none, .val (.mv (.const (.int 0)))⟩] [])
 (.seq (.region [
 ⟨some 11, none, .val (.load 2 true (.tmp 2))⟩,
 ⟨some 12, none, .val (.load 2 true (.tmp 3))⟩,
 ⟨some 13, none, .call (.const (.func (.func F.podiumref09_two) [] [])) [(.tmp 11), (.tmp 12)]⟩,
 ⟨some 6, none, .val (.mv (.tmp 13))⟩] [11, 12, 13])
 (.seq (.seq (.region [
 ⟨some 14, none, .val (.mv (.tmp 6))⟩,
 ⟨some 15, none, .val (.bin .neq T.apiErrno (.tmp 14) (.const (.int 0)))⟩] [14])
 (.cond (.tmp 15)
 (.seq (.region [
 ⟨some 16, none, .val (.build [(.bool false), .nil] [])⟩,
 ⟨some 17, none, .val (.mv (.tmp 6))⟩,
 ⟨none, none, .store 2 (.tmp 4) (.tmp 16)⟩,
 ⟨some 5, none, .val (.mv (.tmp 17))⟩] [16, 17])
  .ret)
  .skip))
 (.seq (.region [
 ⟨some 18, none, .val (.fieldAddr 1 (.tmp 2))⟩,
 ⟨some 19, none, .val (.load 1 false (.tmp 18))⟩,
 ⟨some 7, none, .val (.mv (.tmp 19))⟩] [18, 19])
 (.seq (.region [
 ⟨some 20, none, .val (.fieldAddr 1 (.tmp 3))⟩,
 ⟨some 21, none, .val (.load 1 false (.tmp 20))⟩,
 ⟨some 8, none, .val (.mv (.tmp 21))⟩] [20, 21])
 (.seq (.block 0 (.loop (.seq (.seq (.region [
 ⟨some 22, none, .val (.mv (.tmp 8))⟩,
 ⟨some 23, none, .val (.len (.tmp 22))⟩,
 ⟨some 24, none, .val (.bin .gtr T.int (.tmp 23) (.const (.int 0)))⟩] [22, 23])
 (.cond (.tmp 24)
  .skip
 (.exit 0)))
 (.block 1 (.seq (.region [
 ⟨some 26, none, .val (.mv (.tmp 7))⟩,
 ⟨some 27, none, .val (.mv (.tmp 8))⟩,
 ⟨some 28, none, .call (.const (.func (.func F.podiumref09_divide) [] [])) [(.tmp 26), (.tmp 27)]⟩,
 ⟨some 25, none, .val (.mv (.tmp 28))⟩,
 ⟨some 29, none, .val (.extract 0 (.tmp 25))⟩,
 ⟨some 30, none, .val (.extract 1 (.tmp 25))⟩,
 ⟨some 9, none, .val (.mv (.tmp 29))⟩,
 ⟨some 10, none, .val (.mv (.tmp 30))⟩] [26, 27, 28, 25, 29, 30, 9])
 (.seq (.region [
 ⟨some 31, none, .val (.mv (.tmp 8))⟩,
 ⟨some 7, none, .val (.mv (.tmp 31))⟩] [31])
 (.region [
 ⟨some 32, none, .val (.mv (.tmp 10))⟩,
 ⟨some 8, none, .val (.mv (.tmp 32))⟩] [32])))))))
 (.seq (.region [
 ⟨some 33, none, .val (.mv (.tmp 7))⟩,
 ⟨some 34, none, .call (.const (.func (.func F.podiumref09_of) [] [])) [(.const (.bool false)), (.tmp 33)]⟩,
 ⟨some 35, none, .val (.extract 0 (.tmp 34))⟩,
 ⟨some 36, none, .val (.extract 1 (.tmp 34))⟩,
 ⟨none, none, .store 2 (.tmp 4) (.tmp 35)⟩,
 ⟨some 5, none, .val (.mv (.tmp 36))⟩] [33, 34, 35, 36])
  .ret)))))))⟩
theorem H.podiumref09_Gcd : Has P F.podiumref09_Gcd C.podiumref09_Gcd := ⟨Try.f56, Try.func56, by kernel_rfl, by kernel_rfl⟩

/-- podium/podiumref09.Cmp -/
noncomputable def C.podiumref09_Cmp : MFunc := ⟨32, 2, [.tmp 4, .tmp 5],
 (.seq (.region [
 ⟨some 2, none, .box T.apiBig (.tmp 0)⟩,
 ⟨some 3, none, .box T.apiBig (.tmp 1)⟩,
 ⟨some 4, none, .val (.mv (.const (.int 0)))⟩,
 ⟨some 5, none, .val (.mv (.const (.int 0)))⟩] [])
 (.seq (.region [
 ⟨some 7, none, .val (.load 2 true (.tmp 2))⟩,
 ⟨some 8, none, .val (.load 2 true (.tmp 3))⟩,
 ⟨some 9, none, .call (.const (.func (.func F.podiumref09_two) [] [])) [(.tmp 7), (.tmp 8)]⟩,
 ⟨some 6, none, .val (.mv (.tmp 9))⟩] [7, 8, 9])
 (.seq (.seq (.region [
 ⟨some 10, none, .val (.mv (.tmp 6))⟩,
 ⟨some 11, none, .val (.bin .neq T.apiErrno (.tmp 10) (.const (.int 0)))⟩] [10])
 (.cond (.tmp 11)
 (.seq (.region [
 ⟨some 12, none, .val (.mv (.tmp 6))⟩,
 ⟨some 4, none, .val (.mv (.const (.int 0)))⟩,
 ⟨some 5, none, .val (.mv (.tmp 12))⟩] [12])
  .ret)
  .skip))
 (.seq (.seq (.region [
 ⟨some 13, none, .val (.fieldAddr 0 (.tmp 2))⟩,
 ⟨some 14, none, .val (.load 1 false (.tmp 13))⟩,
 ⟨some 15, none, .val (.fieldAddr 0 (.tmp 3))⟩,
 ⟨some 16, none, .val (.load 1 false (.tmp 15))⟩,
 ⟨some 17, none, .val (.eqBool true (.tmp 14) (.tmp 16))⟩] [13, 14, 15, 16])
 (.cond (.tmp 17)
 (.seq (.seq (.region [
 ⟨some 18, none, .val (.fieldAddr 0 (.tmp 2))⟩,
 ⟨some 19, none, .val (.load 1 false (.tmp 18))⟩] [18])
 (.cond (.tmp 19)
 (.seq (.region [
 ⟨some 4, none, .val (.mv (.const (.int (-1))))⟩,
 ⟨some 5, none, .val (.mv (.const (.int 0)))⟩] [])
  .ret)
  .skip))
 (.seq (.region [
 ⟨some 4, none, .val (.mv (.const (.int 1)))⟩,
 ⟨some 5, none, .val (.mv (.const (.int 0)))⟩] [])
  .ret))
  .skip))
 (.seq (.seq (.region [
 ⟨some 20, none, .val (.fieldAddr 0 (.tmp 2))⟩,
 ⟨some 21, none, .val (.load 1 false (.tmp 20))⟩] [20])
 (.cond (.tmp 21)
 (.seq (.region [
 ⟨some 22, none, .val (.fieldAddr 1 (.tmp 3))⟩,
 ⟨some 23, none, .val (.load 1 false (.tmp 22))⟩,
 ⟨some 24, none, .val (.fieldAddr 1 (.tmp 2))⟩,
 ⟨some 25, none, .val (.load 1 false (.tmp 24))⟩,
 ⟨some 26, none, .call (.const (.func (.func F.podiumref09_cmp) [] [])) [(.tmp 23), (.tmp 25)]⟩,
 ⟨some 4, none, .val (.mv (.tmp 26))⟩,
 ⟨some 5, none, .val (.mv (.const (.int 0)))⟩] [22, 23, 24, 25, 26])
  .ret)
  .skip))
 (.seq (.region [
 ⟨some 27, none, .val (.fieldAddr 1 (.tmp 2))⟩,
 ⟨some 28, none, .val (.load 1 false (.tmp 27))⟩,
 ⟨some 29, none, .val (.fieldAddr 1 (.tmp 3))⟩,
 ⟨some 30, none, .val (.load 1 false (.tmp 29))⟩,
 ⟨some 31, none, .call (.const (.func (.func F.podiumref09_cmp) [] [])) [(.tmp 28), (.tmp 30)]⟩,
 ⟨some 4, none, .val (.mv (.tmp 31))⟩,
 ⟨some 5, none, .val (.mv (.const (.int 0)))⟩] [27, 28, 29, 30, 31])
  .ret))))))⟩
theorem H.podiumref09_Cmp : Has P F.podiumref09_Cmp C.podiumref09_Cmp := ⟨Try.f57, Try.func57, by kernel_rfl, by kernel_rfl⟩

/-- podium/ratio.caught -/
noncomputable def C.ratio_caught : MRFunc := ⟨14, 1, 5, [],
 (.seq (.block 0 (.seq (.region [
 ⟨some 7, none, .eqNil false .iface (.tmp 5)⟩] [])
 (.cond (.tmp 7)
 (.region [
 ⟨some 2, none, .val (.mv (.tmp 5))⟩] [2])
 (.seq (.region [
 ⟨some 8, none, .val (.assert T.apiErrno (.int 0) true (.tmp 5))⟩,
 ⟨some 9, none, .val (.extract 1 (.tmp 8))⟩,
 ⟨some 10, none, .val (.extract 0 (.tmp 8))⟩] [8])
 (.cond (.tmp 9)
 (.seq (.region [
 ⟨some 3, none, .val (.mv (.tmp 10))⟩] [])
 (.region [
 ⟨some 11, none, .val (.mv (.tmp 0))⟩,
 ⟨some 12, none, .val (.mv (.tmp 3))⟩,
 ⟨some 13, none, .val (.nilCheck (.tmp 11))⟩,
 ⟨none, none, .store 1 (.tmp 13) (.tmp 12)⟩] [11, 12, 13]))
 (.seq (.region [
 ⟨some 4, none, .val (.mv (.tmp 5))⟩] [])
 (.region [
 ⟨some 6, none, .val (.mv (.tmp 4))⟩,
 ⟨none, none, .panic (.tmp 6)⟩] [6])))))))
  .skip)⟩
theorem H.ratio_caught : HasR P F.ratio_caught C.ratio_caught := ⟨Try.f58, Try.func58, by kernel_rfl, by kernel_rfl⟩

/-- podium/ratio.valid -/
noncomputable def C.ratio_valid : MFunc := ⟨15, 1, [],
 (.seq (.region [
 ⟨some 4, none, .val (.mv (.tmp 0))⟩,
 ⟨some 5, none, .val (.len (.tmp 4))⟩,
 ⟨some 6, none, .val (.mv (.const (.int 0)))⟩] [])
 (.block 0 (.loop (.seq (.region [
 ⟨some 7, none, .val (.bin .lss T.int (.tmp 6) (.tmp 5))⟩] [])
 (.seq (.cond (.tmp 7)
  .skip
 (.exit 0))
 (.seq (.block 1 (.seq (.region [
 ⟨some 8, none, .val (.indexAddr 4 (.tmp 4) (.tmp 6))⟩,
 ⟨some 9, none, .val (.load 4 true (.tmp 8))⟩,
 ⟨some 3, none, .alloc T.apiRatio [(.bool false), .nil, (.bool false), .nil]⟩,
 ⟨none, none, .store 4 (.tmp 3) (.tmp 9)⟩] [8, 9])
 (.region [
 ⟨some 10, none, .val (.load 4 true (.tmp 3))⟩,
 ⟨some 11, none, .call (.const (.func (.func F.ratio_Check) [] [])) [(.tmp 10)]⟩,
 ⟨some 12, none, .val (.bin .eql T.apiErrno (.tmp 11) (.const (.int 0)))⟩,
 ⟨some 13, none, .call (.const (.func (.func F.ratio_need) [] [])) [(.tmp 12), (.const (.int 100))]⟩] [10, 11, 12, 13])))
 (.region [
 ⟨some 14, none, .val (.bin .add T.int (.tmp 6) (.const (.int 1)))⟩,
 ⟨some 6, none, .val (.mv (.tmp 14))⟩] [14])))))))⟩
theorem H.ratio_valid : Has P F.ratio_valid C.ratio_valid := ⟨Try.f59, Try.func59, by kernel_rfl, by kernel_rfl⟩

/-- podium/ratio.products -/
noncomputable def C.ratio_products : MFunc := ⟨28, 1, [.tmp 2],
 (.seq (.region [
 ⟨some 2, none, .val (.mv (.const .nil))⟩] [])
 (.seq (.seq (.region [
 ⟨some 3, none, .val (.mv (.const (.int 0)))⟩] [])
 (.block 0 (.loop (.seq (.seq (.region [
 ⟨some 4, none, .val (.mv (.tmp 3))⟩,
 ⟨some 5, none, .val (.bin .add T.int (.tmp 4) (.const (.int 1)))⟩,
 ⟨some 6, none, .val (.mv (.tmp 0))⟩,
 ⟨some 7, none, .val (.len (.tmp 6))⟩,
 ⟨some 8, none, .val (.bin .lss T.int (.tmp 5) (.tmp 7))⟩] [4, 5, 6, 7])
 (.cond (.tmp 8)
  .skip
 (.exit 0)))
 (.seq (.block 1 (.draw true [
 (.late, ⟨some 11, none, .val (.mv (.tmp 2))⟩),
 (.early, ⟨some 12, none, .val (.mv (.tmp 0))⟩),
 (.early, ⟨some 13, none, .val (.mv (.tmp 3))⟩),
 (.early, ⟨some 14, none, .val (.indexAddr 2 (.tmp 12) (.tmp 13))⟩),
 (.early, ⟨some 15, none, .val (.load 2 true (.tmp 14))⟩),
 (.early, ⟨some 16, none, .val (.mv (.tmp 0))⟩),
 (.early, ⟨some 17, none, .val (.mv (.tmp 3))⟩),
 (.early, ⟨some 18, none, .val (.bin .add T.int (.tmp 17) (.const (.int 1)))⟩),
 (.early, ⟨some 19, none, .val (.indexAddr 2 (.tmp 16) (.tmp 18))⟩),
 (.early, ⟨some 20, none, .val (.load 2 true (.tmp 19))⟩),
 (.hard, ⟨some 21, none, .call (.const (.func (.func F.nat_Mul) [] [])) [(.tmp 15), (.tmp 20)]⟩),
 (.late, ⟨some 22, none, .val (.extract 0 (.tmp 21))⟩),
 (.late, ⟨some 23, none, .val (.extract 1 (.tmp 21))⟩),
 (.hard, ⟨some 24, none, .call (.const (.func (.func F.ratio_did__apiBig) [] [])) [(.tmp 22), (.tmp 23)]⟩),
 (.late, ⟨some 25, none, .val (.buildSlice T.apiBig 1 [(.bool false), .nil] [(0, 2, (.tmp 24))])⟩),
 (.hard, ⟨some 26, none, .append T.apiBig 32 2 (.tmp 11) (.tmp 25)⟩),
 (.late, ⟨some 2, none, .val (.mv (.tmp 26))⟩)] [11, 12, 13, 14, 15, 16, 17, 18, 19, 20, 21, 22, 23, 24, 25, 26]))
 (.region [
 ⟨some 9, none, .val (.mv (.tmp 3))⟩,
 ⟨some 10, none, .val (.bin .add T.int (.tmp 9) (.const (.int 2)))⟩,
 ⟨some 3, none, .val (.mv (.tmp 10))⟩] [9, 10]))))))
 (.seq (.region [
 ⟨some 27, none, .val (.mv (.tmp 2))⟩,
 ⟨some 2, none, .val (.mv (.tmp 27))⟩] [27])
  .ret)))⟩
theorem H.ratio_products : Has P F.ratio_products C.ratio_products := ⟨Try.f60, Try.func60, by kernel_rfl, by kernel_rfl⟩

/-- podium/ratio.did[int] -/
noncomputable def C.ratio_did__int : MFunc := ⟨10, 2, [.tmp 4],
 (.seq (.region [
 ⟨some 4, none, .val (.mv (.const (.int 0)))⟩] [])
 (.seq (.region [
 ⟨some 5, none, .val (.mv (.tmp 1))⟩,
 ⟨some 6, none, .val (.bin .eql T.apiErrno (.tmp 5) (.const (.int 0)))⟩,
 ⟨some 7, none, .val (.mv (.tmp 1))⟩,
 ⟨some 8, none, .call (.const (.func (.func F.ratio_need) [] [])) [(.tmp 6), (.tmp 7)]⟩] [5, 6, 7, 8])
 (.seq (.region [
 ⟨some 9, none, .val (.mv (.tmp 0))⟩,
 ⟨some 4, none, .val (.mv (.tmp 9))⟩] [9])
  .ret)))⟩
theorem H.ratio_did__int : Has P F.ratio_did__int C.ratio_did__int := ⟨Try.f61, Try.func61, by kernel_rfl, by kernel_rfl⟩

/-- podium/nat.Cmp -/
noncomputable def C.nat_Cmp : MDFunc := ⟨33, 2, [5], [.tmp 4, .cell 5 1 false],
 (.pre [] (.region [
 ⟨some 2, none, .box T.apiBig (.tmp 0)⟩,
 ⟨some 3, none, .box T.apiBig (.tmp 1)⟩,
 ⟨some 4, none, .val (.mv (.const (.int 0)))⟩,
 ⟨some 5, none, .alloc T.apiErrno [(.int 0)]⟩] [])
 (.push (.const (.func (.func F.nat_caught) [] [])) [(.tmp 5)]
 (.pre [4] (.region [
 ⟨some 6, none, .val (.load 2 true (.tmp 2))⟩,
 ⟨some 7, none, .val (.load 2 true (.tmp 3))⟩,
 ⟨some 8, none, .val (.buildSlice T.apiBig 2 [(.bool false), .nil, (.bool false), .nil] [(0, 2, (.tmp 6)), (2, 2, (.tmp 7))])⟩,
 ⟨some 9, none, .call (.const (.func (.func F.nat_check) [] [])) [(.tmp 8)]⟩] [6, 7, 8, 9])
 (.pre [] (.block 0 (.seq (.region [
 ⟨some 11, none, .val (.fieldAddr 0 (.tmp 2))⟩,
 ⟨some 12, none, .val (.load 1 false (.tmp 11))⟩,
 ⟨some 13, none, .val (.mv (.tmp 12))⟩,
 ⟨some 14, some (13, true), .val (.fieldAddr 0 (.tmp 3))⟩,
 ⟨some 15, some (13, true), .val (.load 1 false (.tmp 14))⟩,
 ⟨some 16, none, .val (.pick (.tmp 13) (.tmp 15) (.const (.bool false)))⟩,
 ⟨some 10, none, .val (.mv (.tmp 16))⟩] [11, 12, 13, 14, 15, 16])
 (.cond (.tmp 10)
 (.seq (.region [
 ⟨some 17, none, .val (.fieldAddr 1 (.tmp 3))⟩,
 ⟨some 18, none, .val (.load 1 false (.tmp 17))⟩,
 ⟨some 19, none, .val (.fieldAddr 1 (.tmp 2))⟩,
 ⟨some 20, none, .val (.load 1 false (.tmp 19))⟩,
 ⟨some 21, none, .call (.const (.func (.func F.nat_compare) [] [])) [(.tmp 18), (.tmp 20)]⟩,
 ⟨some 4, none, .val (.mv (.tmp 21))⟩,
 ⟨none, none, .store 1 (.tmp 5) (.const (.int 0))⟩] [17, 18, 19, 20, 21])
  .ret)
 (.seq (.region [
 ⟨some 23, none, .val (.fieldAddr 0 (.tmp 2))⟩,
 ⟨some 24, none, .val (.load 1 false (.tmp 23))⟩,
 ⟨some 22, none, .val (.mv (.tmp 24))⟩] [23, 24])
 (.cond (.tmp 22)
 (.seq (.region [
 ⟨some 4, none, .val (.mv (.const (.int (-1))))⟩,
 ⟨none, none, .store 1 (.tmp 5) (.const (.int 0))⟩] [])
  .ret)
 (.seq (.region [
 ⟨some 26, none, .val (.fieldAddr 0 (.tmp 3))⟩,
 ⟨some 27, none, .val (.load 1 false (.tmp 26))⟩,
 ⟨some 25, none, .val (.mv (.tmp 27))⟩] [26, 27])
 (.cond (.tmp 25)
 (.seq (.region [
 ⟨some 4, none, .val (.mv (.const (.int 1)))⟩,
 ⟨none, none, .store 1 (.tmp 5) (.const (.int 0))⟩] [])
  .ret)
  .skip)))))))
 (.pre [] (.region [
 ⟨some 28, none, .val (.fieldAddr 1 (.tmp 2))⟩,
 ⟨some 29, none, .val (.load 1 false (.tmp 28))⟩,
 ⟨some 30, none, .val (.fieldAddr 1 (.tmp 3))⟩,
 ⟨some 31, none, .val (.load 1 false (.tmp 30))⟩,
 ⟨some 32, none, .call (.const (.func (.func F.nat_compare) [] [])) [(.tmp 29), (.tmp 31)]⟩,
 ⟨some 4, none, .val (.mv (.tmp 32))⟩,
 ⟨none, none, .store 1 (.tmp 5) (.const (.int 0))⟩] [28, 29, 30, 31, 32])
 (.pre [4] .ret
  .done))))))⟩
theorem H.nat_Cmp : HasD P F.nat_Cmp C.nat_Cmp := ⟨Try.f62, Try.func62, by kernel_rfl, by kernel_rfl⟩

/-- podium/nat.Check -/
noncomputable def C.nat_Check : MFunc := ⟨37, 1, [.tmp 2],
 (.seq (.region [
 ⟨some 1, none, .box T.apiBig (.tmp 0)⟩,
 ⟨some 2, none, .val (.mv (.const (.int 0)))⟩] [])
 (.seq (.region [
 ⟨some 5, none, .val (.fieldAddr 1 (.tmp 1))⟩,
 ⟨some 6, none, .val (.load 1 false (.tmp 5))⟩,
 ⟨some 7, none, .val (.len (.tmp 6))⟩,
 ⟨some 3, none, .val (.mv (.tmp 7))⟩] [5, 6, 7])
 (.seq (.region [
 ⟨some 4, none, .val (.mv (.const (.func (.func F.nat_Check_1) [] [])))⟩] [])
 (.seq (.seq (.region [
 ⟨some 8, none, .val (.mv (.tmp 3))⟩,
 ⟨some 9, none, .val (.bin .gtr T.int (.tmp 8) (.const (.int 2048)))⟩,
 ⟨some 10, none, .val (.mv (.tmp 9))⟩,
 ⟨some 11, some (10, false), .val (.mv (.tmp 3))⟩,
 ⟨some 12, some (10, false), .val (.bin .eql T.int (.tmp 11) (.const (.int 0)))⟩,
 ⟨some 13, some (10, false), .val (.mv (.tmp 12))⟩,
 ⟨some 14, some (13, true), .val (.fieldAddr 0 (.tmp 1))⟩,
 ⟨some 15, some (13, true), .val (.load 1 false (.tmp 14))⟩,
 ⟨some 16, some (10, false), .val (.pick (.tmp 13) (.tmp 15) (.const (.bool false)))⟩,
 ⟨some 17, none, .val (.pick (.tmp 10) (.const (.bool true)) (.tmp 16))⟩,
 ⟨some 18, none, .val (.mv (.tmp 17))⟩,
 ⟨some 19, some (18, false), .val (.mv (.tmp 3))⟩,
 ⟨some 20, some (18, false), .val (.bin .gtr T.int (.tmp 19) (.const (.int 0)))⟩,
 ⟨some 21, some (18, false), .val (.mv (.tmp 20))⟩,
 ⟨some 22, some (21, true), .val (.fieldAddr 1 (.tmp 1))⟩,
 ⟨some 23, some (21, true), .val (.load 1 false (.tmp 22))⟩,
 ⟨some 24, some (21, true), .val (.mv (.tmp 3))⟩,
 ⟨some 25, some (21, true), .val (.bin .sub T.int (.tmp 24) (.const (.int 1)))⟩,
 ⟨some 26, some (21, true), .val (.indexAddr 1 (.tmp 23) (.tmp 25))⟩,
 ⟨some 27, some (21, true), .val (.load 1 false (.tmp 26))⟩,
 ⟨some 28, some (21, true), .val (.bin .eql T.int (.tmp 27) (.const (.int 0)))⟩,
 ⟨some 29, some (18, false), .val (.pick (.tmp 21) (.tmp 28) (.const (.bool false)))⟩,
 ⟨some 30, none, .val (.pick (.tmp 18) (.const (.bool true)) (.tmp 29))⟩,
 ⟨some 31, none, .val (.mv (.tmp 30))⟩,
 ⟨some 32, some (31, false), .val (.fieldAddr 1 (.tmp 1))⟩,
 ⟨some 33, some (31, false), .val (.load 1 false (.tmp 32))⟩,
 ⟨some 34, some (31, false), .val (.mv (.tmp 4))⟩,
 ⟨some 35, some (31, false), .call (.const (.func (.func F.slices_ContainsFunc__Lint_int) [] [])) [(.tmp 33), (.tmp 34)]⟩,
 ⟨some 36, none, .val (.pick (.tmp 31) (.const (.bool true)) (.tmp 35))⟩] [8, 9, 10, 11, 12, 13, 14, 15, 16, 17, 18, 19, 20, 21, 22, 23, 24, 25, 26, 27, 28, 29, 30, 31, 32, 33, 34, 35])
 (.cond (.tmp 36)
 (.seq (.region [
 ⟨some 2, none, .val (.mv (.const (.int 90)))⟩] [])
  .ret)
  .skip))
 (.seq (.region [
 ⟨some 2, none, .val (.mv (.const (.int 0)))⟩] [])
  .ret)))))⟩
theorem H.nat_Check : Has P F.nat_Check C.nat_Check := ⟨Try.f63, Try.func63, by kernel_rfl, by kernel_rfl⟩

/-- podium/ratio.positive -/
noncomputable def C.ratio_positive : MFunc := ⟨12, 1, [.tmp 2],
 (.seq (.region [
 ⟨some 1, none, .box T.apiBig (.tmp 0)⟩,
 ⟨some 2, none, .val (.mv (.const (.bool false)))⟩] [])
 (.seq (.region [
 ⟨some 3, none, .val (.fieldAddr 0 (.tmp 1))⟩,
 ⟨some 4, none, .val (.load 1 false (.tmp 3))⟩,
 ⟨some 5, none, .val (.un .not (.tmp 4))⟩,
 ⟨some 6, none, .val (.mv (.tmp 5))⟩,
 ⟨some 7, some (6, true), .val (.fieldAddr 1 (.tmp 1))⟩,
 ⟨some 8, some (6, true), .val (.load 1 false (.tmp 7))⟩,
 ⟨some 9, some (6, true), .val (.len (.tmp 8))⟩,
 ⟨some 10, some (6, true), .val (.bin .gtr T.int (.tmp 9) (.const (.int 0)))⟩,
 ⟨some 11, none, .val (.pick (.tmp 6) (.tmp 10) (.const (.bool false)))⟩,
 ⟨some 2, none, .val (.mv (.tmp 11))⟩] [3, 4, 5, 6, 7, 8, 9, 10, 11])
  .ret))⟩
theorem H.ratio_positive : Has P F.ratio_positive C.ratio_positive := ⟨Try.f64, Try.func64, by kernel_rfl, by kernel_rfl⟩

/-- podium/nat.Gcd -/
noncomputable def C.nat_Gcd : MDFunc := ⟨31, 2, [4, 5], [.cell 4 2 true, .cell 5 1 false],
 (.pre [] (.region [
 ⟨some 2, none, .box T.apiBig (.tmp 0)⟩,
 ⟨some 3, none, .box T.apiBig (.tmp 1)⟩,
 ⟨some 4, none, .alloc T.apiBig [(.bool false), .nil]⟩,
 ⟨some 5, none, .alloc T.apiErrno [(.int 0)]⟩] [])
 (.push (.const (.func (.func F.nat_caught) [] [])) [(.tmp 5)]
 (.pre [] (.region [
 ⟨some 10, none, .val (.load 2 true (.tmp 2))⟩,
 ⟨some 11, none, .val (.load 2 true (.tmp 3))⟩,
 ⟨some 12, none, .val (.buildSlice T.apiBig 2 [(.bool false), .nil, (.bool false), .nil] [(0, 2, (.tmp 10)), (2, 2, (.tmp 11))])⟩,
 ⟨some 13, none, .call (.const (.func (.func F.nat_check) [] [])) [(.tmp 12)]⟩] [10, 11, 12, 13])
 (.pre [] (.draw false [
 (.early, ⟨some 14, none, .val (.fieldAddr 1 (.tmp 2))⟩),
 (.early, ⟨some 15, none, .val (.load 1 false (.tmp 14))⟩),
 (.early, ⟨some 16, none, .val (.fieldAddr 1 (.tmp 3))⟩),
 (.early, ⟨some 17, none, .val (.load 1 false (.tmp 16))⟩),
 (.early, ⟨some 6, none, .val (.mv (.tmp 15))⟩),
 (.early, ⟨some 7, none, .val (.mv (.tmp 17))⟩)] [14, 15, 16, 17])
 (.pre [] (.block 0 (.loop (.seq (.seq (.region [
 ⟨some 18, none, .val (.mv (.tmp 7))⟩,
 ⟨some 19, none, .val (.len (.tmp 18))⟩,
 ⟨some 20, none, .val (.bin .gtr T.int (.tmp 19) (.const (.int 0)))⟩] [18, 19])
 (.cond (.tmp 20)
  .skip
 (.exit 0)))
 (.block 1 (.seq (.region [
 ⟨some 22, none, .val (.mv (.tmp 6))⟩,
 ⟨some 23, none, .val (.mv (.tmp 7))⟩,
 ⟨some 24, none, .call (.const (.func (.func F.nat_div) [] [])) [(.tmp 22), (.tmp 23)]⟩,
 ⟨some 21, none, .val (.mv (.tmp 24))⟩,
 ⟨some 25, none, .val (.extract 0 (.tmp 21))⟩,
 ⟨some 26, none, .val (.extract 1 (.tmp 21))⟩,
 ⟨some 8, none, .val (.mv (.tmp 25))⟩,
 ⟨some 9, none, .val (.mv (.tmp 26))⟩] [22, 23, 24, 21, 25, 26, 8])
 (.region [
 ⟨some 27, none, .val (.mv (.tmp 7))⟩,
 ⟨some 28, none, .val (.mv (.tmp 9))⟩,
 ⟨some 6, none, .val (.mv (.tmp 27))⟩,
 ⟨some 7, none, .val (.mv (.tmp 28))⟩] [27, 28]))))))
 (.pre [] (.region [
 ⟨some 29, none, .val (.mv (.tmp 6))⟩,
 ⟨some 30, none, .call (.const (.func (.func F.nat_big) [] [])) [(.const (.bool false)), (.tmp 29)]⟩,
 ⟨none, none, .store 2 (.tmp 4) (.tmp 30)⟩,
 ⟨none, none, .store 1 (.tmp 5) (.const (.int 0))⟩] [29, 30])
 (.pre [] .ret
  .done)))))))⟩
theorem H.nat_Gcd : HasD P F.nat_Gcd C.nat_Gcd := ⟨Try.f65, Try.func65, by kernel_rfl, by kernel_rfl⟩

/-- podium/podiumref09.two -/
noncomputable def C.podiumref09_two : MFunc := ⟨10, 2, [.tmp 4],
 (.seq (.region [
 ⟨some 2, none, .box T.apiBig (.tmp 0)⟩,
 ⟨some 3, none, .box T.apiBig (.tmp 1)⟩,
 ⟨some 4, none, .val (.mv (.const (.int 0)))⟩] [])
 (.seq (.seq (.region [
 ⟨some 5, none, .val (.load 2 true (.tmp 2))⟩,
 ⟨some 6, none, .call (.const (.func (.func F.podiumref09_Check) [] [])) [(.tmp 5)]⟩,
 ⟨some 7, none, .val (.bin .neq T.apiErrno (.tmp 6) (.const (.int 0)))⟩] [5, 6])
 (.cond (.tmp 7)
 (.seq (.region [
 ⟨some 4, none, .val (.mv (.const (.int 90)))⟩] [])
  .ret)
  .skip))
 (.seq (.region [
 ⟨some 8, none, .val (.load 2 true (.tmp 3))⟩,
 ⟨some 9, none, .call (.const (.func (.func F.podiumref09_Check) [] [])) [(.tmp 8)]⟩,
 ⟨some 4, none, .val (.mv (.tmp 9))⟩] [8, 9])
  .ret)))⟩
theorem H.podiumref09_two : Has P F.podiumref09_two C.podiumref09_two := ⟨Try.f67, Try.func67, by kernel_rfl, by kernel_rfl⟩

/-- podium/podiumref09.divide -/
noncomputable def C.podiumref09_divide : MFunc := ⟨78, 2, [.tmp 4, .tmp 5],
 (.seq (.region [
 ⟨some 4, none, .val (.mv (.const .nil))⟩,
 ⟨some 5, none, .val (.mv (.const .nil))⟩] [])
 (.seq (.region [
 ⟨some 13, none, .val (.mv (.tmp 0))⟩,
 ⟨some 14, none, .val (.len (.tmp 13))⟩,
 ⟨some 15, none, .mkSlice T.int 8 1 [(.int 0)] (.tmp 14) (.tmp 14)⟩,
 ⟨some 6, none, .val (.mv (.tmp 15))⟩] [13, 14, 15])
 (.seq (.region [
 ⟨some 16, none, .val (.mv (.tmp 0))⟩,
 ⟨some 17, none, .val (.len (.tmp 16))⟩,
 ⟨some 18, none, .val (.mv (.tmp 1))⟩,
 ⟨some 19, none, .val (.len (.tmp 18))⟩,
 ⟨some 20, none, .val (.bin .sub T.int (.tmp 17) (.tmp 19))⟩,
 ⟨some 21, none, .val (.bin .add T.int (.tmp 20) (.const (.int 1)))⟩,
 ⟨some 22, none, .val (.minmax true [(.const (.int 0)), (.tmp 21)])⟩,
 ⟨some 7, none, .val (.mv (.tmp 22))⟩] [16, 17, 18, 19, 20, 21, 22])
 (.seq (.region [
 ⟨some 23, none, .val (.buildSlice T.int 0 [] [])⟩,
 ⟨some 24, none, .val (.mv (.tmp 0))⟩,
 ⟨some 25, none, .val (.mv (.tmp 7))⟩,
 ⟨some 26, none, .val (.slice 1 (.tmp 24) (some (.tmp 25)) none none)⟩,
 ⟨some 27, none, .append T.int 8 1 (.tmp 23) (.tmp 26)⟩,
 ⟨some 28, none, .call (.const (.func (.func F.podiumref09_trim) [] [])) [(.tmp 27)]⟩,
 ⟨some 8, none, .val (.mv (.tmp 28))⟩] [23, 24, 25, 26, 27, 28])
 (.seq (.seq (.region [
 ⟨some 29, none, .val (.mv (.tmp 7))⟩,
 ⟨some 30, none, .val (.bin .sub T.int (.tmp 29) (.const (.int 1)))⟩,
 ⟨some 9, none, .val (.mv (.tmp 30))⟩] [29, 30])
 (.block 0 (.loop (.seq (.seq (.region [
 ⟨some 31, none, .val (.mv (.tmp 9))⟩,
 ⟨some 32, none, .val (.bin .geq T.int (.tmp 31) (.const (.int 0)))⟩] [31])
 (.cond (.tmp 32)
  .skip
 (.exit 0)))
 (.seq (.block 1 (.seq (.region [
 ⟨some 35, none, .val (.mv (.tmp 0))⟩,
 ⟨some 36, none, .val (.mv (.tmp 9))⟩,
 ⟨some 37, none, .val (.indexAddr 1 (.tmp 35) (.tmp 36))⟩,
 ⟨some 38, none, .val (.load 1 false (.tmp 37))⟩,
 ⟨some 39, none, .val (.buildSlice T.int 1 [(.int 0)] [(0, 1, (.tmp 38))])⟩,
 ⟨some 40, none, .val (.mv (.tmp 8))⟩,
 ⟨some 41, none, .append T.int 8 1 (.tmp 39) (.tmp 40)⟩,
 ⟨some 42, none, .call (.const (.func (.func F.podiumref09_trim) [] [])) [(.tmp 41)]⟩,
 ⟨some 8, none, .val (.mv (.tmp 42))⟩] [35, 36, 37, 38, 39, 40, 41, 42])
 (.seq (.seq (.region [
 ⟨some 43, none, .val (.mv (.tmp 8))⟩,
 ⟨some 44, none, .val (.mv (.tmp 1))⟩,
 ⟨some 45, none, .call (.const (.func (.func F.podiumref09_cmp) [] [])) [(.tmp 43), (.tmp 44)]⟩,
 ⟨some 46, none, .val (.bin .lss T.int (.tmp 45) (.const (.int 0)))⟩] [43, 44, 45])
 (.cond (.tmp 46)
 (.exit 1)
  .skip))
 (.seq (.region [
 ⟨some 10, none, .val (.mv (.const (.int 0)))⟩] [])
 (.seq (.region [
 ⟨some 11, none, .val (.mv (.const (.int 1073741823)))⟩] [])
 (.seq (.block 2 (.loop (.seq (.seq (.region [
 ⟨some 47, none, .val (.mv (.tmp 10))⟩,
 ⟨some 48, none, .val (.mv (.tmp 11))⟩,
 ⟨some 49, none, .val (.bin .lss T.int (.tmp 47) (.tmp 48))⟩] [47, 48])
 (.cond (.tmp 49)
  .skip
 (.exit 2)))
 (.block 3 (.seq (.region [
 ⟨some 50, none, .val (.mv (.tmp 10))⟩,
 ⟨some 51, none, .val (.mv (.tmp 11))⟩,
 ⟨some 52, none, .val (.bin .add T.int (.tmp 50) (.tmp 51))⟩,
 ⟨some 53, none, .val (.bin .add T.int (.tmp 52) (.const (.int 1)))⟩,
 ⟨some 54, none, .val (.bin .quo T.int (.tmp 53) (.const (.int 2)))⟩,
 ⟨some 12, none, .val (.mv (.tmp 54))⟩] [50, 51, 52, 53, 54])
 (.seq (.region [
 ⟨some 55, none, .val (.mv (.tmp 12))⟩,
 ⟨some 56, none, .val (.buildSlice T.int 1 [(.int 0)] [(0, 1, (.tmp 55))])⟩,
 ⟨some 57, none, .val (.mv (.tmp 1))⟩,
 ⟨some 58, none, .call (.const (.func (.func F.podiumref09_times) [] [])) [(.tmp 56), (.tmp 57)]⟩,
 ⟨some 59, none, .val (.mv (.tmp 8))⟩,
 ⟨some 60, none, .call (.const (.func (.func F.podiumref09_cmp) [] [])) [(.tmp 58), (.tmp 59)]⟩,
 ⟨some 61, none, .val (.bin .leq T.int (.tmp 60) (.const (.int 0)))⟩] [55, 56, 57, 58, 59, 60])
 (.cond (.tmp 61)
 (.region [
 ⟨some 62, none, .val (.mv (.tmp 12))⟩,
 ⟨some 10, none, .val (.mv (.tmp 62))⟩] [62])
 (.region [
 ⟨some 63, none, .val (.mv (.tmp 12))⟩,
 ⟨some 64, none, .val (.bin .sub T.int (.tmp 63) (.const (.int 1)))⟩,
 ⟨some 11, none, .val (.mv (.tmp 64))⟩] [63, 64]))))))))
 (.seq (.region [
 ⟨some 65, none, .val (.mv (.tmp 6))⟩,
 ⟨some 66, none, .val (.mv (.tmp 9))⟩,
 ⟨some 67, none, .val (.mv (.tmp 10))⟩,
 ⟨some 68, none, .val (.indexAddr 1 (.tmp 65) (.tmp 66))⟩,
 ⟨none, none, .store 1 (.tmp 68) (.tmp 67)⟩] [65, 66, 67, 68])
 (.region [
 ⟨some 69, none, .val (.mv (.tmp 8))⟩,
 ⟨some 70, none, .val (.mv (.tmp 10))⟩,
 ⟨some 71, none, .val (.buildSlice T.int 1 [(.int 0)] [(0, 1, (.tmp 70))])⟩,
 ⟨some 72, none, .val (.mv (.tmp 1))⟩,
 ⟨some 73, none, .call (.const (.func (.func F.podiumref09_times) [] [])) [(.tmp 71), (.tmp 72)]⟩,
 ⟨some 74, none, .call (.const (.func (.func F.podiumref09_less) [] [])) [(.tmp 69), (.tmp 73)]⟩,
 ⟨some 8, none, .val (.mv (.tmp 74))⟩] [69, 70, 71, 72, 73, 74]))))))))
 (.region [
 ⟨some 33, none, .val (.mv (.tmp 9))⟩,
 ⟨some 34, none, .val (.bin .sub T.int (.tmp 33) (.const (.int 1)))⟩,
 ⟨some 9, none, .val (.mv (.tmp 34))⟩] [33, 34]))))))
 (.seq (.region [
 ⟨some 75, none, .val (.mv (.tmp 6))⟩,
 ⟨some 76, none, .call (.const (.func (.func F.podiumref09_trim) [] [])) [(.tmp 75)]⟩,
 ⟨some 77, none, .val (.mv (.tmp 8))⟩,
 ⟨some 4, none, .val (.mv (.tmp 76))⟩,
 ⟨some 5, none, .val (.mv (.tmp 77))⟩] [75, 76, 77])
  .ret))))))⟩
theorem H.podiumref09_divide : Has P F.podiumref09_divide C.podiumref09_divide := ⟨Try.f68, Try.func68, by kernel_rfl, by kernel_rfl⟩

/-- podium/podiumref09.of -/
noncomputable def C.podiumref09_of : MFunc := ⟨20, 2, [.cell 4 2 true, .tmp 5],
 (.seq (.region [
 ⟨some 4, none, .alloc T.apiBig [(.bool false), .nil]⟩,
 ⟨some 5, none, .val (.mv (.const (.int 0)))⟩] [])
 (.seq (.region [
 ⟨some 6, none, .val (.mv (.tmp 1))⟩,
 ⟨some 7, none, .call (.const (.func (.func F.podiumref09_trim) [] [])) [(.tmp 6)]⟩,
 ⟨some 1, none, .val (.mv (.tmp 7))⟩] [6, 7])
 (.seq (.seq (.region [
 ⟨some 8, none, .val (.mv (.tmp 1))⟩,
 ⟨some 9, none, .val (.len (.tmp 8))⟩,
 ⟨some 10, none, .val (.bin .gtr T.int (.tmp 9) (.const (.int 2048)))⟩] [8, 9])
 (.cond (.tmp 10)
 (.seq (.region [
 ⟨some 11, none, .val (.build [(.bool false), .nil] [])⟩,
 ⟨none, none, .store 2 (.tmp 4) (.tmp 11)⟩,
 ⟨some 5, none, .val (.mv (.const (.int 2)))⟩] [11])
  .ret)
  .skip))
 (.seq (.region [
 ⟨some 12, none, .val (.mv (.tmp 0))⟩,
 ⟨some 13, none, .val (.mv (.tmp 12))⟩,
 ⟨some 14, some (13, true), .val (.mv (.tmp 1))⟩,
 ⟨some 15, some (13, true), .val (.len (.tmp 14))⟩,
 ⟨some 16, some (13, true), .val (.bin .gtr T.int (.tmp 15) (.const (.int 0)))⟩,
 ⟨some 17, none, .val (.pick (.tmp 13) (.tmp 16) (.const (.bool false)))⟩,
 ⟨some 18, none, .val (.mv (.tmp 1))⟩,
 ⟨some 19, none, .val (.build [(.bool false), .nil] [(0, 1, (.tmp 17)), (1, 1, (.tmp 18))])⟩,
 ⟨none, none, .store 2 (.tmp 4) (.tmp 19)⟩,
 ⟨some 5, none, .val (.mv (.const (.int 0)))⟩] [12, 13, 14, 15, 16, 17, 18, 19])
  .ret))))⟩
theorem H.podiumref09_of : Has P F.podiumref09_of C.podiumref09_of := ⟨Try.f69, Try.func69, by kernel_rfl, by kernel_rfl⟩

/-- podium/podiumref09.cmp -/
noncomputable def C.podiumref09_cmp : MFunc := ⟨41, 2, [.tmp 4],
 (.seq (.region [
 ⟨some 4, none, .val (.mv (.const (.int 0)))⟩] [])
 (.seq (.seq (.region [
 ⟨some 6, none, .val (.mv (.tmp 0))⟩,
 ⟨some 7, none, .val (.len (.tmp 6))⟩,
 ⟨some 8, none, .val (.mv (.tmp 1))⟩,
 ⟨some 9, none, .val (.len (.tmp 8))⟩,
 ⟨some 10, none, .val (.bin .neq T.int (.tmp 7) (.tmp 9))⟩] [6, 7, 8, 9])
 (.cond (.tmp 10)
 (.seq (.seq (.region [
 ⟨some 11, none, .val (.mv (.tmp 0))⟩,
 ⟨some 12, none, .val (.len (.tmp 11))⟩,
 ⟨some 13, none, .val (.mv (.tmp 1))⟩,
 ⟨some 14, none, .val (.len (.tmp 13))⟩,
 ⟨some 15, none, .val (.bin .lss T.int (.tmp 12) (.tmp 14))⟩] [11, 12, 13, 14])
 (.cond (.tmp 15)
 (.seq (.region [
 ⟨some 4, none, .val (.mv (.const (.int (-1))))⟩] [])
  .ret)
  .skip))
 (.seq (.region [
 ⟨some 4, none, .val (.mv (.const (.int 1)))⟩] [])
  .ret))
  .skip))
 (.seq (.seq (.region [
 ⟨some 16, none, .val (.mv (.tmp 0))⟩,
 ⟨some 17, none, .val (.len (.tmp 16))⟩,
 ⟨some 18, none, .val (.bin .sub T.int (.tmp 17) (.const (.int 1)))⟩,
 ⟨some 5, none, .val (.mv (.tmp 18))⟩] [16, 17, 18])
 (.block 0 (.loop (.seq (.seq (.region [
 ⟨some 19, none, .val (.mv (.tmp 5))⟩,
 ⟨some 20, none, .val (.bin .geq T.int (.tmp 19) (.const (.int 0)))⟩] [19])
 (.cond (.tmp 20)
  .skip
 (.exit 0)))
 (.seq (.block 1 (.seq (.seq (.draw false [
 (.early, ⟨some 23, none, .val (.mv (.tmp 0))⟩),
 (.early, ⟨some 24, none, .val (.mv (.tmp 5))⟩),
 (.early, ⟨some 25, none, .val (.indexAddr 1 (.tmp 23) (.tmp 24))⟩),
 (.early, ⟨some 26, none, .val (.load 1 false (.tmp 25))⟩),
 (.early, ⟨some 27, none, .val (.mv (.tmp 1))⟩),
 (.early, ⟨some 28, none, .val (.mv (.tmp 5))⟩),
 (.early, ⟨some 29, none, .val (.indexAddr 1 (.tmp 27) (.tmp 28))⟩),
 (.early, ⟨some 30, none, .val (.load 1 false (.tmp 29))⟩),
 (.early, ⟨some 31, none, .val (.bin .lss T.int (.tmp 26) (.tmp 30))⟩)] [23, 24, 25, 26, 27, 28, 29, 30])
 (.cond (.tmp 31)
 (.seq (.region [
 ⟨some 4, none, .val (.mv (.const (.int (-1))))⟩] [])
  .ret)
  .skip))
 (.seq (.draw false [
 (.early, ⟨some 32, none, .val (.mv (.tmp 0))⟩),
 (.early, ⟨some 33, none, .val (.mv (.tmp 5))⟩),
 (.early, ⟨some 34, none, .val (.indexAddr 1 (.tmp 32) (.tmp 33))⟩),
 (.early, ⟨some 35, none, .val (.load 1 false (.tmp 34))⟩),
 (.early, ⟨some 36, none, .val (.mv (.tmp 1))⟩),
 (.early, ⟨some 37, none, .val (.mv (.tmp 5))⟩),
 (.early, ⟨some 38, none, .val (.indexAddr 1 (.tmp 36) (.tmp 37))⟩),
 (.early, ⟨some 39, none, .val (.load 1 false (.tmp 38))⟩),
 (.early, ⟨some 40, none, .val (.bin .gtr T.int (.tmp 35) (.tmp 39))⟩)] [32, 33, 34, 35, 36, 37, 38, 39])
 (.cond (.tmp 40)
 (.seq (.region [
 ⟨some 4, none, .val (.mv (.const (.int 1)))⟩] [])
  .ret)
  .skip))))
 (.region [
 ⟨some 21, none, .val (.mv (.tmp 5))⟩,
 ⟨some 22, none, .val (.bin .sub T.int (.tmp 21) (.const (.int 1)))⟩,
 ⟨some 5, none, .val (.mv (.tmp 22))⟩] [21, 22]))))))
 (.seq (.region [
 ⟨some 4, none, .val (.mv (.const (.int 0)))⟩] [])
  .ret))))⟩
theorem H.podiumref09_cmp : Has P F.podiumref09_cmp C.podiumref09_cmp := ⟨Try.f70, Try.func70, by kernel_rfl, by kernel_rfl⟩

/-- podium/ratio.need -/
noncomputable def C.ratio_need : MFunc := ⟨8, 2, [],
 (.seq (.region [
 ⟨some 4, none, .val (.mv (.tmp 0))⟩,
 ⟨some 5, none, .val (.un .not (.tmp 4))⟩] [4])
 (.cond (.tmp 5)
 (.region [
 ⟨some 6, none, .val (.mv (.tmp 1))⟩,
 ⟨some 7, none, .val (.mkIface T.apiErrno (.tmp 6))⟩,
 ⟨none, none, .panic (.tmp 7)⟩] [6, 7])
  .skip))⟩
theorem H.ratio_need : Has P F.ratio_need C.ratio_need := ⟨Try.f71, Try.func71, by kernel_rfl, by kernel_rfl⟩

/-- podium/ratio.did[podium/api.Big] -/
noncomputable def C.ratio_did__apiBig : MFunc := ⟨10, 2, [.cell 4 2 true],
 (.seq (.region [
 ⟨some 2, none, .box T.apiBig (.tmp 0)⟩,
 ⟨some 4, none, .alloc T.apiBig [(.bool false), .nil]⟩] [])
 (.seq (.region [
 ⟨some 5, none, .val (.mv (.tmp 1))⟩,
 ⟨some 6, none, .val (.bin .eql T.apiErrno (.tmp 5) (.const (.int 0)))⟩,
 ⟨some 7, none, .val (.mv (.tmp 1))⟩,
 ⟨some 8, none, .call (.const (.func (.func F.ratio_need) [] [])) [(.tmp 6), (.tmp 7)]⟩] [5, 6, 7, 8])
 (.seq (.region [
 ⟨some 9, none, .val (.load 2 true (.tmp 2))⟩,
 ⟨none, none, .store 2 (.tmp 4) (.tmp 9)⟩] [9])
  .ret)))⟩
theorem H.ratio_did__apiBig : Has P F.ratio_did__apiBig C.ratio_did__apiBig := ⟨Try.f72, Try.func72, by kernel_rfl, by kernel_rfl⟩

/-- podium/nat.Mul -/
noncomputable def C.nat_Mul : MDFunc := ⟨21, 2, [4, 5], [.cell 4 2 true, .cell 5 1 false],
 (.pre [] (.region [
 ⟨some 2, none, .box T.apiBig (.tmp 0)⟩,
 ⟨some 3, none, .box T.apiBig (.tmp 1)⟩,
 ⟨some 4, none, .alloc T.apiBig [(.bool false), .nil]⟩,
 ⟨some 5, none, .alloc T.apiErrno [(.int 0)]⟩] [])
 (.push (.const (.func (.func F.nat_caught) [] [])) [(.tmp 5)]
 (.pre [] (.region [
 ⟨some 6, none, .val (.load 2 true (.tmp 2))⟩,
 ⟨some 7, none, .val (.load 2 true (.tmp 3))⟩,
 ⟨some 8, none, .val (.buildSlice T.apiBig 2 [(.bool false), .nil, (.bool false), .nil] [(0, 2, (.tmp 6)), (2, 2, (.tmp 7))])⟩,
 ⟨some 9, none, .call (.const (.func (.func F.nat_check) [] [])) [(.tmp 8)]⟩] [6, 7, 8, 9])
 (.pre [] (.draw true [
 (.late, ⟨some 10, none, .val (.fieldAddr 0 (.tmp 2))⟩),
 (.late, ⟨some 11, none, .val (.load 1 false (.tmp 10))⟩),
 (.late, ⟨some 12, none, .val (.fieldAddr 0 (.tmp 3))⟩),
 (.late, ⟨some 13, none, .val (.load 1 false (.tmp 12))⟩),
 (.late, ⟨some 14, none, .val (.eqBool true (.tmp 11) (.tmp 13))⟩),
 (.early, ⟨some 15, none, .val (.fieldAddr 1 (.tmp 2))⟩),
 (.early, ⟨some 16, none, .val (.load 1 false (.tmp 15))⟩),
 (.early, ⟨some 17, none, .val (.fieldAddr 1 (.tmp 3))⟩),
 (.early, ⟨some 18, none, .val (.load 1 false (.tmp 17))⟩),
 (.hard, ⟨some 19, none, .call (.const (.func (.func F.nat_mul) [] [])) [(.tmp 16), (.tmp 18)]⟩),
 (.hard, ⟨some 20, none, .call (.const (.func (.func F.nat_big) [] [])) [(.tmp 14), (.tmp 19)]⟩),
 (.last, ⟨none, none, .store 2 (.tmp 4) (.tmp 20)⟩),
 (.last, ⟨none, none, .store 1 (.tmp 5) (.const (.int 0))⟩)] [10, 11, 12, 13, 14, 15, 16, 17, 18, 19, 20])
 (.pre [] .ret
  .done)))))⟩
theorem H.nat_Mul : HasD P F.nat_Mul C.nat_Mul := ⟨Try.f73, Try.func73, by kernel_rfl, by kernel_rfl⟩

/-- podium/nat.caught -/
noncomputable def C.nat_caught : MRFunc := ⟨19, 1, 5, [],
 (.seq (.region [
 ⟨some 2, none, .val (.mv (.tmp 5))⟩] [])
 (.seq (.region [
 ⟨some 6, none, .val (.mv (.tmp 2))⟩,
 ⟨some 7, none, .eqNil true .iface (.tmp 6)⟩] [6])
 (.seq (.cond (.tmp 7)
 (.seq (.region [
 ⟨some 9, none, .val (.mv (.tmp 2))⟩,
 ⟨some 10, none, .val (.assert T.apiErrno (.int 0) true (.tmp 9))⟩,
 ⟨some 8, none, .val (.mv (.tmp 10))⟩,
 ⟨some 11, none, .val (.extract 0 (.tmp 8))⟩,
 ⟨some 12, none, .val (.extract 1 (.tmp 8))⟩,
 ⟨some 3, none, .val (.mv (.tmp 11))⟩,
 ⟨some 4, none, .val (.mv (.tmp 12))⟩] [9, 10, 8, 11, 12])
 (.seq (.seq (.region [
 ⟨some 13, none, .val (.mv (.tmp 4))⟩,
 ⟨some 14, none, .val (.un .not (.tmp 13))⟩] [13])
 (.cond (.tmp 14)
 (.region [
 ⟨some 15, none, .val (.mv (.tmp 2))⟩,
 ⟨none, none, .panic (.tmp 15)⟩] [15])
  .skip))
 (.region [
 ⟨some 16, none, .val (.mv (.tmp 0))⟩,
 ⟨some 17, none, .val (.mv (.tmp 3))⟩,
 ⟨some 18, none, .val (.nilCheck (.tmp 16))⟩,
 ⟨none, none, .store 1 (.tmp 18) (.tmp 17)⟩] [16, 17, 18])))
  .skip)
  .skip)))⟩
theorem H.nat_caught : HasR P F.nat_caught C.nat_caught := ⟨Try.f74, Try.func74, by kernel_rfl, by kernel_rfl⟩

/-- podium/nat.check -/
noncomputable def C.nat_check : MFunc := ⟨18, 1, [],
 (.seq (.region [
 ⟨some 5, none, .val (.mv (.tmp 0))⟩,
 ⟨some 6, none, .val (.len (.tmp 5))⟩,
 ⟨some 7, none, .val (.mv (.const (.int 0)))⟩] [])
 (.block 0 (.loop (.seq (.region [
 ⟨some 8, none, .val (.bin .lss T.int (.tmp 7) (.tmp 6))⟩] [])
 (.seq (.cond (.tmp 8)
  .skip
 (.exit 0))
 (.seq (.block 1 (.seq (.region [
 ⟨some 9, none, .val (.indexAddr 2 (.tmp 5) (.tmp 7))⟩,
 ⟨some 10, none, .val (.load 2 true (.tmp 9))⟩,
 ⟨some 3, none, .alloc T.apiBig [(.bool false), .nil]⟩,
 ⟨none, none, .store 2 (.tmp 3) (.tmp 10)⟩] [9, 10])
 (.seq (.region [
 ⟨some 11, none, .val (.load 2 true (.tmp 3))⟩,
 ⟨some 12, none, .call (.const (.func (.func F.nat_Check) [] [])) [(.tmp 11)]⟩,
 ⟨some 4, none, .val (.mv (.tmp 12))⟩] [11, 12])
 (.seq (.region [
 ⟨some 13, none, .val (.mv (.tmp 4))⟩,
 ⟨some 14, none, .val (.bin .neq T.apiErrno (.tmp 13) (.const (.int 0)))⟩] [13])
 (.cond (.tmp 14)
 (.region [
 ⟨some 15, none, .val (.mv (.tmp 4))⟩,
 ⟨some 16, none, .val (.mkIface T.apiErrno (.tmp 15))⟩,
 ⟨none, none, .panic (.tmp 16)⟩] [15, 16])
  .skip)))))
 (.region [
 ⟨some 17, none, .val (.bin .add T.int (.tmp 7) (.const (.int 1)))⟩,
 ⟨some 7, none, .val (.mv (.tmp 17))⟩] [17])))))))⟩
theorem H.nat_check : Has P F.nat_check C.nat_check := ⟨Try.f75, Try.func75, by kernel_rfl, by kernel_rfl⟩

/-- podium/nat.compare -/
noncomputable def C.nat_compare : MFunc := ⟨39, 2, [.cell 4 1 false],
 (.seq (.region [
 ⟨some 3, none, .box T.natdigits (.tmp 1)⟩,
 ⟨some 4, none, .alloc T.int [(.int 0)]⟩] [])
 (.seq (.seq (.region [
 ⟨some 7, none, .val (.mv (.tmp 0))⟩,
 ⟨some 8, none, .val (.len (.tmp 7))⟩,
 ⟨some 9, none, .val (.load 1 false (.tmp 3))⟩,
 ⟨some 10, none, .val (.len (.tmp 9))⟩,
 ⟨some 11, none, .val (.bin .neq T.int (.tmp 8) (.tmp 10))⟩] [7, 8, 9, 10])
 (.cond (.tmp 11)
 (.seq (.region [
 ⟨some 12, none, .val (.mv (.tmp 0))⟩,
 ⟨some 13, none, .val (.len (.tmp 12))⟩,
 ⟨some 14, none, .val (.load 1 false (.tmp 3))⟩,
 ⟨some 15, none, .val (.len (.tmp 14))⟩,
 ⟨some 16, none, .val (.bin .sub T.int (.tmp 13) (.tmp 15))⟩,
 ⟨some 17, none, .val (.minmax true [(.const (.int 0)), (.tmp 16)])⟩,
 ⟨some 18, none, .val (.minmax false [(.const (.int 1)), (.tmp 17)])⟩,
 ⟨some 19, none, .val (.bin .mul T.int (.const (.int 2)) (.tmp 18))⟩,
 ⟨some 20, none, .val (.bin .sub T.int (.tmp 19) (.const (.int 1)))⟩,
 ⟨none, none, .store 1 (.tmp 4) (.tmp 20)⟩] [12, 13, 14, 15, 16, 17, 18, 19, 20])
  .ret)
  .skip))
 (.seq (.seq (.region [
 ⟨some 21, none, .val (.mv (.tmp 0))⟩,
 ⟨some 22, none, .call (.const (.func (.func F.nat_down) [] [])) [(.tmp 21)]⟩] [21])
 (.block 0 (.rangeFunc (.tmp 22) [23, 24] (.seq (.region [
 ⟨some 5, none, .val (.mv (.tmp 23))⟩] [])
 (.region [
 ⟨some 6, none, .val (.mv (.tmp 24))⟩] []))
 (.block 1 (.block 2 (.seq (.region [
 ⟨some 26, none, .val (.mv (.tmp 6))⟩,
 ⟨some 27, none, .val (.load 1 false (.tmp 3))⟩,
 ⟨some 28, none, .val (.mv (.tmp 5))⟩,
 ⟨some 29, none, .val (.indexAddr 1 (.tmp 27) (.tmp 28))⟩,
 ⟨some 30, none, .val (.load 1 false (.tmp 29))⟩,
 ⟨some 31, none, .val (.bin .lss T.int (.tmp 26) (.tmp 30))⟩,
 ⟨some 25, none, .val (.mv (.tmp 31))⟩] [26, 27, 28, 29, 30, 31])
 (.cond (.tmp 25)
 (.seq (.region [
 ⟨none, none, .store 1 (.tmp 4) (.const (.int (-1)))⟩] [])
  .ret)
 (.seq (.region [
 ⟨some 33, none, .val (.mv (.tmp 6))⟩,
 ⟨some 34, none, .val (.load 1 false (.tmp 3))⟩,
 ⟨some 35, none, .val (.mv (.tmp 5))⟩,
 ⟨some 36, none, .val (.indexAddr 1 (.tmp 34) (.tmp 35))⟩,
 ⟨some 37, none, .val (.load 1 false (.tmp 36))⟩,
 ⟨some 38, none, .val (.bin .gtr T.int (.tmp 33) (.tmp 37))⟩,
 ⟨some 32, none, .val (.mv (.tmp 38))⟩] [33, 34, 35, 36, 37, 38])
 (.cond (.tmp 32)
 (.seq (.region [
 ⟨none, none, .store 1 (.tmp 4) (.const (.int 1))⟩] [])
  .ret)
  .skip)))))))))
 (.seq (.region [
 ⟨none, none, .store 1 (.tmp 4) (.const (.int 0))⟩] [])
  .ret))))⟩
theorem H.nat_compare : Has P F.nat_compare C.nat_compare := ⟨Try.f76, Try.func76, by kernel_rfl, by kernel_rfl⟩

/-- podium/nat.Check$1 -/
noncomputable def C.nat_Check_1 : MFunc := ⟨9, 1, [.tmp 2],
 (.seq (.region [
 ⟨some 2, none, .val (.mv (.const (.bool false)))⟩] [])
 (.seq (.region [
 ⟨some 3, none, .val (.mv (.tmp 0))⟩,
 ⟨some 4, none, .val (.bin .lss T.int (.tmp 3) (.const (.int 0)))⟩,
 ⟨some 5, none, .val (.mv (.tmp 4))⟩,
 ⟨some 6, some (5, false), .val (.mv (.tmp 0))⟩,
 ⟨some 7, some (5, false), .val (.bin .gtr T.int (.tmp 6) (.const (.int 1073741823)))⟩,
 ⟨some 8, none, .val (.pick (.tmp 5) (.const (.bool true)) (.tmp 7))⟩,
 ⟨some 2, none, .val (.mv (.tmp 8))⟩] [3, 4, 5, 6, 7, 8])
  .ret))⟩
theorem H.nat_Check_1 : Has P F.nat_Check_1 C.nat_Check_1 := ⟨Try.f77, Try.func77, by kernel_rfl, by kernel_rfl⟩

/-- slices.ContainsFunc[[]int,int] -/
noncomputable def C.slices_ContainsFunc__Lint_int : MFunc := ⟨9, 2, [.tmp 4],
 (.seq (.region [
 ⟨some 4, none, .val (.mv (.const (.bool false)))⟩] [])
 (.seq (.region [
 ⟨some 5, none, .val (.mv (.tmp 0))⟩,
 ⟨some 6, none, .val (.mv (.tmp 1))⟩,
 ⟨some 7, none, .call (.const (.func (.func F.slices_IndexFunc__Lint_int) [] [])) [(.tmp 5), (.tmp 6)]⟩,
 ⟨some 8, none, .val (.bin .geq T.int (.tmp 7) (.const (.int 0)))⟩,
 ⟨some 4, none, .val (.mv (.tmp 8))⟩] [5, 6, 7, 8])
  .ret))⟩
theorem H.slices_ContainsFunc__Lint_int : Has P F.slices_ContainsFunc__Lint_int C.slices_ContainsFunc__Lint_int := ⟨Try.f78, Try.func78, by kernel_rfl, by kernel_rfl⟩

/-- podium/nat.div -/
noncomputable def C.nat_div : MFunc := ⟨35, 2, [.tmp 4, .tmp 5],
 (.seq (.region [
 ⟨some 4, none, .val (.mv (.const .nil))⟩,
 ⟨some 5, none, .val (.mv (.const .nil))⟩] [])
 (.seq (.block 0 (.seq (.region [
 ⟨some 9, none, .val (.mv (.tmp 0))⟩,
 ⟨some 10, none, .val (.mv (.tmp 1))⟩,
 ⟨some 11, none, .call (.const (.func (.func F.nat_compare) [] [])) [(.tmp 9), (.tmp 10)]⟩,
 ⟨some 12, none, .val (.bin .lss T.int (.tmp 11) (.const (.int 0)))⟩,
 ⟨some 8, none, .val (.mv (.tmp 12))⟩] [9, 10, 11, 12])
 (.cond (.tmp 8)
 (.seq (.region [
 ⟨some 13, none, .val (.mv (.tmp 0))⟩,
 ⟨some 4, none, .val (.mv (.const .nil))⟩,
 ⟨some 5, none, .val (.mv (.tmp 13))⟩] [13])
  .ret)
 (.seq (.region [
 ⟨some 15, none, .val (.mv (.tmp 1))⟩,
 ⟨some 16, none, .val (.len (.tmp 15))⟩,
 ⟨some 17, none, .val (.bin .eql T.int (.tmp 16) (.const (.int 1)))⟩,
 ⟨some 14, none, .val (.mv (.tmp 17))⟩] [15, 16, 17])
 (.cond (.tmp 14)
 (.seq (.region [
 ⟨some 19, none, .val (.mv (.tmp 0))⟩,
 ⟨some 20, none, .val (.mv (.tmp 1))⟩,
 ⟨some 21, none, .val (.indexAddr 1 (.tmp 20) (.const (.int 0)))⟩,
 ⟨some 22, none, .val (.load 1 false (.tmp 21))⟩,
 ⟨some 23, none, .call (.const (.func (.func F.nat_short) [] [])) [(.tmp 19), (.tmp 22)]⟩,
 ⟨some 18, none, .val (.mv (.tmp 23))⟩,
 ⟨some 24, none, .val (.extract 0 (.tmp 18))⟩,
 ⟨some 25, none, .val (.extract 1 (.tmp 18))⟩,
 ⟨some 6, none, .val (.mv (.tmp 24))⟩,
 ⟨some 7, none, .val (.mv (.tmp 25))⟩] [19, 20, 21, 22, 23, 18, 24, 25])
 (.seq (.region [
 ⟨some 26, none, .val (.mv (.tmp 6))⟩,
 ⟨some 27, none, .val (.mv (.tmp 7))⟩,
 ⟨some 28, none, .val (.buildSlice T.int 1 [(.int 0)] [(0, 1, (.tmp 27))])⟩,
 ⟨some 29, none, .call (.const (.func (.func F.nat_trim) [] [])) [(.tmp 28)]⟩,
 ⟨some 4, none, .val (.mv (.tmp 26))⟩,
 ⟨some 5, none, .val (.mv (.tmp 29))⟩] [26, 27, 28, 29])
  .ret))
  .skip)))))
 (.seq (.region [
 ⟨some 30, none, .val (.mv (.tmp 0))⟩,
 ⟨some 31, none, .val (.mv (.tmp 1))⟩,
 ⟨some 32, none, .call (.const (.func (.func F.nat_long) [] [])) [(.tmp 30), (.tmp 31)]⟩,
 ⟨some 33, none, .val (.extract 0 (.tmp 32))⟩,
 ⟨some 34, none, .val (.extract 1 (.tmp 32))⟩,
 ⟨some 4, none, .val (.mv (.tmp 33))⟩,
 ⟨some 5, none, .val (.mv (.tmp 34))⟩] [30, 31, 32, 33, 34])
  .ret)))⟩
theorem H.nat_div : Has P F.nat_div C.nat_div := ⟨Try.f79, Try.func79, by kernel_rfl, by kernel_rfl⟩

/-- podium/nat.big -/
noncomputable def C.nat_big : MFunc := ⟨19, 2, [.cell 4 2 true],
 (.seq (.region [
 ⟨some 4, none, .alloc T.apiBig [(.bool false), .nil]⟩] [])
 (.seq (.region [
 ⟨some 5, none, .val (.mv (.tmp 1))⟩,
 ⟨some 6, none, .call (.const (.func (.func F.nat_trim) [] [])) [(.tmp 5)]⟩,
 ⟨some 1, none, .val (.mv (.tmp 6))⟩] [5, 6])
 (.seq (.seq (.region [
 ⟨some 7, none, .val (.mv (.tmp 1))⟩,
 ⟨some 8, none, .val (.len (.tmp 7))⟩,
 ⟨some 9, none, .val (.bin .gtr T.int (.tmp 8) (.const (.int 2048)))⟩] [7, 8])
 (.cond (.tmp 9)
 (.region [
 ⟨some 10, none, .val (.mkIface T.apiErrno (.const (.int 2)))⟩,
 ⟨none, none, .panic (.tmp 10)⟩] [10])
  .skip))
 (.seq (.region [
 ⟨some 11, none, .val (.mv (.tmp 0))⟩,
 ⟨some 12, none, .val (.mv (.tmp 11))⟩,
 ⟨some 13, some (12, true), .val (.mv (.tmp 1))⟩,
 ⟨some 14, some (12, true), .val (.len (.tmp 13))⟩,
 ⟨some 15, some (12, true), .val (.bin .gtr T.int (.tmp 14) (.const (.int 0)))⟩,
 ⟨some 16, none, .val (.pick (.tmp 12) (.tmp 15) (.const (.bool false)))⟩,
 ⟨some 17, none, .val (.mv (.tmp 1))⟩,
 ⟨some 18, none, .val (.build [(.bool false), .nil] [(0, 1, (.tmp 16)), (1, 1, (.tmp 17))])⟩,
 ⟨none, none, .store 2 (.tmp 4) (.tmp 18)⟩] [11, 12, 13, 14, 15, 16, 17, 18])
  .ret))))⟩
theorem H.nat_big : Has P F.nat_big C.nat_big := ⟨Try.f80, Try.func80, by kernel_rfl, by kernel_rfl⟩

/-- podium/podiumref09.trim -/
noncomputable def C.podiumref09_trim : MFunc := ⟨21, 1, [.tmp 2],
 (.seq (.region [
 ⟨some 2, none, .val (.mv (.const .nil))⟩] [])
 (.seq (.region [
 ⟨some 4, none, .val (.mv (.tmp 0))⟩,
 ⟨some 5, none, .val (.len (.tmp 4))⟩,
 ⟨some 3, none, .val (.mv (.tmp 5))⟩] [4, 5])
 (.seq (.block 0 (.loop (.seq (.seq (.region [
 ⟨some 6, none, .val (.mv (.tmp 3))⟩,
 ⟨some 7, none, .val (.bin .gtr T.int (.tmp 6) (.const (.int 0)))⟩,
 ⟨some 8, none, .val (.mv (.tmp 7))⟩,
 ⟨some 9, some (8, true), .val (.mv (.tmp 0))⟩,
 ⟨some 10, some (8, true), .val (.mv (.tmp 3))⟩,
 ⟨some 11, some (8, true), .val (.bin .sub T.int (.tmp 10) (.const (.int 1)))⟩,
 ⟨some 12, some (8, true), .val (.indexAddr 1 (.tmp 9) (.tmp 11))⟩,
 ⟨some 13, some (8, true), .val (.load 1 false (.tmp 12))⟩,
 ⟨some 14, some (8, true), .val (.bin .eql T.int (.tmp 13) (.const (.int 0)))⟩,
 ⟨some 15, none, .val (.pick (.tmp 8) (.tmp 14) (.const (.bool false)))⟩] [6, 7, 8, 9, 10, 11, 12, 13, 14])
 (.cond (.tmp 15)
  .skip
 (.exit 0)))
 (.block 1 (.region [
 ⟨some 16, none, .val (.mv (.tmp 3))⟩,
 ⟨some 17, none, .val (.bin .sub T.int (.tmp 16) (.const (.int 1)))⟩,
 ⟨some 3, none, .val (.mv (.tmp 17))⟩] [16, 17])))))
 (.seq (.region [
 ⟨some 18, none, .val (.mv (.tmp 0))⟩,
 ⟨some 19, none, .val (.mv (.tmp 3))⟩,
 ⟨some 20, none, .val (.slice 1 (.tmp 18) none (some (.tmp 19)) none)⟩,
 ⟨some 2, none, .val (.mv (.tmp 20))⟩] [18, 19, 20])
  .ret))))⟩
theorem H.podiumref09_trim : Has P F.podiumref09_trim C.podiumref09_trim := ⟨Try.f82, Try.func82, by kernel_rfl, by kernel_rfl⟩

/-- podium/podiumref09.times -/
noncomputable def C.podiumref09_times : MFunc := ⟨64, 2, [.tmp 4],
 (.seq (.region [
 ⟨some 4, none, .val (.mv (.const .nil))⟩] [])
 (.seq (.region [
 ⟨some 10, none, .val (.mv (.tmp 0))⟩,
 ⟨some 11, none, .val (.len (.tmp 10))⟩,
 ⟨some 12, none, .val (.mv (.tmp 1))⟩,
 ⟨some 13, none, .val (.len (.tmp 12))⟩,
 ⟨some 14, none, .val (.bin .add T.int (.tmp 11) (.tmp 13))⟩,
 ⟨some 15, none, .mkSlice T.int 8 1 [(.int 0)] (.tmp 14) (.tmp 14)⟩,
 ⟨some 5, none, .val (.mv (.tmp 15))⟩] [10, 11, 12, 13, 14, 15])
 (.seq (.seq (.region [
 ⟨some 6, none, .val (.mv (.const (.int 0)))⟩] [])
 (.block 0 (.loop (.seq (.seq (.region [
 ⟨some 16, none, .val (.mv (.tmp 6))⟩,
 ⟨some 17, none, .val (.mv (.tmp 0))⟩,
 ⟨some 18, none, .val (.len (.tmp 17))⟩,
 ⟨some 19, none, .val (.bin .lss T.int (.tmp 16) (.tmp 18))⟩] [16, 17, 18])
 (.cond (.tmp 19)
  .skip
 (.exit 0)))
 (.seq (.block 1 (.seq (.region [
 ⟨some 7, none, .val (.mv (.const (.int 0)))⟩] [])
 (.seq (.seq (.region [
 ⟨some 8, none, .val (.mv (.const (.int 0)))⟩] [])
 (.block 2 (.loop (.seq (.seq (.region [
 ⟨some 22, none, .val (.mv (.tmp 8))⟩,
 ⟨some 23, none, .val (.mv (.tmp 1))⟩,
 ⟨some 24, none, .val (.len (.tmp 23))⟩,
 ⟨some 25, none, .val (.bin .lss T.int (.tmp 22) (.tmp 24))⟩] [22, 23, 24])
 (.cond (.tmp 25)
  .skip
 (.exit 2)))
 (.seq (.block 3 (.seq (.draw false [
 (.early, ⟨some 28, none, .val (.mv (.tmp 5))⟩),
 (.early, ⟨some 29, none, .val (.mv (.tmp 6))⟩),
 (.early, ⟨some 30, none, .val (.mv (.tmp 8))⟩),
 (.early, ⟨some 31, none, .val (.bin .add T.int (.tmp 29) (.tmp 30))⟩),
 (.early, ⟨some 32, none, .val (.indexAddr 1 (.tmp 28) (.tmp 31))⟩),
 (.early, ⟨some 33, none, .val (.load 1 false (.tmp 32))⟩),
 (.early, ⟨some 34, none, .val (.mv (.tmp 0))⟩),
 (.early, ⟨some 35, none, .val (.mv (.tmp 6))⟩),
 (.early, ⟨some 36, none, .val (.indexAddr 1 (.tmp 34) (.tmp 35))⟩),
 (.early, ⟨some 37, none, .val (.load 1 false (.tmp 36))⟩),
 (.early, ⟨some 38, none, .val (.mv (.tmp 1))⟩),
 (.early, ⟨some 39, none, .val (.mv (.tmp 8))⟩),
 (.early, ⟨some 40, none, .val (.indexAddr 1 (.tmp 38) (.tmp 39))⟩),
 (.early, ⟨some 41, none, .val (.load 1 false (.tmp 40))⟩),
 (.early, ⟨some 42, none, .val (.bin .mul T.int (.tmp 37) (.tmp 41))⟩),
 (.early, ⟨some 43, none, .val (.bin .add T.int (.tmp 33) (.tmp 42))⟩),
 (.early, ⟨some 44, none, .val (.mv (.tmp 7))⟩),
 (.early, ⟨some 45, none, .val (.bin .add T.int (.tmp 43) (.tmp 44))⟩),
 (.early, ⟨some 9, none, .val (.mv (.tmp 45))⟩)] [28, 29, 30, 31, 32, 33, 34, 35, 36, 37, 38, 39, 40, 41, 42, 43, 44, 45])
 (.seq (.region [
 ⟨some 46, none, .val (.mv (.tmp 5))⟩,
 ⟨some 47, none, .val (.mv (.tmp 6))⟩,
 ⟨some 48, none, .val (.mv (.tmp 8))⟩,
 ⟨some 49, none, .val (.bin .add T.int (.tmp 47) (.tmp 48))⟩,
 ⟨some 50, none, .val (.mv (.tmp 9))⟩,
 ⟨some 51, none, .val (.bin .rem T.int (.tmp 50) (.const (.int 1073741824)))⟩,
 ⟨some 52, none, .val (.indexAddr 1 (.tmp 46) (.tmp 49))⟩,
 ⟨none, none, .store 1 (.tmp 52) (.tmp 51)⟩] [46, 47, 48, 49, 50, 51, 52])
 (.region [
 ⟨some 53, none, .val (.mv (.tmp 9))⟩,
 ⟨some 54, none, .val (.bin .quo T.int (.tmp 53) (.const (.int 1073741824)))⟩,
 ⟨some 7, none, .val (.mv (.tmp 54))⟩] [53, 54]))))
 (.region [
 ⟨some 26, none, .val (.mv (.tmp 8))⟩,
 ⟨some 27, none, .val (.bin .add T.int (.tmp 26) (.const (.int 1)))⟩,
 ⟨some 8, none, .val (.mv (.tmp 27))⟩] [26, 27]))))))
 (.region [
 ⟨some 55, none, .val (.mv (.tmp 5))⟩,
 ⟨some 56, none, .val (.mv (.tmp 6))⟩,
 ⟨some 57, none, .val (.mv (.tmp 1))⟩,
 ⟨some 58, none, .val (.len (.tmp 57))⟩,
 ⟨some 59, none, .val (.bin .add T.int (.tmp 56) (.tmp 58))⟩,
 ⟨some 60, none, .val (.mv (.tmp 7))⟩,
 ⟨some 61, none, .val (.indexAddr 1 (.tmp 55) (.tmp 59))⟩,
 ⟨none, none, .store 1 (.tmp 61) (.tmp 60)⟩] [55, 56, 57, 58, 59, 60, 61]))))
 (.region [
 ⟨some 20, none, .val (.mv (.tmp 6))⟩,
 ⟨some 21, none, .val (.bin .add T.int (.tmp 20) (.const (.int 1)))⟩,
 ⟨some 6, none, .val (.mv (.tmp 21))⟩] [20, 21]))))))
 (.seq (.region [
 ⟨some 62, none, .val (.mv (.tmp 5))⟩,
 ⟨some 63, none, .call (.const (.func (.func F.podiumref09_trim) [] [])) [(.tmp 62)]⟩,
 ⟨some 4, none, .val (.mv (.tmp 63))⟩] [62, 63])
  .ret))))⟩
theorem H.podiumref09_times : Has P F.podiumref09_times C.podiumref09_times := ⟨Try.f83, Try.func83, by kernel_rfl, by kernel_rfl⟩

/-- podium/podiumref09.less -/
noncomputable def C.podiumref09_less : MFunc := ⟨36, 2, [.tmp 4],
 (.seq (.region [
 ⟨some 4, none, .val (.mv (.const .nil))⟩] [])
 (.seq (.region [
 ⟨some 9, none, .val (.buildSlice T.int 0 [] [])⟩,
 ⟨some 5, none, .val (.mv (.tmp 9))⟩] [9])
 (.seq (.region [
 ⟨some 6, none, .val (.mv (.const (.int 0)))⟩] [])
 (.seq (.seq (.region [
 ⟨some 7, none, .val (.mv (.const (.int 0)))⟩] [])
 (.block 0 (.loop (.seq (.seq (.region [
 ⟨some 10, none, .val (.mv (.tmp 7))⟩,
 ⟨some 11, none, .val (.mv (.tmp 0))⟩,
 ⟨some 12, none, .val (.len (.tmp 11))⟩,
 ⟨some 13, none, .val (.bin .lss T.int (.tmp 10) (.tmp 12))⟩] [10, 11, 12])
 (.cond (.tmp 13)
  .skip
 (.exit 0)))
 (.seq (.block 1 (.seq (.draw true [
 (.late, ⟨some 16, none, .val (.mv (.tmp 0))⟩),
 (.late, ⟨some 17, none, .val (.mv (.tmp 7))⟩),
 (.late, ⟨some 18, none, .val (.indexAddr 1 (.tmp 16) (.tmp 17))⟩),
 (.late, ⟨some 19, none, .val (.load 1 false (.tmp 18))⟩),
 (.early, ⟨some 20, none, .val (.mv (.tmp 1))⟩),
 (.early, ⟨some 21, none, .val (.mv (.tmp 7))⟩),
 (.late, ⟨some 24, none, .val (.mv (.tmp 6))⟩),
 (.hard, ⟨some 22, none, .call (.const (.func (.func F.podiumref09_digit) [] [])) [(.tmp 20), (.tmp 21)]⟩),
 (.late, ⟨some 23, none, .val (.bin .sub T.int (.tmp 19) (.tmp 22))⟩),
 (.late, ⟨some 25, none, .val (.bin .sub T.int (.tmp 23) (.tmp 24))⟩),
 (.late, ⟨some 8, none, .val (.mv (.tmp 25))⟩)] [16, 17, 18, 19, 20, 21, 22, 23, 24, 25])
 (.seq (.region [
 ⟨some 6, none, .val (.mv (.const (.int 0)))⟩] [])
 (.seq (.seq (.region [
 ⟨some 26, none, .val (.mv (.tmp 8))⟩,
 ⟨some 27, none, .val (.bin .lss T.int (.tmp 26) (.const (.int 0)))⟩] [26])
 (.cond (.tmp 27)
 (.seq (.region [
 ⟨some 28, none, .val (.mv (.tmp 8))⟩,
 ⟨some 29, none, .val (.bin .add T.int (.tmp 28) (.const (.int 1073741824)))⟩,
 ⟨some 8, none, .val (.mv (.tmp 29))⟩] [28, 29])
 (.region [
 ⟨some 6, none, .val (.mv (.const (.int 1)))⟩] []))
  .skip))
 (.region [
 ⟨some 30, none, .val (.mv (.tmp 5))⟩,
 ⟨some 31, none, .val (.mv (.tmp 8))⟩,
 ⟨some 32, none, .val (.buildSlice T.int 1 [(.int 0)] [(0, 1, (.tmp 31))])⟩,
 ⟨some 33, none, .append T.int 8 1 (.tmp 30) (.tmp 32)⟩,
 ⟨some 5, none, .val (.mv (.tmp 33))⟩] [30, 31, 32, 33])))))
 (.region [
 ⟨some 14, none, .val (.mv (.tmp 7))⟩,
 ⟨some 15, none, .val (.bin .add T.int (.tmp 14) (.const (.int 1)))⟩,
 ⟨some 7, none, .val (.mv (.tmp 15))⟩] [14, 15]))))))
 (.seq (.region [
 ⟨some 34, none, .val (.mv (.tmp 5))⟩,
 ⟨some 35, none, .call (.const (.func (.func F.podiumref09_trim) [] [])) [(.tmp 34)]⟩,
 ⟨some 4, none, .val (.mv (.tmp 35))⟩] [34, 35])
  .ret)))))⟩
theorem H.podiumref09_less : Has P F.podiumref09_less C.podiumref09_less := ⟨Try.f84, Try.func84, by kernel_rfl, by kernel_rfl⟩

/-- podium/nat.mul -/
noncomputable def C.nat_mul : MFunc := ⟨66, 2, [.tmp 4],
 (.seq (.region [
 ⟨some 4, none, .val (.mv (.const .nil))⟩] [])
 (.seq (.region [
 ⟨some 12, none, .val (.mv (.tmp 0))⟩,
 ⟨some 13, none, .val (.len (.tmp 12))⟩,
 ⟨some 14, none, .val (.mv (.tmp 1))⟩,
 ⟨some 15, none, .val (.len (.tmp 14))⟩,
 ⟨some 16, none, .val (.bin .add T.int (.tmp 13) (.tmp 15))⟩,
 ⟨some 17, none, .mkSlice T.int 8 1 [(.int 0)] (.tmp 16) (.tmp 16)⟩,
 ⟨some 5, none, .val (.mv (.tmp 17))⟩] [12, 13, 14, 15, 16, 17])
 (.seq .skip
 (.seq (.seq (.region [
 ⟨some 18, none, .val (.mv (.tmp 0))⟩,
 ⟨some 19, none, .val (.len (.tmp 18))⟩,
 ⟨some 20, none, .val (.mv (.const (.int 0)))⟩] [])
 (.block 0 (.loop (.seq (.region [
 ⟨some 21, none, .val (.bin .lss T.int (.tmp 20) (.tmp 19))⟩] [])
 (.seq (.cond (.tmp 21)
  .skip
 (.exit 0))
 (.seq (.block 1 (.seq (.region [
 ⟨some 22, none, .val (.mv (.tmp 20))⟩,
 ⟨some 23, none, .val (.indexAddr 1 (.tmp 18) (.tmp 20))⟩,
 ⟨some 24, none, .val (.load 1 false (.tmp 23))⟩,
 ⟨some 6, none, .val (.mv (.tmp 22))⟩,
 ⟨some 7, none, .val (.mv (.tmp 24))⟩] [22, 23, 24])
 (.seq (.seq (.region [
 ⟨some 25, none, .val (.mv (.tmp 7))⟩,
 ⟨some 26, none, .val (.bin .eql T.int (.tmp 25) (.const (.int 0)))⟩] [25])
 (.cond (.tmp 26)
 (.exit 1)
  .skip))
 (.seq (.region [
 ⟨some 8, none, .val (.mv (.const (.int 0)))⟩] [])
 (.seq (.seq (.region [
 ⟨some 27, none, .val (.mv (.tmp 1))⟩,
 ⟨some 28, none, .val (.len (.tmp 27))⟩,
 ⟨some 29, none, .val (.mv (.const (.int 0)))⟩] [])
 (.block 2 (.loop (.seq (.region [
 ⟨some 30, none, .val (.bin .lss T.int (.tmp 29) (.tmp 28))⟩] [])
 (.seq (.cond (.tmp 30)
  .skip
 (.exit 2))
 (.seq (.block 3 (.seq (.region [
 ⟨some 31, none, .val (.mv (.tmp 29))⟩,
 ⟨some 32, none, .val (.indexAddr 1 (.tmp 27) (.tmp 29))⟩,
 ⟨some 33, none, .val (.load 1 false (.tmp 32))⟩,
 ⟨some 9, none, .val (.mv (.tmp 31))⟩,
 ⟨some 10, none, .val (.mv (.tmp 33))⟩] [31, 32, 33])
 (.seq (.region [
 ⟨some 34, none, .val (.mv (.tmp 5))⟩,
 ⟨some 35, none, .val (.mv (.tmp 6))⟩,
 ⟨some 36, none, .val (.mv (.tmp 9))⟩,
 ⟨some 37, none, .val (.bin .add T.int (.tmp 35) (.tmp 36))⟩,
 ⟨some 38, none, .val (.indexAddr 1 (.tmp 34) (.tmp 37))⟩,
 ⟨some 39, none, .val (.load 1 false (.tmp 38))⟩,
 ⟨some 40, none, .val (.mv (.tmp 7))⟩,
 ⟨some 41, none, .val (.mv (.tmp 10))⟩,
 ⟨some 42, none, .val (.bin .mul T.int (.tmp 40) (.tmp 41))⟩,
 ⟨some 43, none, .val (.bin .add T.int (.tmp 39) (.tmp 42))⟩,
 ⟨some 44, none, .val (.mv (.tmp 8))⟩,
 ⟨some 45, none, .val (.bin .add T.int (.tmp 43) (.tmp 44))⟩,
 ⟨some 11, none, .val (.mv (.tmp 45))⟩] [34, 35, 36, 37, 38, 39, 40, 41, 42, 43, 44, 45])
 (.region [
 ⟨some 46, none, .val (.mv (.tmp 5))⟩,
 ⟨some 47, none, .val (.mv (.tmp 6))⟩,
 ⟨some 48, none, .val (.mv (.tmp 9))⟩,
 ⟨some 49, none, .val (.bin .add T.int (.tmp 47) (.tmp 48))⟩,
 ⟨some 50, none, .val (.mv (.tmp 11))⟩,
 ⟨some 51, none, .val (.bin .and T.int (.tmp 50) (.const (.int 1073741823)))⟩,
 ⟨some 52, none, .val (.mv (.tmp 11))⟩,
 ⟨some 53, none, .val (.bin .shr T.int (.tmp 52) (.const (.val (.int .u64 30))))⟩,
 ⟨some 54, none, .val (.indexAddr 1 (.tmp 46) (.tmp 49))⟩,
 ⟨none, none, .store 1 (.tmp 54) (.tmp 51)⟩,
 ⟨some 8, none, .val (.mv (.tmp 53))⟩] [46, 47, 48, 49, 50, 51, 52, 53, 54]))))
 (.region [
 ⟨some 55, none, .val (.bin .add T.int (.tmp 29) (.const (.int 1)))⟩,
 ⟨some 29, none, .val (.mv (.tmp 55))⟩] [55])))))))
 (.region [
 ⟨some 56, none, .val (.mv (.tmp 5))⟩,
 ⟨some 57, none, .val (.mv (.tmp 6))⟩,
 ⟨some 58, none, .val (.mv (.tmp 1))⟩,
 ⟨some 59, none, .val (.len (.tmp 58))⟩,
 ⟨some 60, none, .val (.bin .add T.int (.tmp 57) (.tmp 59))⟩,
 ⟨some 61, none, .val (.mv (.tmp 8))⟩,
 ⟨some 62, none, .val (.indexAddr 1 (.tmp 56) (.tmp 60))⟩,
 ⟨none, none, .store 1 (.tmp 62) (.tmp 61)⟩] [56, 57, 58, 59, 60, 61, 62]))))))
 (.region [
 ⟨some 63, none, .val (.bin .add T.int (.tmp 20) (.const (.int 1)))⟩,
 ⟨some 20, none, .val (.mv (.tmp 63))⟩] [63])))))))
 (.seq (.region [
 ⟨some 64, none, .val (.mv (.tmp 5))⟩,
 ⟨some 65, none, .call (.const (.func (.func F.nat_trim) [] [])) [(.tmp 64)]⟩,
 ⟨some 4, none, .val (.mv (.tmp 65))⟩] [64, 65])
  .ret)))))⟩
theorem H.nat_mul : Has P F.nat_mul C.nat_mul := ⟨Try.f85, Try.func85, by kernel_rfl, by kernel_rfl⟩

/-- podium/nat.down -/
noncomputable def C.nat_down : MFunc := ⟨5, 1, [.tmp 2],
 (.seq (.region [
 ⟨some 2, none, .val (.mv (.const (.val .nilFunc)))⟩] [])
 (.seq (.region [
 ⟨some 3, none, .val (.mv (.tmp 0))⟩,
 ⟨some 4, none, .call (.const (.func (.func F.slices_Backward__natdigits_int) [] [])) [(.tmp 3)]⟩,
 ⟨some 2, none, .val (.mv (.tmp 4))⟩] [3, 4])
  .ret))⟩
theorem H.nat_down : Has P F.nat_down C.nat_down := ⟨Try.f86, Try.func86, by kernel_rfl, by kernel_rfl⟩

/-- slices.IndexFunc[[]int,int] -/
noncomputable def C.slices_IndexFunc__Lint_int : MFunc := ⟨19, 2, [.tmp 4],
 (.seq (.region [
 ⟨some 4, none, .val (.mv (.const (.int 0)))⟩] [])
 (.seq (.seq (.region [
 ⟨some 6, none, .val (.mv (.tmp 0))⟩,
 ⟨some 7, none, .val (.len (.tmp 6))⟩,
 ⟨some 8, none, .val (.mv (.const (.int 0)))⟩] [6])
 (.block 0 (.loop (.seq (.region [
 ⟨some 9, none, .val (.bin .lss T.int (.tmp 8) (.tmp 7))⟩] [])
 (.seq (.cond (.tmp 9)
  .skip
 (.exit 0))
 (.seq (.block 1 (.seq (.region [
 ⟨some 10, none, .val (.mv (.tmp 8))⟩,
 ⟨some 5, none, .val (.mv (.tmp 10))⟩] [10])
 (.seq (.region [
 ⟨some 11, none, .val (.mv (.tmp 1))⟩,
 ⟨some 12, none, .val (.mv (.tmp 0))⟩,
 ⟨some 13, none, .val (.mv (.tmp 5))⟩,
 ⟨some 14, none, .val (.indexAddr 1 (.tmp 12) (.tmp 13))⟩,
 ⟨some 15, none, .val (.load 1 false (.tmp 14))⟩,
 ⟨some 16, none, .call (.tmp 11) [(.tmp 15)]⟩] [11, 12, 13, 14, 15])
 (.cond (.tmp 16)
 (.seq (.region [
 ⟨some 17, none, .val (.mv (.tmp 5))⟩,
 ⟨some 4, none, .val (.mv (.tmp 17))⟩] [17])
  .ret)
  .skip))))
 (.region [
 ⟨some 18, none, .val (.bin .add T.int (.tmp 8) (.const (.int 1)))⟩,
 ⟨some 8, none, .val (.mv (.tmp 18))⟩] [18])))))))
 (.seq (.region [
 ⟨some 4, none, .val (.mv (.const (.int (-1))))⟩] [])
  .ret)))⟩
theorem H.slices_IndexFunc__Lint_int : Has P F.slices_IndexFunc__Lint_int C.slices_IndexFunc__Lint_int := ⟨Try.f87, Try.func87, by kernel_rfl, by kernel_rfl⟩

/-- podium/nat.short -/
noncomputable def C.nat_short : MFunc := ⟨31, 2, [.cell 4 1 false, .cell 5 1 false],
 (.seq (.region [
 ⟨some 3, none, .box T.int (.tmp 1)⟩,
 ⟨some 4, none, .alloc T.natdigits [.nil]⟩,
 ⟨some 5, none, .alloc T.int [(.int 0)]⟩] [])
 (.seq (.region [
 ⟨some 8, none, .val (.mv (.tmp 0))⟩,
 ⟨some 9, none, .val (.len (.tmp 8))⟩,
 ⟨some 10, none, .mkSlice T.int 8 1 [(.int 0)] (.tmp 9) (.tmp 9)⟩,
 ⟨none, none, .store 1 (.tmp 4) (.tmp 10)⟩] [8, 9, 10])
 (.seq (.seq (.region [
 ⟨some 11, none, .val (.mv (.tmp 0))⟩,
 ⟨some 12, none, .call (.const (.func (.func F.nat_down) [] [])) [(.tmp 11)]⟩] [11])
 (.block 0 (.rangeFunc (.tmp 12) [13, 14] (.seq (.region [
 ⟨some 6, none, .val (.mv (.tmp 13))⟩] [])
 (.region [
 ⟨some 7, none, .val (.mv (.tmp 14))⟩] []))
 (.block 1 (.seq (.region [
 ⟨some 15, none, .val (.load 1 false (.tmp 5))⟩,
 ⟨some 16, none, .val (.bin .shl T.int (.tmp 15) (.const (.val (.int .u64 30))))⟩,
 ⟨some 17, none, .val (.mv (.tmp 7))⟩,
 ⟨some 18, none, .val (.bin .or T.int (.tmp 16) (.tmp 17))⟩,
 ⟨none, none, .store 1 (.tmp 5) (.tmp 18)⟩] [15, 16, 17, 18])
 (.draw true [
 (.early, ⟨some 19, none, .val (.load 1 false (.tmp 4))⟩),
 (.early, ⟨some 20, none, .val (.mv (.tmp 6))⟩),
 (.early, ⟨some 21, none, .val (.load 1 false (.tmp 5))⟩),
 (.early, ⟨some 22, none, .val (.load 1 false (.tmp 3))⟩),
 (.early, ⟨some 23, none, .val (.bin .quo T.int (.tmp 21) (.tmp 22))⟩),
 (.late, ⟨some 24, none, .val (.load 1 false (.tmp 5))⟩),
 (.late, ⟨some 25, none, .val (.load 1 false (.tmp 3))⟩),
 (.late, ⟨some 26, none, .val (.bin .rem T.int (.tmp 24) (.tmp 25))⟩),
 (.early, ⟨some 27, none, .val (.indexAddr 1 (.tmp 19) (.tmp 20))⟩),
 (.hard, ⟨none, none, .store 1 (.tmp 27) (.tmp 23)⟩),
 (.last, ⟨none, none, .store 1 (.tmp 5) (.tmp 26)⟩)] [19, 20, 21, 22, 23, 24, 25, 26, 27]))))))
 (.seq (.draw true [
 (.early, ⟨some 28, none, .val (.load 1 false (.tmp 4))⟩),
 (.late, ⟨some 30, none, .val (.load 1 false (.tmp 5))⟩),
 (.hard, ⟨some 29, none, .call (.const (.func (.func F.nat_trim) [] [])) [(.tmp 28)]⟩),
 (.hard, ⟨none, none, .store 1 (.tmp 4) (.tmp 29)⟩),
 (.last, ⟨none, none, .store 1 (.tmp 5) (.tmp 30)⟩)] [28, 29, 30])
  .ret))))⟩
theorem H.nat_short : Has P F.nat_short C.nat_short := ⟨Try.f88, Try.func88, by kernel_rfl, by kernel_rfl⟩

/-- podium/nat.trim -/
noncomputable def C.nat_trim : MFunc := ⟨21, 1, [.tmp 2],
 (.seq (.region [
 ⟨some 2, none, .val (.mv (.const .nil))⟩] [])
 (.seq (.region [
 ⟨some 4, none, .val (.mv (.tmp 0))⟩,
 ⟨some 5, none, .val (.len (.tmp 4))⟩,
 ⟨some 3, none, .val (.mv (.tmp 5))⟩] [4, 5])
 (.seq (.block 0 (.loop (.seq (.seq (.region [
 ⟨some 6, none, .val (.mv (.tmp 3))⟩,
 ⟨some 7, none, .val (.bin .gtr T.int (.tmp 6) (.const (.int 0)))⟩,
 ⟨some 8, none, .val (.mv (.tmp 7))⟩,
 ⟨some 9, some (8, true), .val (.mv (.tmp 0))⟩,
 ⟨some 10, some (8, true), .val (.mv (.tmp 3))⟩,
 ⟨some 11, some (8, true), .val (.bin .sub T.int (.tmp 10) (.const (.int 1)))⟩,
 ⟨some 12, some (8, true), .val (.indexAddr 1 (.tmp 9) (.tmp 11))⟩,
 ⟨some 13, some (8, true), .val (.load 1 false (.tmp 12))⟩,
 ⟨some 14, some (8, true), .val (.bin .eql T.int (.tmp 13) (.const (.int 0)))⟩,
 ⟨some 15, none, .val (.pick (.tmp 8) (.tmp 14) (.const (.bool false)))⟩] [6, 7, 8, 9, 10, 11, 12, 13, 14])
 (.cond (.tmp 15)
  .skip
 (.exit 0)))
 (.block 1 (.region [
 ⟨some 16, none, .val (.mv (.tmp 3))⟩,
 ⟨some 17, none, .val (.bin .sub T.int (.tmp 16) (.const (.int 1)))⟩,
 ⟨some 3, none, .val (.mv (.tmp 17))⟩] [16, 17])))))
 (.seq (.region [
 ⟨some 18, none, .val (.mv (.tmp 0))⟩,
 ⟨some 19, none, .val (.mv (.tmp 3))⟩,
 ⟨some 20, none, .val (.slice 1 (.tmp 18) none (some (.tmp 19)) none)⟩,
 ⟨some 2, none, .val (.mv (.tmp 20))⟩] [18, 19, 20])
  .ret))))⟩
theorem H.nat_trim : Has P F.nat_trim C.nat_trim := ⟨Try.f89, Try.func89, by kernel_rfl, by kernel_rfl⟩

/-- podium/nat.long -/
noncomputable def C.nat_long : MFunc := ⟨219, 2, [.tmp 4, .tmp 5],
 (.seq (.region [
 ⟨some 4, none, .val (.mv (.const .nil))⟩,
 ⟨some 5, none, .val (.mv (.const .nil))⟩] [])
 (.seq (.region [
 ⟨some 19, none, .val (.mv (.tmp 1))⟩,
 ⟨some 20, none, .val (.mv (.tmp 1))⟩,
 ⟨some 21, none, .val (.len (.tmp 20))⟩,
 ⟨some 22, none, .val (.bin .sub T.int (.tmp 21) (.const (.int 1)))⟩,
 ⟨some 23, none, .val (.indexAddr 1 (.tmp 19) (.tmp 22))⟩,
 ⟨some 24, none, .val (.load 1 false (.tmp 23))⟩,
 ⟨some 25, none, .val (.toInt .u64 (.tmp 24))⟩,
 ⟨some 26, none, .call (.const (.func (.func F.math_bits_LeadingZeros64) [] [])) [(.tmp 25)]⟩,
 ⟨some 27, none, .val (.bin .sub T.int (.tmp 26) (.const (.int 34)))⟩,
 ⟨some 6, none, .val (.mv (.tmp 27))⟩] [19, 20, 21, 22, 23, 24, 25, 26, 27])
 (.seq (.region [
 ⟨some 28, none, .val (.mv (.tmp 1))⟩,
 ⟨some 29, none, .val (.mv (.tmp 6))⟩,
 ⟨some 30, none, .call (.const (.func (.func F.nat_moved) [] [])) [(.tmp 28), (.tmp 29)]⟩,
 ⟨some 7, none, .val (.mv (.tmp 30))⟩] [28, 29, 30])
 (.seq (.region [
 ⟨some 31, none, .val (.mv (.tmp 0))⟩,
 ⟨some 32, none, .val (.mv (.tmp 6))⟩,
 ⟨some 33, none, .call (.const (.func (.func F.nat_moved) [] [])) [(.tmp 31), (.tmp 32)]⟩,
 ⟨some 34, none, .val (.buildSlice T.int 2 [(.int 0), (.int 0)] [(0, 1, (.const (.int 0))), (1, 1, (.const (.int 0)))])⟩,
 ⟨some 35, none, .append T.int 8 1 (.tmp 33) (.tmp 34)⟩,
 ⟨some 8, none, .val (.mv (.tmp 35))⟩] [31, 32, 33, 34, 35])
 (.seq (.region [
 ⟨some 36, none, .val (.mv (.tmp 8))⟩,
 ⟨some 37, none, .val (.mv (.tmp 0))⟩,
 ⟨some 38, none, .val (.len (.tmp 37))⟩,
 ⟨some 39, none, .val (.bin .add T.int (.tmp 38) (.const (.int 1)))⟩,
 ⟨some 40, none, .val (.slice 1 (.tmp 36) none (some (.tmp 39)) none)⟩,
 ⟨some 8, none, .val (.mv (.tmp 40))⟩] [36, 37, 38, 39, 40])
 (.seq (.region [
 ⟨some 41, none, .val (.mv (.tmp 7))⟩,
 ⟨some 42, none, .val (.len (.tmp 41))⟩,
 ⟨some 9, none, .val (.mv (.tmp 42))⟩] [41, 42])
 (.seq (.region [
 ⟨some 43, none, .val (.mv (.tmp 0))⟩,
 ⟨some 44, none, .val (.len (.tmp 43))⟩,
 ⟨some 45, none, .val (.mv (.tmp 9))⟩,
 ⟨some 46, none, .val (.bin .sub T.int (.tmp 44) (.tmp 45))⟩,
 ⟨some 47, none, .val (.bin .add T.int (.tmp 46) (.const (.int 1)))⟩,
 ⟨some 48, none, .mkSlice T.int 8 1 [(.int 0)] (.tmp 47) (.tmp 47)⟩,
 ⟨some 4, none, .val (.mv (.tmp 48))⟩] [43, 44, 45, 46, 47, 48])
 (.seq (.seq (.region [
 ⟨some 49, none, .val (.mv (.tmp 4))⟩,
 ⟨some 50, none, .val (.len (.tmp 49))⟩,
 ⟨some 51, none, .val (.bin .sub T.int (.tmp 50) (.const (.int 1)))⟩,
 ⟨some 10, none, .val (.mv (.tmp 51))⟩] [49, 50, 51])
 (.block 0 (.loop (.seq (.seq (.region [
 ⟨some 52, none, .val (.mv (.tmp 10))⟩,
 ⟨some 53, none, .val (.bin .geq T.int (.tmp 52) (.const (.int 0)))⟩] [52])
 (.cond (.tmp 53)
  .skip
 (.exit 0)))
 (.seq (.block 1 (.seq (.draw false [
 (.early, ⟨some 56, none, .val (.mv (.tmp 8))⟩),
 (.early, ⟨some 57, none, .val (.mv (.tmp 10))⟩),
 (.early, ⟨some 58, none, .val (.mv (.tmp 9))⟩),
 (.early, ⟨some 59, none, .val (.bin .add T.int (.tmp 57) (.tmp 58))⟩),
 (.early, ⟨some 60, none, .val (.indexAddr 1 (.tmp 56) (.tmp 59))⟩),
 (.early, ⟨some 61, none, .val (.load 1 false (.tmp 60))⟩),
 (.early, ⟨some 62, none, .val (.bin .shl T.int (.tmp 61) (.const (.val (.int .u64 30))))⟩),
 (.early, ⟨some 63, none, .val (.mv (.tmp 8))⟩),
 (.early, ⟨some 64, none, .val (.mv (.tmp 10))⟩),
 (.early, ⟨some 65, none, .val (.mv (.tmp 9))⟩),
 (.early, ⟨some 66, none, .val (.bin .add T.int (.tmp 64) (.tmp 65))⟩),
 (.early, ⟨some 67, none, .val (.bin .sub T.int (.tmp 66) (.const (.int 1)))⟩),
 (.early, ⟨some 68, none, .val (.indexAddr 1 (.tmp 63) (.tmp 67))⟩),
 (.early, ⟨some 69, none, .val (.load 1 false (.tmp 68))⟩),
 (.early, ⟨some 70, none, .val (.bin .or T.int (.tmp 62) (.tmp 69))⟩),
 (.early, ⟨some 11, none, .val (.mv (.tmp 70))⟩)] [56, 57, 58, 59, 60, 61, 62, 63, 64, 65, 66, 67, 68, 69, 70])
 (.seq (.region [
 ⟨some 71, none, .val (.mv (.tmp 11))⟩,
 ⟨some 72, none, .val (.mv (.tmp 7))⟩,
 ⟨some 73, none, .val (.mv (.tmp 9))⟩,
 ⟨some 74, none, .val (.bin .sub T.int (.tmp 73) (.const (.int 1)))⟩,
 ⟨some 75, none, .val (.indexAddr 1 (.tmp 72) (.tmp 74))⟩,
 ⟨some 76, none, .val (.load 1 false (.tmp 75))⟩,
 ⟨some 77, none, .val (.bin .quo T.int (.tmp 71) (.tmp 76))⟩,
 ⟨some 78, none, .val (.minmax false [(.tmp 77), (.const (.int 1073741823))])⟩,
 ⟨some 12, none, .val (.mv (.tmp 78))⟩] [71, 72, 73, 74, 75, 76, 77, 78])
 (.seq (.block 2 (.loop (.seq (.seq (.draw false (
 (.early, ⟨some 79, none, .val (.mv (.tmp 12))⟩) ::
 (.early, ⟨some 80, none, .val (.mv (.tmp 7))⟩) ::
 (.early, ⟨some 81, none, .val (.mv (.tmp 9))⟩) ::
 (.early, ⟨some 82, none, .val (.bin .sub T.int (.tmp 81) (.const (.int 2)))⟩) ::
 (.early, ⟨some 83, none, .val (.indexAddr 1 (.tmp 80) (.tmp 82))⟩) ::
 (.early, ⟨some 84, none, .val (.load 1 false (.tmp 83))⟩) ::
 (.early, ⟨some 85, none, .val (.bin .mul T.int (.tmp 79) (.tmp 84))⟩) ::
 (.early, ⟨some 86, none, .val (.mv (.tmp 11))⟩) ::
 (.early, ⟨some 87, none, .val (.mv (.tmp 12))⟩) ::
 (.early, ⟨some 88, none, .val (.mv (.tmp 7))⟩) ::
 (.early, ⟨some 89, none, .val (.mv (.tmp 9))⟩) ::
 (.early, ⟨some 90, none, .val (.bin .sub T.int (.tmp 89) (.const (.int 1)))⟩) ::
 (.early, ⟨some 91, none, .val (.indexAddr 1 (.tmp 88) (.tmp 90))⟩) ::
 (.early, ⟨some 92, none, .val (.load 1 false (.tmp 91))⟩) ::
 (.early, ⟨some 93, none, .val (.bin .mul T.int (.tmp 87) (.tmp 92))⟩) ::
 (.early, ⟨some 94, none, .val (.bin .sub T.int (.tmp 86) (.tmp 93))⟩) ::
 (.early, ⟨some 95, none, .val (.bin .shl T.int (.tmp 94) (.const (.val (.int .u64 30))))⟩) ::
 (.early, ⟨some 96, none, .val (.mv (.tmp 8))⟩) ::
 (.early, ⟨some 97, none, .val (.mv (.tmp 10))⟩) ::
 (.early, ⟨some 98, none, .val (.mv (.tmp 9))⟩) ::
 (.early, ⟨some 99, none, .val (.bin .add T.int (.tmp 97) (.tmp 98))⟩) ::
 (.early, ⟨some 100, none, .val (.bin .sub T.int (.tmp 99) (.const (.int 2)))⟩) ::
 (.early, ⟨some 101, none, .val (.indexAddr 1 (.tmp 96) (.tmp 100))⟩) ::
 (.early, ⟨some 102, none, .val (.load 1 false (.tmp 101))⟩) ::
 (.early, ⟨some 103, none, .val (.bin .or T.int (.tmp 95) (.tmp 102))⟩) ::
 (.early, ⟨some 104, none, .val (.bin .gtr T.int (.tmp 85) (.tmp 103))⟩) ::
 (.early, ⟨some 105, none, .val (.mv (.tmp 104))⟩) ::
 (.early, ⟨some 106, some (105, true), .val (.mv (.tmp 11))⟩) ::
 (.early, ⟨some 107, some (105, true), .val (.mv (.tmp 12))⟩) ::
 (.early, ⟨some 108, some (105, true), .val (.mv (.tmp 7))⟩) ::
 (.early, ⟨some 109, some (105, true), .val (.mv (.tmp 9))⟩) ::
 (.early, ⟨some 110, some (105, true), .val (.bin .sub T.int (.tmp 109) (.const (.int 1)))⟩) ::
 (.early, ⟨some 111, some (105, true), .val (.indexAddr 1 (.tmp 108) (.tmp 110))⟩) ::
 (.early, ⟨some 112, some (105, true), .val (.load 1 false (.tmp 111))⟩) ::
 (.early, ⟨some 113, some (105, true), .val (.bin .mul T.int (.tmp 107) (.tmp 112))⟩) ::
 (.early, ⟨some 114, some (105, true), .val (.bin .sub T.int (.tmp 106) (.tmp 113))⟩) ::
 (.early, ⟨some 115, some (105, true), .val (.bin .leq T.int (.tmp 114) (.const (.int 1073741823)))⟩) ::
 (.early, ⟨some 116, none, .val (.pick (.tmp 105) (.tmp 115) (.const (.bool false)))⟩) :: []) (79 :: 80 :: 81 :: 82 :: 83 :: 84 :: 85 :: 86 :: 87 :: 88 :: 89 :: 90 :: 91 :: 92 :: 93 :: 94 :: 95 :: 96 :: 97 :: 98 :: 99 :: 100 :: 101 :: 102 :: 103 :: 104 :: 105 :: 106 :: 107 :: 108 :: 109 :: 110 :: 111 :: 112 :: 113 :: 114 :: 115 :: []))
 (.cond (.tmp 116)
  .skip
 (.exit 2)))
 (.block 3 (.region [
 ⟨some 117, none, .val (.mv (.tmp 12))⟩,
 ⟨some 118, none, .val (.bin .sub T.int (.tmp 117) (.const (.int 1)))⟩,
 ⟨some 12, none, .val (.mv (.tmp 118))⟩] [117, 118])))))
 (.seq (.region [
 ⟨some 13, none, .val (.mv (.const (.int 0)))⟩] [])
 (.seq (.seq (.region [
 ⟨some 119, none, .val (.mv (.tmp 7))⟩,
 ⟨some 120, none, .val (.len (.tmp 119))⟩,
 ⟨some 121, none, .val (.mv (.const (.int 0)))⟩] [119])
 (.block 4 (.loop (.seq (.region [
 ⟨some 122, none, .val (.bin .lss T.int (.tmp 121) (.tmp 120))⟩] [])
 (.seq (.cond (.tmp 122)
  .skip
 (.exit 4))
 (.seq (.block 5 (.seq (.region [
 ⟨some 123, none, .val (.mv (.tmp 121))⟩,
 ⟨some 14, none, .val (.mv (.tmp 123))⟩] [123])
 (.seq (.draw false [
 (.early, ⟨some 124, none, .val (.mv (.tmp 8))⟩),
 (.early, ⟨some 125, none, .val (.mv (.tmp 10))⟩),
 (.early, ⟨some 126, none, .val (.mv (.tmp 14))⟩),
 (.early, ⟨some 127, none, .val (.bin .add T.int (.tmp 125) (.tmp 126))⟩),
 (.early, ⟨some 128, none, .val (.indexAddr 1 (.tmp 124) (.tmp 127))⟩),
 (.early, ⟨some 129, none, .val (.load 1 false (.tmp 128))⟩),
 (.early, ⟨some 130, none, .val (.mv (.tmp 12))⟩),
 (.early, ⟨some 131, none, .val (.mv (.tmp 7))⟩),
 (.early, ⟨some 132, none, .val (.mv (.tmp 14))⟩),
 (.early, ⟨some 133, none, .val (.indexAddr 1 (.tmp 131) (.tmp 132))⟩),
 (.early, ⟨some 134, none, .val (.load 1 false (.tmp 133))⟩),
 (.early, ⟨some 135, none, .val (.bin .mul T.int (.tmp 130) (.tmp 134))⟩),
 (.early, ⟨some 136, none, .val (.bin .sub T.int (.tmp 129) (.tmp 135))⟩),
 (.early, ⟨some 137, none, .val (.mv (.tmp 13))⟩),
 (.early, ⟨some 138, none, .val (.bin .add T.int (.tmp 136) (.tmp 137))⟩),
 (.early, ⟨some 15, none, .val (.mv (.tmp 138))⟩)] [124, 125, 126, 127, 128, 129, 130, 131, 132, 133, 134, 135, 136, 137, 138])
 (.region [
 ⟨some 139, none, .val (.mv (.tmp 8))⟩,
 ⟨some 140, none, .val (.mv (.tmp 10))⟩,
 ⟨some 141, none, .val (.mv (.tmp 14))⟩,
 ⟨some 142, none, .val (.bin .add T.int (.tmp 140) (.tmp 141))⟩,
 ⟨some 143, none, .val (.mv (.tmp 15))⟩,
 ⟨some 144, none, .val (.bin .and T.int (.tmp 143) (.const (.int 1073741823)))⟩,
 ⟨some 145, none, .val (.mv (.tmp 15))⟩,
 ⟨some 146, none, .val (.bin .shr T.int (.tmp 145) (.const (.val (.int .u64 30))))⟩,
 ⟨some 147, none, .val (.indexAddr 1 (.tmp 139) (.tmp 142))⟩,
 ⟨none, none, .store 1 (.tmp 147) (.tmp 144)⟩,
 ⟨some 13, none, .val (.mv (.tmp 146))⟩] [139, 140, 141, 142, 143, 144, 145, 146, 147]))))
 (.region [
 ⟨some 148, none, .val (.bin .add T.int (.tmp 121) (.const (.int 1)))⟩,
 ⟨some 121, none, .val (.mv (.tmp 148))⟩] [148])))))))
 (.seq (.region [
 ⟨some 149, none, .val (.mv (.tmp 8))⟩,
 ⟨some 150, none, .val (.mv (.tmp 10))⟩,
 ⟨some 151, none, .val (.mv (.tmp 9))⟩,
 ⟨some 152, none, .val (.bin .add T.int (.tmp 150) (.tmp 151))⟩,
 ⟨some 153, none, .val (.indexAddr 1 (.tmp 149) (.tmp 152))⟩,
 ⟨some 154, none, .val (.load 1 false (.tmp 153))⟩,
 ⟨some 155, none, .val (.mv (.tmp 13))⟩,
 ⟨some 156, none, .val (.bin .add T.int (.tmp 154) (.tmp 155))⟩,
 ⟨some 157, none, .val (.indexAddr 1 (.tmp 149) (.tmp 152))⟩,
 ⟨none, none, .store 1 (.tmp 157) (.tmp 156)⟩] [149, 150, 151, 152, 153, 154, 155, 156, 157])
 (.seq (.seq (.region [
 ⟨some 158, none, .val (.mv (.tmp 8))⟩,
 ⟨some 159, none, .val (.mv (.tmp 10))⟩,
 ⟨some 160, none, .val (.mv (.tmp 9))⟩,
 ⟨some 161, none, .val (.bin .add T.int (.tmp 159) (.tmp 160))⟩,
 ⟨some 162, none, .val (.indexAddr 1 (.tmp 158) (.tmp 161))⟩,
 ⟨some 163, none, .val (.load 1 false (.tmp 162))⟩,
 ⟨some 164, none, .val (.bin .lss T.int (.tmp 163) (.const (.int 0)))⟩] [158, 159, 160, 161, 162, 163])
 (.cond (.tmp 164)
 (.seq (.region [
 ⟨some 165, none, .val (.mv (.tmp 12))⟩,
 ⟨some 166, none, .val (.bin .sub T.int (.tmp 165) (.const (.int 1)))⟩,
 ⟨some 12, none, .val (.mv (.tmp 166))⟩] [165, 166])
 (.seq (.region [
 ⟨some 16, none, .val (.mv (.const (.int 0)))⟩] [])
 (.seq (.seq (.region [
 ⟨some 167, none, .val (.mv (.tmp 7))⟩,
 ⟨some 168, none, .val (.len (.tmp 167))⟩,
 ⟨some 169, none, .val (.mv (.const (.int 0)))⟩] [167])
 (.block 6 (.loop (.seq (.region [
 ⟨some 170, none, .val (.bin .lss T.int (.tmp 169) (.tmp 168))⟩] [])
 (.seq (.cond (.tmp 170)
  .skip
 (.exit 6))
 (.seq (.block 7 (.seq (.region [
 ⟨some 171, none, .val (.mv (.tmp 169))⟩,
 ⟨some 17, none, .val (.mv (.tmp 171))⟩] [171])
 (.seq (.draw false [
 (.early, ⟨some 172, none, .val (.mv (.tmp 8))⟩),
 (.early, ⟨some 173, none, .val (.mv (.tmp 10))⟩),
 (.early, ⟨some 174, none, .val (.mv (.tmp 17))⟩),
 (.early, ⟨some 175, none, .val (.bin .add T.int (.tmp 173) (.tmp 174))⟩),
 (.early, ⟨some 176, none, .val (.indexAddr 1 (.tmp 172) (.tmp 175))⟩),
 (.early, ⟨some 177, none, .val (.load 1 false (.tmp 176))⟩),
 (.early, ⟨some 178, none, .val (.mv (.tmp 7))⟩),
 (.early, ⟨some 179, none, .val (.mv (.tmp 17))⟩),
 (.early, ⟨some 180, none, .val (.indexAddr 1 (.tmp 178) (.tmp 179))⟩),
 (.early, ⟨some 181, none, .val (.load 1 false (.tmp 180))⟩),
 (.early, ⟨some 182, none, .val (.bin .add T.int (.tmp 177) (.tmp 181))⟩),
 (.early, ⟨some 183, none, .val (.mv (.tmp 16))⟩),
 (.early, ⟨some 184, none, .val (.bin .add T.int (.tmp 182) (.tmp 183))⟩),
 (.early, ⟨some 18, none, .val (.mv (.tmp 184))⟩)] [172, 173, 174, 175, 176, 177, 178, 179, 180, 181, 182, 183, 184])
 (.region [
 ⟨some 185, none, .val (.mv (.tmp 8))⟩,
 ⟨some 186, none, .val (.mv (.tmp 10))⟩,
 ⟨some 187, none, .val (.mv (.tmp 17))⟩,
 ⟨some 188, none, .val (.bin .add T.int (.tmp 186) (.tmp 187))⟩,
 ⟨some 189, none, .val (.mv (.tmp 18))⟩,
 ⟨some 190, none, .val (.bin .and T.int (.tmp 189) (.const (.int 1073741823)))⟩,
 ⟨some 191, none, .val (.mv (.tmp 18))⟩,
 ⟨some 192, none, .val (.bin .shr T.int (.tmp 191) (.const (.val (.int .u64 30))))⟩,
 ⟨some 193, none, .val (.indexAddr 1 (.tmp 185) (.tmp 188))⟩,
 ⟨none, none, .store 1 (.tmp 193) (.tmp 190)⟩,
 ⟨some 16, none, .val (.mv (.tmp 192))⟩] [185, 186, 187, 188, 189, 190, 191, 192, 193]))))
 (.region [
 ⟨some 194, none, .val (.bin .add T.int (.tmp 169) (.const (.int 1)))⟩,
 ⟨some 169, none, .val (.mv (.tmp 194))⟩] [194])))))))
 (.region [
 ⟨some 195, none, .val (.mv (.tmp 8))⟩,
 ⟨some 196, none, .val (.mv (.tmp 10))⟩,
 ⟨some 197, none, .val (.mv (.tmp 9))⟩,
 ⟨some 198, none, .val (.bin .add T.int (.tmp 196) (.tmp 197))⟩,
 ⟨some 199, none, .val (.indexAddr 1 (.tmp 195) (.tmp 198))⟩,
 ⟨some 200, none, .val (.load 1 false (.tmp 199))⟩,
 ⟨some 201, none, .val (.mv (.tmp 16))⟩,
 ⟨some 202, none, .val (.bin .add T.int (.tmp 200) (.tmp 201))⟩,
 ⟨some 203, none, .val (.indexAddr 1 (.tmp 195) (.tmp 198))⟩,
 ⟨none, none, .store 1 (.tmp 203) (.tmp 202)⟩] [195, 196, 197, 198, 199, 200, 201, 202, 203]))))
  .skip))
 (.region [
 ⟨some 204, none, .val (.mv (.tmp 4))⟩,
 ⟨some 205, none, .val (.mv (.tmp 10))⟩,
 ⟨some 206, none, .val (.mv (.tmp 12))⟩,
 ⟨some 207, none, .val (.indexAddr 1 (.tmp 204) (.tmp 205))⟩,
 ⟨none, none, .store 1 (.tmp 207) (.tmp 206)⟩] [204, 205, 206, 207])))))))))
 (.region [
 ⟨some 54, none, .val (.mv (.tmp 10))⟩,
 ⟨some 55, none, .val (.bin .sub T.int (.tmp 54) (.const (.int 1)))⟩,
 ⟨some 10, none, .val (.mv (.tmp 55))⟩] [54, 55]))))))
 (.seq (.draw true [
 (.early, ⟨some 209, none, .val (.mv (.tmp 8))⟩),
 (.late, ⟨some 211, none, .val (.mv (.tmp 6))⟩),
 (.late, ⟨some 212, none, .val (.bin .shl T.int (.const (.int 1)) (.tmp 211))⟩),
 (.hard, ⟨some 210, none, .call (.const (.func (.func F.nat_trim) [] [])) [(.tmp 209)]⟩),
 (.hard, ⟨some 213, none, .call (.const (.func (.func F.nat_short) [] [])) [(.tmp 210), (.tmp 212)]⟩),
 (.late, ⟨some 208, none, .val (.mv (.tmp 213))⟩),
 (.late, ⟨some 214, none, .val (.extract 0 (.tmp 208))⟩),
 (.late, ⟨some 215, none, .val (.extract 1 (.tmp 208))⟩),
 (.late, ⟨some 5, none, .val (.mv (.tmp 214))⟩)] [209, 210, 211, 212, 213, 208, 214, 215])
 (.seq (.region [
 ⟨some 216, none, .val (.mv (.tmp 4))⟩,
 ⟨some 217, none, .call (.const (.func (.func F.nat_trim) [] [])) [(.tmp 216)]⟩,
 ⟨some 218, none, .val (.mv (.tmp 5))⟩,
 ⟨some 4, none, .val (.mv (.tmp 217))⟩,
 ⟨some 5, none, .val (.mv (.tmp 218))⟩] [216, 217, 218])
  .ret))))))))))⟩
theorem H.nat_long : Has P F.nat_long C.nat_long := ⟨Try.f90, Try.func90, by kernel_rfl, by kernel_rfl⟩

/-- podium/podiumref09.digit -/
noncomputable def C.podiumref09_digit : MFunc := ⟨13, 2, [.tmp 4],
 (.seq (.region [
 ⟨some 4, none, .val (.mv (.const (.int 0)))⟩] [])
 (.seq (.seq (.region [
 ⟨some 5, none, .val (.mv (.tmp 1))⟩,
 ⟨some 6, none, .val (.mv (.tmp 0))⟩,
 ⟨some 7, none, .val (.len (.tmp 6))⟩,
 ⟨some 8, none, .val (.bin .lss T.int (.tmp 5) (.tmp 7))⟩] [5, 6, 7])
 (.cond (.tmp 8)
 (.seq (.region [
 ⟨some 9, none, .val (.mv (.tmp 0))⟩,
 ⟨some 10, none, .val (.mv (.tmp 1))⟩,
 ⟨some 11, none, .val (.indexAddr 1 (.tmp 9) (.tmp 10))⟩,
 ⟨some 12, none, .val (.load 1 false (.tmp 11))⟩,
 ⟨some 4, none, .val (.mv (.tmp 12))⟩] [9, 10, 11, 12])
  .ret)
  .skip))
 (.seq (.region [
 ⟨some 4, none, .val (.mv (.const (.int 0)))⟩] [])
  .ret)))⟩
theorem H.podiumref09_digit : Has P F.podiumref09_digit C.podiumref09_digit := ⟨Try.f91, Try.func91, by kernel_rfl, by kernel_rfl⟩

/-- slices.Backward[podium/nat.digits,int] -/
noncomputable def C.slices_Backward__natdigits_int : MFunc := ⟨4, 1, [.tmp 2],
 (.seq (.region [
 ⟨some 1, none, .box T.natdigits (.tmp 0)⟩,
 ⟨some 2, none, .val (.mv (.const (.val .nilFunc)))⟩] [])
 (.seq (.region [
 ⟨some 3, none, .val (.mkFunc (.func F.slices_Backward__natdigits_int_1) [] [(.tmp 1)])⟩,
 ⟨some 2, none, .val (.mv (.tmp 3))⟩] [3])
  .ret))⟩
theorem H.slices_Backward__natdigits_int : Has P F.slices_Backward__natdigits_int C.slices_Backward__natdigits_int := ⟨Try.f92, Try.func92, by kernel_rfl, by kernel_rfl⟩

/-- math/bits.LeadingZeros64 -/
noncomputable def C.math_bits_LeadingZeros64 : MFunc := ⟨6, 1, [.tmp 2],
 (.seq (.region [
 ⟨some 2, none, .val (.mv (.const (.int 0)))⟩] [])
 (.seq (.region [
 ⟨some 3, none, .val (.mv (.tmp 0))⟩,
 ⟨some 4, none, .call (.const (.func (.func F.math_bits_Len64) [] [])) [(.tmp 3)]⟩,
 ⟨some 5, none, .val (.bin .sub T.int (.const (.int 64)) (.tmp 4))⟩,
 ⟨some 2, none, .val (.mv (.tmp 5))⟩] [3, 4, 5])
  .ret))⟩
theorem H.math_bits_LeadingZeros64 : Has P F.math_bits_LeadingZeros64 C.math_bits_LeadingZeros64 := ⟨Try.f93, Try.func93, by kernel_rfl, by kernel_rfl⟩

/-- podium/nat.moved -/
noncomputable def C.nat_moved : MFunc := ⟨10, 2, [.tmp 4],
 (.seq (.region [
 ⟨some 2, none, .box T.natdigits (.tmp 0)⟩,
 ⟨some 3, none, .box T.int (.tmp 1)⟩,
 ⟨some 4, none, .val (.mv (.const .nil))⟩] [])
 (.seq (.region [
 ⟨some 5, none, .val (.load 1 false (.tmp 2))⟩,
 ⟨some 6, none, .val (.len (.tmp 5))⟩,
 ⟨some 7, none, .val (.bin .add T.int (.tmp 6) (.const (.int 1)))⟩,
 ⟨some 8, none, .val (.mkFunc (.func F.nat_moved_1) [] [(.tmp 2), (.tmp 3)])⟩,
 ⟨some 9, none, .call (.const (.func (.func F.nat_carried) [] [])) [(.tmp 7), (.tmp 8)]⟩,
 ⟨some 4, none, .val (.mv (.tmp 9))⟩] [5, 6, 7, 8, 9])
  .ret))⟩
theorem H.nat_moved : Has P F.nat_moved C.nat_moved := ⟨Try.f94, Try.func94, by kernel_rfl, by kernel_rfl⟩

/-- slices.Backward[podium/nat.digits,int]$1 -/
noncomputable def C.slices_Backward__natdigits_int_1 : MFunc := ⟨19, 2, [],
 (.seq (.region [
 ⟨some 4, none, .val (.load 1 false (.tmp 1))⟩,
 ⟨some 5, none, .val (.len (.tmp 4))⟩,
 ⟨some 6, none, .val (.bin .sub T.int (.tmp 5) (.const (.int 1)))⟩,
 ⟨some 3, none, .val (.mv (.tmp 6))⟩] [4, 5, 6])
 (.block 0 (.loop (.seq (.seq (.region [
 ⟨some 7, none, .val (.mv (.tmp 3))⟩,
 ⟨some 8, none, .val (.bin .geq T.int (.tmp 7) (.const (.int 0)))⟩] [7])
 (.cond (.tmp 8)
  .skip
 (.exit 0)))
 (.seq (.block 1 (.seq (.region [
 ⟨some 11, none, .val (.mv (.tmp 0))⟩,
 ⟨some 12, none, .val (.mv (.tmp 3))⟩,
 ⟨some 13, none, .val (.load 1 false (.tmp 1))⟩,
 ⟨some 14, none, .val (.mv (.tmp 3))⟩,
 ⟨some 15, none, .val (.indexAddr 1 (.tmp 13) (.tmp 14))⟩,
 ⟨some 16, none, .val (.load 1 false (.tmp 15))⟩,
 ⟨some 17, none, .call (.tmp 11) [(.tmp 12), (.tmp 16)]⟩,
 ⟨some 18, none, .val (.un .not (.tmp 17))⟩] [11, 12, 13, 14, 15, 16, 17])
 (.cond (.tmp 18)
  .ret
  .skip)))
 (.region [
 ⟨some 9, none, .val (.mv (.tmp 3))⟩,
 ⟨some 10, none, .val (.bin .sub T.int (.tmp 9) (.const (.int 1)))⟩,
 ⟨some 3, none, .val (.mv (.tmp 10))⟩] [9, 10]))))))⟩
theorem H.slices_Backward__natdigits_int_1 : Has P F.slices_Backward__natdigits_int_1 C.slices_Backward__natdigits_int_1 := ⟨Try.f95, Try.func95, by kernel_rfl, by kernel_rfl⟩

/-- math/bits.Len64 -/
noncomputable def C.math_bits_Len64 : MFunc := ⟨25, 1, [.tmp 2],
 (.seq (.region [
 ⟨some 2, none, .val (.mv (.const (.int 0)))⟩] [])
 (.seq (.seq (.region [
 ⟨some 3, none, .val (.mv (.tmp 0))⟩,
 ⟨some 4, none, .val (.bin .geq T.uint64 (.tmp 3) (.const (.val (.int .u64 4294967296))))⟩] [3])
 (.cond (.tmp 4)
 (.seq (.region [
 ⟨some 5, none, .val (.mv (.tmp 0))⟩,
 ⟨some 6, none, .val (.bin .shr T.uint64 (.tmp 5) (.const (.val (.int .u64 32))))⟩,
 ⟨some 0, none, .val (.mv (.tmp 6))⟩] [5, 6])
 (.region [
 ⟨some 2, none, .val (.mv (.const (.int 32)))⟩] []))
  .skip))
 (.seq (.seq (.region [
 ⟨some 7, none, .val (.mv (.tmp 0))⟩,
 ⟨some 8, none, .val (.bin .geq T.uint64 (.tmp 7) (.const (.val (.int .u64 65536))))⟩] [7])
 (.cond (.tmp 8)
 (.seq (.region [
 ⟨some 9, none, .val (.mv (.tmp 0))⟩,
 ⟨some 10, none, .val (.bin .shr T.uint64 (.tmp 9) (.const (.val (.int .u64 16))))⟩,
 ⟨some 0, none, .val (.mv (.tmp 10))⟩] [9, 10])
 (.region [
 ⟨some 11, none, .val (.mv (.tmp 2))⟩,
 ⟨some 12, none, .val (.bin .add T.int (.tmp 11) (.const (.int 16)))⟩,
 ⟨some 2, none, .val (.mv (.tmp 12))⟩] [11, 12]))
  .skip))
 (.seq (.seq (.region [
 ⟨some 13, none, .val (.mv (.tmp 0))⟩,
 ⟨some 14, none, .val (.bin .geq T.uint64 (.tmp 13) (.const (.val (.int .u64 256))))⟩] [13])
 (.cond (.tmp 14)
 (.seq (.region [
 ⟨some 15, none, .val (.mv (.tmp 0))⟩,
 ⟨some 16, none, .val (.bin .shr T.uint64 (.tmp 15) (.const (.val (.int .u64 8))))⟩,
 ⟨some 0, none, .val (.mv (.tmp 16))⟩] [15, 16])
 (.region [
 ⟨some 17, none, .val (.mv (.tmp 2))⟩,
 ⟨some 18, none, .val (.bin .add T.int (.tmp 17) (.const (.int 8)))⟩,
 ⟨some 2, none, .val (.mv (.tmp 18))⟩] [17, 18]))
  .skip))
 (.seq (.region [
 ⟨some 19, none, .val (.mv (.tmp 2))⟩,
 ⟨some 20, none, .val (.mv (.tmp 0))⟩,
 ⟨some 21, none, .val (.toInt .u8 (.tmp 20))⟩,
 ⟨some 22, none, .val (.indexStr (.const (.val (.string ⟨#[0, 1, 2, 2, 3, 3, 3, 3, 4, 4, 4, 4, 4, 4, 4, 4, 5, 5, 5, 5, 5, 5, 5, 5, 5, 5, 5, 5, 5, 5, 5, 5, 6, 6, 6, 6, 6, 6, 6, 6, 6, 6, 6, 6, 6, 6, 6, 6, 6, 6, 6, 6, 6, 6, 6, 6, 6, 6, 6, 6, 6, 6, 6, 6, 7, 7, 7, 7, 7, 7, 7, 7, 7, 7, 7, 7, 7, 7, 7, 7, 7, 7, 7, 7, 7, 7, 7, 7, 7, 7, 7, 7, 7, 7, 7, 7, 7, 7, 7, 7, 7, 7, 7, 7, 7, 7, 7, 7, 7, 7, 7, 7, 7, 7, 7, 7, 7, 7, 7, 7, 7, 7, 7, 7, 7, 7, 7, 7, 8, 8, 8, 8, 8, 8, 8, 8, 8, 8, 8, 8, 8, 8, 8, 8, 8, 8, 8, 8, 8, 8, 8, 8, 8, 8, 8, 8, 8, 8, 8, 8, 8, 8, 8, 8, 8, 8, 8, 8, 8, 8, 8, 8, 8, 8, 8, 8, 8, 8, 8, 8, 8, 8, 8, 8, 8, 8, 8, 8, 8, 8, 8, 8, 8, 8, 8, 8, 8, 8, 8, 8, 8, 8, 8, 8, 8, 8, 8, 8, 8, 8, 8, 8, 8, 8, 8, 8, 8, 8, 8, 8, 8, 8, 8, 8, 8, 8, 8, 8, 8, 8, 8, 8, 8, 8, 8, 8, 8, 8, 8, 8, 8, 8, 8, 8, 8, 8, 8, 8, 8, 8, 8, 8, 8, 8, 8, 8]⟩))) (.tmp 21))⟩,
 ⟨some 23, none, .val (.toInt .i64 (.tmp 22))⟩,
 ⟨some 24, none, .val (.bin .add T.int (.tmp 19) (.tmp 23))⟩,
 ⟨some 2, none, .val (.mv (.tmp 24))⟩] [19, 20, 21, 22, 23, 24])
  .ret)))))⟩
theorem H.math_bits_Len64 : Has P F.math_bits_Len64 C.math_bits_Len64 := ⟨Try.f96, Try.func96, by kernel_rfl, by kernel_rfl⟩

/-- podium/nat.carried -/
noncomputable def C.nat_carried : MFunc := ⟨31, 2, [.tmp 4],
 (.seq (.region [
 ⟨some 4, none, .val (.mv (.const .nil))⟩] [])
 (.seq (.region [
 ⟨some 9, none, .val (.mv (.tmp 0))⟩,
 ⟨some 10, none, .mkSlice T.int 8 1 [(.int 0)] (.tmp 9) (.tmp 9)⟩,
 ⟨some 5, none, .val (.mv (.tmp 10))⟩,
 ⟨some 6, none, .val (.mv (.const (.int 0)))⟩] [9, 10])
 (.seq (.seq (.region [
 ⟨some 11, none, .val (.mv (.tmp 5))⟩,
 ⟨some 12, none, .val (.len (.tmp 11))⟩,
 ⟨some 13, none, .val (.mv (.const (.int 0)))⟩] [11])
 (.block 0 (.loop (.seq (.region [
 ⟨some 14, none, .val (.bin .lss T.int (.tmp 13) (.tmp 12))⟩] [])
 (.seq (.cond (.tmp 14)
  .skip
 (.exit 0))
 (.seq (.block 1 (.seq (.region [
 ⟨some 15, none, .val (.mv (.tmp 13))⟩,
 ⟨some 7, none, .val (.mv (.tmp 15))⟩] [15])
 (.seq (.region [
 ⟨some 16, none, .val (.mv (.tmp 1))⟩,
 ⟨some 17, none, .val (.mv (.tmp 7))⟩,
 ⟨some 18, none, .call (.tmp 16) [(.tmp 17)]⟩,
 ⟨some 19, none, .val (.mv (.tmp 6))⟩,
 ⟨some 20, none, .val (.bin .add T.int (.tmp 18) (.tmp 19))⟩,
 ⟨some 8, none, .val (.mv (.tmp 20))⟩] [16, 17, 18, 19, 20])
 (.region [
 ⟨some 21, none, .val (.mv (.tmp 5))⟩,
 ⟨some 22, none, .val (.mv (.tmp 7))⟩,
 ⟨some 23, none, .val (.mv (.tmp 8))⟩,
 ⟨some 24, none, .val (.bin .and T.int (.tmp 23) (.const (.int 1073741823)))⟩,
 ⟨some 25, none, .val (.mv (.tmp 8))⟩,
 ⟨some 26, none, .val (.bin .shr T.int (.tmp 25) (.const (.val (.int .u64 30))))⟩,
 ⟨some 27, none, .val (.indexAddr 1 (.tmp 21) (.tmp 22))⟩,
 ⟨none, none, .store 1 (.tmp 27) (.tmp 24)⟩,
 ⟨some 6, none, .val (.mv (.tmp 26))⟩] [21, 22, 23, 24, 25, 26, 27]))))
 (.region [
 ⟨some 28, none, .val (.bin .add T.int (.tmp 13) (.const (.int 1)))⟩,
 ⟨some 13, none, .val (.mv (.tmp 28))⟩] [28])))))))
 (.seq (.region [
 ⟨some 29, none, .val (.mv (.tmp 5))⟩,
 ⟨some 30, none, .call (.const (.func (.func F.nat_trim) [] [])) [(.tmp 29)]⟩,
 ⟨some 4, none, .val (.mv (.tmp 30))⟩] [29, 30])
  .ret))))⟩
theorem H.nat_carried : Has P F.nat_carried C.nat_carried := ⟨Try.f97, Try.func97, by kernel_rfl, by kernel_rfl⟩

/-- podium/nat.moved$1 -/
noncomputable def C.nat_moved_1 : MFunc := ⟨10, 3, [.tmp 4],
 (.seq (.region [
 ⟨some 4, none, .val (.mv (.const (.int 0)))⟩] [])
 (.seq (.draw true [
 (.early, ⟨some 5, none, .val (.load 1 false (.tmp 1))⟩),
 (.early, ⟨some 6, none, .val (.mv (.tmp 0))⟩),
 (.late, ⟨some 8, none, .val (.load 1 false (.tmp 2))⟩),
 (.hard, ⟨some 7, none, .call (.const (.func (.func F.nat_at) [] [])) [(.tmp 5), (.tmp 6)]⟩),
 (.late, ⟨some 9, none, .val (.bin .shl T.int (.tmp 7) (.tmp 8))⟩),
 (.late, ⟨some 4, none, .val (.mv (.tmp 9))⟩)] [5, 6, 7, 8, 9])
  .ret))⟩
theorem H.nat_moved_1 : Has P F.nat_moved_1 C.nat_moved_1 := ⟨Try.f98, Try.func98, by kernel_rfl, by kernel_rfl⟩

/-- podium/nat.at -/
noncomputable def C.nat_at : MFunc := ⟨13, 2, [.tmp 4],
 (.seq (.region [
 ⟨some 4, none, .val (.mv (.const (.int 0)))⟩] [])
 (.seq (.seq (.region [
 ⟨some 5, none, .val (.mv (.tmp 1))⟩,
 ⟨some 6, none, .val (.mv (.tmp 0))⟩,
 ⟨some 7, none, .val (.len (.tmp 6))⟩,
 ⟨some 8, none, .val (.bin .lss T.int (.tmp 5) (.tmp 7))⟩] [5, 6, 7])
 (.cond (.tmp 8)
 (.seq (.region [
 ⟨some 9, none, .val (.mv (.tmp 0))⟩,
 ⟨some 10, none, .val (.mv (.tmp 1))⟩,
 ⟨some 11, none, .val (.indexAddr 1 (.tmp 9) (.tmp 10))⟩,
 ⟨some 12, none, .val (.load 1 false (.tmp 11))⟩,
 ⟨some 4, none, .val (.mv (.tmp 12))⟩] [9, 10, 11, 12])
  .ret)
  .skip))
 (.seq (.region [
 ⟨some 4, none, .val (.mv (.const (.int 0)))⟩] [])
  .ret)))⟩
theorem H.nat_at : Has P F.nat_at C.nat_at := ⟨Try.f99, Try.func99, by kernel_rfl, by kernel_rfl⟩

end Go.Proofs.Ytliglilanpfjhaa
